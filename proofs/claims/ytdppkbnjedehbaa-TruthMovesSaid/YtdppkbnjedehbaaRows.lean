/-
  No cell of these rows narrows 'for every input' (looked for: loops, veiled, ifaces, maps, wideKeys, modest, calm, conditions, laid).
  DERIVED. THE GIVEN ROWS OF THIS SEAT. 5 by the template 'for every input the law returns true; each argument reads behind the call as it read before'; 0 by the template 'total and deterministic' (their statements: YtdppkbnjedehbaaTotals.lean).
  GIVEN WITH THE SEED: the statements are not yours to turn. If you find one false, say at which input.
  Laid BY PROGRAM, IN A SANDBOX (cutbox-rows.mjs): the forced cells as the released guide's own fill.sh prints them over the translation 69d86f8175c93819… (all of the seat's roots in one cut). By AI agents, Wed Nov 11 2026. No macro, syntax, notation, axiom, sorry.
-/
import Derived.Test.YtdppkbnjedehbaaChecked
import GoSem.Claim
import GoSem.ClaimJoined
import GoSem.ClaimMapViews
import Derived.JoinedTies
import Derived.KernelRfl
namespace Go.Proofs.Ytdppkbnjedehbaa
/- THE CELL 'sum', in the pinned program and in every row, IS THE sha256 OF THE DUMP (.gsa) THAT YtdppkbnjedehbaaProg.lean LOADS. Nothing in Lean hashes anything: it is a label: what it is worth is what the hold of that sum in a sandbox is worth. -/
noncomputable def Try.pinned : Pinned := { name := "ytdppkbnjedehbaa", sum := "69d86f8175c938196d8d73be1fdfec8178559aebb086c0bbe0296e085b039e8b", checked := Try.checked }
namespace Rows
def none {H : Type} : Left H := { results := [], args := [] }

/-- 'horologelaw33.TruthFinds': WHATEVER THE INPUT: true; the input reads as it did. -/
def truthFindsSpec : ChangeSpec := { name := "truthFinds", fn := fun _ => fun
  | [d1, d2] => { results := [.lit (.bool true)], args := [d1, d2] }
  | _ => none }
def truthFindsRow : OpenClaim := { program := "ytdppkbnjedehbaa", sum := "69d86f8175c938196d8d73be1fdfec8178559aebb086c0bbe0296e085b039e8b", func := "horologe/horologelaw33.TruthFinds", spec := "truthFinds", unfollowed := true, recurses := true, apart := false }
def TruthFindsSaid : Prop := truthFindsRow.holds Try.pinned (OpenSpec.ofChange truthFindsSpec)

/-- ITS FALSE NEIGHBOUR: 'it returns false'. Refute it at one input. -/
def truthFindsWrong : ChangeSpec := { name := "truthFinds", fn := fun _ => fun
  | [d1, d2] => { results := [.lit (.bool false)], args := [d1, d2] }
  | _ => none }
def TruthFindsWrongFalsely : Prop := truthFindsRow.holds Try.pinned (OpenSpec.ofChange truthFindsWrong)

/-- 'horologelaw33.TruthLeast': WHATEVER THE INPUT: true; the input reads as it did. -/
def truthLeastSpec : ChangeSpec := { name := "truthLeast", fn := fun _ => fun
  | [d] => { results := [.lit (.bool true)], args := [d] }
  | _ => none }
def truthLeastRow : OpenClaim := { program := "ytdppkbnjedehbaa", sum := "69d86f8175c938196d8d73be1fdfec8178559aebb086c0bbe0296e085b039e8b", func := "horologe/horologelaw33.TruthLeast", spec := "truthLeast", unfollowed := true, recurses := true, apart := false }
def TruthLeastSaid : Prop := truthLeastRow.holds Try.pinned (OpenSpec.ofChange truthLeastSpec)

/-- ITS FALSE NEIGHBOUR: 'it returns false'. Refute it at one input. -/
def truthLeastWrong : ChangeSpec := { name := "truthLeast", fn := fun _ => fun
  | [d] => { results := [.lit (.bool false)], args := [d] }
  | _ => none }
def TruthLeastWrongFalsely : Prop := truthLeastRow.holds Try.pinned (OpenSpec.ofChange truthLeastWrong)

/-- 'horologelaw33.TruthMoves': WHATEVER THE INPUT: true; the input reads as it did. -/
def truthMovesSpec : ChangeSpec := { name := "truthMoves", fn := fun _ => fun
  | [d1, d2, d3] => { results := [.lit (.bool true)], args := [d1, d2, d3] }
  | _ => none }
def truthMovesRow : OpenClaim := { program := "ytdppkbnjedehbaa", sum := "69d86f8175c938196d8d73be1fdfec8178559aebb086c0bbe0296e085b039e8b", func := "horologe/horologelaw33.TruthMoves", spec := "truthMoves", unfollowed := true, recurses := true, apart := false }
def TruthMovesSaid : Prop := truthMovesRow.holds Try.pinned (OpenSpec.ofChange truthMovesSpec)

/-- ITS FALSE NEIGHBOUR: 'it returns false'. Refute it at one input. -/
def truthMovesWrong : ChangeSpec := { name := "truthMoves", fn := fun _ => fun
  | [d1, d2, d3] => { results := [.lit (.bool false)], args := [d1, d2, d3] }
  | _ => none }
def TruthMovesWrongFalsely : Prop := truthMovesRow.holds Try.pinned (OpenSpec.ofChange truthMovesWrong)

/-- 'horologelaw33.TruthAround': WHATEVER THE INPUT: true; the input reads as it did. -/
def truthAroundSpec : ChangeSpec := { name := "truthAround", fn := fun _ => fun
  | [d1, d2] => { results := [.lit (.bool true)], args := [d1, d2] }
  | _ => none }
def truthAroundRow : OpenClaim := { program := "ytdppkbnjedehbaa", sum := "69d86f8175c938196d8d73be1fdfec8178559aebb086c0bbe0296e085b039e8b", func := "horologe/horologelaw33.TruthAround", spec := "truthAround", unfollowed := true, recurses := true, apart := false }
def TruthAroundSaid : Prop := truthAroundRow.holds Try.pinned (OpenSpec.ofChange truthAroundSpec)

/-- ITS FALSE NEIGHBOUR: 'it returns false'. Refute it at one input. -/
def truthAroundWrong : ChangeSpec := { name := "truthAround", fn := fun _ => fun
  | [d1, d2] => { results := [.lit (.bool false)], args := [d1, d2] }
  | _ => none }
def TruthAroundWrongFalsely : Prop := truthAroundRow.holds Try.pinned (OpenSpec.ofChange truthAroundWrong)

/-- 'horologelaw33.TruthKnown': WHATEVER THE INPUT: true; the input reads as it did. -/
def truthKnownSpec : ChangeSpec := { name := "truthKnown", fn := fun _ => fun
  | [] => { results := [.lit (.bool true)], args := [] }
  | _ => none }
def truthKnownRow : OpenClaim := { program := "ytdppkbnjedehbaa", sum := "69d86f8175c938196d8d73be1fdfec8178559aebb086c0bbe0296e085b039e8b", func := "horologe/horologelaw33.TruthKnown", spec := "truthKnown", unfollowed := true, recurses := true, apart := false }
def TruthKnownSaid : Prop := truthKnownRow.holds Try.pinned (OpenSpec.ofChange truthKnownSpec)

/-- ITS FALSE NEIGHBOUR: 'it returns false'. Refute it at one input. -/
def truthKnownWrong : ChangeSpec := { name := "truthKnown", fn := fun _ => fun
  | [] => { results := [.lit (.bool false)], args := [] }
  | _ => none }
def TruthKnownWrongFalsely : Prop := truthKnownRow.holds Try.pinned (OpenSpec.ofChange truthKnownWrong)

/- THE SECOND FORM. 'bulk': how many values and letters a reading holds, each counted each time it is reached (what is shared counts as often as it is met; a slice's spare places count too). A statement '..UptoSaid' is the law's where the arguments, and the package variables that the reading takes, are together of bulk at most 1048576: NARROWER than '..Said'. Prove '..Said' where nothing that the law and all that it calls make is longer than what came in: it says more and counts as full. Else prove '..UptoSaid'. A law counts once. -/
mutual
def uptoBulk {H : Type} : DataW H → Nat
  | .lit (.string bytes) => bytes.length + 1
  | .lit _ => 1
  | .nil => 1
  | .ptr d => uptoBulk d + 1
  | .slice elems spare => uptoBulkAll elems + uptoBulkAll spare + 1
  | .agg parts => uptoBulkAll parts + 1
  | .iface _ d => uptoBulk d + 1
  | .map entries => uptoBulkEntries entries + 1
  | .held _ => 1
def uptoBulkAll {H : Type} : List (DataW H) → Nat
  | [] => 0
  | d :: r => uptoBulk d + uptoBulkAll r
def uptoBulkEntries {H : Type} : List (Lit × DataW H) → Nat
  | [] => 0
  | x :: r => uptoBulkEntry x + uptoBulkEntries r
def uptoBulkEntry {H : Type} : Lit × DataW H → Nat
  | (.string bytes, d) => bytes.length + uptoBulk d + 1
  | (_, d) => uptoBulk d + 1
 end
def uptoSmall : (H : Type) → List (DataW H) → Bool := fun _ ds => decide (uptoBulkAll ds ≤ 1048576)
def OpenSpec.upto (s : _root_.Go.ChangeSpec) : _root_.Go.OpenSpec := { _root_.Go.OpenSpec.ofChange s with cond := some uptoSmall }

/-- 'horologelaw33.TruthFinds', WHERE WHAT IT READS IS OF BULK AT MOST 1048576: true; the input reads as it did. -/
def truthFindsUptoRow : OpenClaim := { program := "ytdppkbnjedehbaa", sum := "69d86f8175c938196d8d73be1fdfec8178559aebb086c0bbe0296e085b039e8b", func := "horologe/horologelaw33.TruthFinds", spec := "truthFinds", unfollowed := true, recurses := true, apart := false, narrowed := true }
def TruthFindsUptoSaid : Prop := truthFindsUptoRow.holds Try.pinned (OpenSpec.upto truthFindsSpec)

/-- 'horologelaw33.TruthLeast', WHERE WHAT IT READS IS OF BULK AT MOST 1048576: true; the input reads as it did. -/
def truthLeastUptoRow : OpenClaim := { program := "ytdppkbnjedehbaa", sum := "69d86f8175c938196d8d73be1fdfec8178559aebb086c0bbe0296e085b039e8b", func := "horologe/horologelaw33.TruthLeast", spec := "truthLeast", unfollowed := true, recurses := true, apart := false, narrowed := true }
def TruthLeastUptoSaid : Prop := truthLeastUptoRow.holds Try.pinned (OpenSpec.upto truthLeastSpec)

/-- 'horologelaw33.TruthMoves', WHERE WHAT IT READS IS OF BULK AT MOST 1048576: true; the input reads as it did. -/
def truthMovesUptoRow : OpenClaim := { program := "ytdppkbnjedehbaa", sum := "69d86f8175c938196d8d73be1fdfec8178559aebb086c0bbe0296e085b039e8b", func := "horologe/horologelaw33.TruthMoves", spec := "truthMoves", unfollowed := true, recurses := true, apart := false, narrowed := true }
def TruthMovesUptoSaid : Prop := truthMovesUptoRow.holds Try.pinned (OpenSpec.upto truthMovesSpec)

/-- 'horologelaw33.TruthAround', WHERE WHAT IT READS IS OF BULK AT MOST 1048576: true; the input reads as it did. -/
def truthAroundUptoRow : OpenClaim := { program := "ytdppkbnjedehbaa", sum := "69d86f8175c938196d8d73be1fdfec8178559aebb086c0bbe0296e085b039e8b", func := "horologe/horologelaw33.TruthAround", spec := "truthAround", unfollowed := true, recurses := true, apart := false, narrowed := true }
def TruthAroundUptoSaid : Prop := truthAroundUptoRow.holds Try.pinned (OpenSpec.upto truthAroundSpec)

/-- 'horologelaw33.TruthKnown', WHERE WHAT IT READS IS OF BULK AT MOST 1048576: true; the input reads as it did. -/
def truthKnownUptoRow : OpenClaim := { program := "ytdppkbnjedehbaa", sum := "69d86f8175c938196d8d73be1fdfec8178559aebb086c0bbe0296e085b039e8b", func := "horologe/horologelaw33.TruthKnown", spec := "truthKnown", unfollowed := true, recurses := true, apart := false, narrowed := true }
def TruthKnownUptoSaid : Prop := truthKnownUptoRow.holds Try.pinned (OpenSpec.upto truthKnownSpec)

end Rows
end Go.Proofs.Ytdppkbnjedehbaa
