/-
  No cell of these rows narrows 'for every input' (looked for: loops, veiled, ifaces, maps, wideKeys, modest, calm, conditions, laid).
  DERIVED. THE GIVEN ROWS OF THIS SEAT. 5 by the template 'for every input the law returns true; each argument reads behind the call as it read before'; 0 by the template 'total and deterministic' (their statements: YtmaddbonkpfdgaaTotals.lean).
  GIVEN WITH THE SEED: the statements are not yours to turn. If you find one false, say at which input.
  Laid BY PROGRAM, IN A SANDBOX (cutbox-rows.mjs): the forced cells as the released guide's own fill.sh prints them over the translation 185dc3a266c1b100… (all of the seat's roots in one cut). By AI agents, Wed Nov 11 2026. No macro, syntax, notation, axiom, sorry.
-/
import Derived.Test.YtmaddbonkpfdgaaChecked
import GoSem.Claim
import GoSem.ClaimJoined
import GoSem.ClaimMapViews
import Derived.JoinedTies
import Derived.KernelRfl
namespace Go.Proofs.Ytmaddbonkpfdgaa
/- THE CELL 'sum', in the pinned program and in every row, IS THE sha256 OF THE DUMP (.gsa) THAT YtmaddbonkpfdgaaProg.lean LOADS. Nothing in Lean hashes anything: it is a label: what it is worth is what the hold of that sum in a sandbox is worth. -/
noncomputable def Try.pinned : Pinned := { name := "ytmaddbonkpfdgaa", sum := "185dc3a266c1b100b80e4ddfa4d504bbc704e4c6ec691125297d898186d1ee82", checked := Try.checked }
namespace Rows
def none {H : Type} : Left H := { results := [], args := [] }

/-- 'horologelaw31.AccTells': WHATEVER THE INPUT: true; the input reads as it did. -/
def accTellsSpec : ChangeSpec := { name := "accTells", fn := fun _ => fun
  | [d] => { results := [.lit (.bool true)], args := [d] }
  | _ => none }
def accTellsRow : OpenClaim := { program := "ytmaddbonkpfdgaa", sum := "185dc3a266c1b100b80e4ddfa4d504bbc704e4c6ec691125297d898186d1ee82", func := "horologe/horologelaw31.AccTells", spec := "accTells", inPlace := ["math/bits.Sub64", "math/bits.Add64"], unfollowed := true, recurses := true, named := ["math/bits.divideError", "math/bits.overflowError"], apart := false }
def AccTellsSaid : Prop := accTellsRow.holds Try.pinned (OpenSpec.ofChange accTellsSpec)

/-- ITS FALSE NEIGHBOUR: 'it returns false'. Refute it at one input. -/
def accTellsWrong : ChangeSpec := { name := "accTells", fn := fun _ => fun
  | [d] => { results := [.lit (.bool false)], args := [d] }
  | _ => none }
def AccTellsWrongFalsely : Prop := accTellsRow.holds Try.pinned (OpenSpec.ofChange accTellsWrong)

/-- 'horologelaw31.AccMoved': WHATEVER THE INPUT: true; the input reads as it did. -/
def accMovedSpec : ChangeSpec := { name := "accMoved", fn := fun _ => fun
  | [d1, d2] => { results := [.lit (.bool true)], args := [d1, d2] }
  | _ => none }
def accMovedRow : OpenClaim := { program := "ytmaddbonkpfdgaa", sum := "185dc3a266c1b100b80e4ddfa4d504bbc704e4c6ec691125297d898186d1ee82", func := "horologe/horologelaw31.AccMoved", spec := "accMoved", inPlace := ["math/bits.Sub64", "math/bits.Add64"], unfollowed := true, recurses := true, named := ["math/bits.divideError", "math/bits.overflowError"], apart := false }
def AccMovedSaid : Prop := accMovedRow.holds Try.pinned (OpenSpec.ofChange accMovedSpec)

/-- ITS FALSE NEIGHBOUR: 'it returns false'. Refute it at one input. -/
def accMovedWrong : ChangeSpec := { name := "accMoved", fn := fun _ => fun
  | [d1, d2] => { results := [.lit (.bool false)], args := [d1, d2] }
  | _ => none }
def AccMovedWrongFalsely : Prop := accMovedRow.holds Try.pinned (OpenSpec.ofChange accMovedWrong)

/-- 'horologelaw31.AccBetween': WHATEVER THE INPUT: true; the input reads as it did. -/
def accBetweenSpec : ChangeSpec := { name := "accBetween", fn := fun _ => fun
  | [d1, d2] => { results := [.lit (.bool true)], args := [d1, d2] }
  | _ => none }
def accBetweenRow : OpenClaim := { program := "ytmaddbonkpfdgaa", sum := "185dc3a266c1b100b80e4ddfa4d504bbc704e4c6ec691125297d898186d1ee82", func := "horologe/horologelaw31.AccBetween", spec := "accBetween", inPlace := ["math/bits.Sub64", "math/bits.Add64"], unfollowed := true, recurses := true, named := ["math/bits.divideError", "math/bits.overflowError"], apart := false }
def AccBetweenSaid : Prop := accBetweenRow.holds Try.pinned (OpenSpec.ofChange accBetweenSpec)

/-- ITS FALSE NEIGHBOUR: 'it returns false'. Refute it at one input. -/
def accBetweenWrong : ChangeSpec := { name := "accBetween", fn := fun _ => fun
  | [d1, d2] => { results := [.lit (.bool false)], args := [d1, d2] }
  | _ => none }
def AccBetweenWrongFalsely : Prop := accBetweenRow.holds Try.pinned (OpenSpec.ofChange accBetweenWrong)

/-- 'horologelaw31.AccKnown': WHATEVER THE INPUT: true; the input reads as it did. -/
def accKnownSpec : ChangeSpec := { name := "accKnown", fn := fun _ => fun
  | [] => { results := [.lit (.bool true)], args := [] }
  | _ => none }
def accKnownRow : OpenClaim := { program := "ytmaddbonkpfdgaa", sum := "185dc3a266c1b100b80e4ddfa4d504bbc704e4c6ec691125297d898186d1ee82", func := "horologe/horologelaw31.AccKnown", spec := "accKnown", inPlace := ["math/bits.Sub64", "math/bits.Add64"], unfollowed := true, recurses := true, named := ["math/bits.divideError", "math/bits.overflowError"], apart := false }
def AccKnownSaid : Prop := accKnownRow.holds Try.pinned (OpenSpec.ofChange accKnownSpec)

/-- ITS FALSE NEIGHBOUR: 'it returns false'. Refute it at one input. -/
def accKnownWrong : ChangeSpec := { name := "accKnown", fn := fun _ => fun
  | [] => { results := [.lit (.bool false)], args := [] }
  | _ => none }
def AccKnownWrongFalsely : Prop := accKnownRow.holds Try.pinned (OpenSpec.ofChange accKnownWrong)

/-- 'horologelaw31.AccParts': WHATEVER THE INPUT: true; the input reads as it did. -/
def accPartsSpec : ChangeSpec := { name := "accParts", fn := fun _ => fun
  | [d1, d2, d3] => { results := [.lit (.bool true)], args := [d1, d2, d3] }
  | _ => none }
def accPartsRow : OpenClaim := { program := "ytmaddbonkpfdgaa", sum := "185dc3a266c1b100b80e4ddfa4d504bbc704e4c6ec691125297d898186d1ee82", func := "horologe/horologelaw31.AccParts", spec := "accParts", inPlace := ["math/bits.Sub64", "math/bits.Add64"], unfollowed := true, recurses := true, named := ["math/bits.divideError", "math/bits.overflowError"], apart := false }
def AccPartsSaid : Prop := accPartsRow.holds Try.pinned (OpenSpec.ofChange accPartsSpec)

/-- ITS FALSE NEIGHBOUR: 'it returns false'. Refute it at one input. -/
def accPartsWrong : ChangeSpec := { name := "accParts", fn := fun _ => fun
  | [d1, d2, d3] => { results := [.lit (.bool false)], args := [d1, d2, d3] }
  | _ => none }
def AccPartsWrongFalsely : Prop := accPartsRow.holds Try.pinned (OpenSpec.ofChange accPartsWrong)

/- THE SECOND FORM. 'bulk': how many values and letters a reading holds, each counted each time it is reached (what is shared counts as often as it is met; a slice's spare places count too). A statement '..UptoSaid' is the law's where the arguments, and the package variables that the reading takes, are together of bulk at most 1048576: NARROWER than '..Said'. Prove '..Said' where nothing that the law and all that it calls make is longer than what came in: it says more and counts as full. Else prove '..UptoSaid'. A law counts once. -/
mutual
def uptoBulk {H : Type} : DataW H → Nat
  | .lit (.string bytes) => bytes.length + 1
  | .lit _ => 1
  | .nil => 1
  | .ptr d => uptoBulk d + 1
  | .slice elems spare => uptoBulkAll elems + uptoBulkAll spare + 1
  | .agg parts => uptoBulkAll parts + 1
  | .iface _ d => uptoBulk d + 1
  | .map entries => uptoBulkEntries entries + 1
  | .held _ => 1
def uptoBulkAll {H : Type} : List (DataW H) → Nat
  | [] => 0
  | d :: r => uptoBulk d + uptoBulkAll r
def uptoBulkEntries {H : Type} : List (Lit × DataW H) → Nat
  | [] => 0
  | x :: r => uptoBulkEntry x + uptoBulkEntries r
def uptoBulkEntry {H : Type} : Lit × DataW H → Nat
  | (.string bytes, d) => bytes.length + uptoBulk d + 1
  | (_, d) => uptoBulk d + 1
 end
def uptoSmall : (H : Type) → List (DataW H) → Bool := fun _ ds => decide (uptoBulkAll ds ≤ 1048576)
def OpenSpec.upto (s : _root_.Go.ChangeSpec) : _root_.Go.OpenSpec := { _root_.Go.OpenSpec.ofChange s with cond := some uptoSmall }

/-- 'horologelaw31.AccTells', WHERE WHAT IT READS IS OF BULK AT MOST 1048576: true; the input reads as it did. -/
def accTellsUptoRow : OpenClaim := { program := "ytmaddbonkpfdgaa", sum := "185dc3a266c1b100b80e4ddfa4d504bbc704e4c6ec691125297d898186d1ee82", func := "horologe/horologelaw31.AccTells", spec := "accTells", inPlace := ["math/bits.Sub64", "math/bits.Add64"], unfollowed := true, recurses := true, named := ["math/bits.divideError", "math/bits.overflowError"], apart := false, narrowed := true }
def AccTellsUptoSaid : Prop := accTellsUptoRow.holds Try.pinned (OpenSpec.upto accTellsSpec)

/-- 'horologelaw31.AccMoved', WHERE WHAT IT READS IS OF BULK AT MOST 1048576: true; the input reads as it did. -/
def accMovedUptoRow : OpenClaim := { program := "ytmaddbonkpfdgaa", sum := "185dc3a266c1b100b80e4ddfa4d504bbc704e4c6ec691125297d898186d1ee82", func := "horologe/horologelaw31.AccMoved", spec := "accMoved", inPlace := ["math/bits.Sub64", "math/bits.Add64"], unfollowed := true, recurses := true, named := ["math/bits.divideError", "math/bits.overflowError"], apart := false, narrowed := true }
def AccMovedUptoSaid : Prop := accMovedUptoRow.holds Try.pinned (OpenSpec.upto accMovedSpec)

/-- 'horologelaw31.AccBetween', WHERE WHAT IT READS IS OF BULK AT MOST 1048576: true; the input reads as it did. -/
def accBetweenUptoRow : OpenClaim := { program := "ytmaddbonkpfdgaa", sum := "185dc3a266c1b100b80e4ddfa4d504bbc704e4c6ec691125297d898186d1ee82", func := "horologe/horologelaw31.AccBetween", spec := "accBetween", inPlace := ["math/bits.Sub64", "math/bits.Add64"], unfollowed := true, recurses := true, named := ["math/bits.divideError", "math/bits.overflowError"], apart := false, narrowed := true }
def AccBetweenUptoSaid : Prop := accBetweenUptoRow.holds Try.pinned (OpenSpec.upto accBetweenSpec)

/-- 'horologelaw31.AccKnown', WHERE WHAT IT READS IS OF BULK AT MOST 1048576: true; the input reads as it did. -/
def accKnownUptoRow : OpenClaim := { program := "ytmaddbonkpfdgaa", sum := "185dc3a266c1b100b80e4ddfa4d504bbc704e4c6ec691125297d898186d1ee82", func := "horologe/horologelaw31.AccKnown", spec := "accKnown", inPlace := ["math/bits.Sub64", "math/bits.Add64"], unfollowed := true, recurses := true, named := ["math/bits.divideError", "math/bits.overflowError"], apart := false, narrowed := true }
def AccKnownUptoSaid : Prop := accKnownUptoRow.holds Try.pinned (OpenSpec.upto accKnownSpec)

/-- 'horologelaw31.AccParts', WHERE WHAT IT READS IS OF BULK AT MOST 1048576: true; the input reads as it did. -/
def accPartsUptoRow : OpenClaim := { program := "ytmaddbonkpfdgaa", sum := "185dc3a266c1b100b80e4ddfa4d504bbc704e4c6ec691125297d898186d1ee82", func := "horologe/horologelaw31.AccParts", spec := "accParts", inPlace := ["math/bits.Sub64", "math/bits.Add64"], unfollowed := true, recurses := true, named := ["math/bits.divideError", "math/bits.overflowError"], apart := false, narrowed := true }
def AccPartsUptoSaid : Prop := accPartsUptoRow.holds Try.pinned (OpenSpec.upto accPartsSpec)

end Rows
end Go.Proofs.Ytmaddbonkpfdgaa
