/-
  No cell of these rows narrows 'for every input' (looked for: loops, veiled, ifaces, maps, wideKeys, modest, calm, conditions, laid).
  DERIVED. THE GIVEN ROWS OF THIS SEAT. 6 by the template 'for every input the law returns true; each argument reads behind the call as it read before'; 0 by the template 'total and deterministic' (their statements: YtdgmcgfkammioaaTotals.lean).
  GIVEN WITH THE SEED: the statements are not yours to turn. If you find one false, say at which input.
  Laid BY PROGRAM, IN A SANDBOX (cutbox-rows.mjs): the forced cells as the released guide's own fill.sh prints them over the translation 1ae6f6b8c44f85d8… (all of the seat's roots in one cut). By AI agents, Wed Nov 11 2026. No macro, syntax, notation, axiom, sorry.
-/
import Derived.Test.YtdgmcgfkammioaaChecked
import GoSem.Claim
import GoSem.ClaimJoined
import GoSem.ClaimMapViews
import Derived.JoinedTies
import Derived.KernelRfl
namespace Go.Proofs.Ytdgmcgfkammioaa
/- THE CELL 'sum', in the pinned program and in every row, IS THE sha256 OF THE DUMP (.gsa) THAT YtdgmcgfkammioaaProg.lean LOADS. Nothing in Lean hashes anything: it is a label: what it is worth is what the hold of that sum in a sandbox is worth. -/
noncomputable def Try.pinned : Pinned := { name := "ytdgmcgfkammioaa", sum := "1ae6f6b8c44f85d80353f8ea9edc1602f9b3a04c3d990a3e8854ab4c224d461c", checked := Try.checked }
namespace Rows
def none {H : Type} : Left H := { results := [], args := [] }

/-- 'horologelaw35.EpochPuts': WHATEVER THE INPUT: true; the input reads as it did. -/
def epochPutsSpec : ChangeSpec := { name := "epochPuts", fn := fun _ => fun
  | [d1, d2, d3] => { results := [.lit (.bool true)], args := [d1, d2, d3] }
  | _ => none }
def epochPutsRow : OpenClaim := { program := "ytdgmcgfkammioaa", sum := "1ae6f6b8c44f85d80353f8ea9edc1602f9b3a04c3d990a3e8854ab4c224d461c", func := "horologe/horologelaw35.EpochPuts", spec := "epochPuts", inPlace := ["math/bits.Sub64"], unfollowed := true, recurses := true, named := ["math/bits.divideError", "math/bits.overflowError"], apart := false }
def EpochPutsSaid : Prop := epochPutsRow.holds Try.pinned (OpenSpec.ofChange epochPutsSpec)

/-- ITS FALSE NEIGHBOUR: 'it returns false'. Refute it at one input. -/
def epochPutsWrong : ChangeSpec := { name := "epochPuts", fn := fun _ => fun
  | [d1, d2, d3] => { results := [.lit (.bool false)], args := [d1, d2, d3] }
  | _ => none }
def EpochPutsWrongFalsely : Prop := epochPutsRow.holds Try.pinned (OpenSpec.ofChange epochPutsWrong)

/-- 'horologelaw35.EpochKnown': WHATEVER THE INPUT: true; the input reads as it did. -/
def epochKnownSpec : ChangeSpec := { name := "epochKnown", fn := fun _ => fun
  | [] => { results := [.lit (.bool true)], args := [] }
  | _ => none }
def epochKnownRow : OpenClaim := { program := "ytdgmcgfkammioaa", sum := "1ae6f6b8c44f85d80353f8ea9edc1602f9b3a04c3d990a3e8854ab4c224d461c", func := "horologe/horologelaw35.EpochKnown", spec := "epochKnown", inPlace := ["math/bits.Sub64", "maps.clone"], unfollowed := true, recurses := true, named := ["math/bits.divideError", "math/bits.overflowError"], apart := false }
def EpochKnownSaid : Prop := epochKnownRow.holds Try.pinned (OpenSpec.ofChange epochKnownSpec)

/-- ITS FALSE NEIGHBOUR: 'it returns false'. Refute it at one input. -/
def epochKnownWrong : ChangeSpec := { name := "epochKnown", fn := fun _ => fun
  | [] => { results := [.lit (.bool false)], args := [] }
  | _ => none }
def EpochKnownWrongFalsely : Prop := epochKnownRow.holds Try.pinned (OpenSpec.ofChange epochKnownWrong)

/-- 'horologelaw35.EpochCopies': WHATEVER THE INPUT: true; the input reads as it did. -/
def epochCopiesSpec : ChangeSpec := { name := "epochCopies", fn := fun _ => fun
  | [d1, d2] => { results := [.lit (.bool true)], args := [d1, d2] }
  | _ => none }
def epochCopiesRow : OpenClaim := { program := "ytdgmcgfkammioaa", sum := "1ae6f6b8c44f85d80353f8ea9edc1602f9b3a04c3d990a3e8854ab4c224d461c", func := "horologe/horologelaw35.EpochCopies", spec := "epochCopies", inPlace := ["math/bits.Sub64", "maps.clone"], unfollowed := true, recurses := true, named := ["math/bits.divideError", "math/bits.overflowError"], apart := false }
def EpochCopiesSaid : Prop := epochCopiesRow.holds Try.pinned (OpenSpec.ofChange epochCopiesSpec)

/-- ITS FALSE NEIGHBOUR: 'it returns false'. Refute it at one input. -/
def epochCopiesWrong : ChangeSpec := { name := "epochCopies", fn := fun _ => fun
  | [d1, d2] => { results := [.lit (.bool false)], args := [d1, d2] }
  | _ => none }
def EpochCopiesWrongFalsely : Prop := epochCopiesRow.holds Try.pinned (OpenSpec.ofChange epochCopiesWrong)

/-- 'horologelaw35.EpochParts': WHATEVER THE INPUT: true; the input reads as it did. -/
def epochPartsSpec : ChangeSpec := { name := "epochParts", fn := fun _ => fun
  | [d] => { results := [.lit (.bool true)], args := [d] }
  | _ => none }
def epochPartsRow : OpenClaim := { program := "ytdgmcgfkammioaa", sum := "1ae6f6b8c44f85d80353f8ea9edc1602f9b3a04c3d990a3e8854ab4c224d461c", func := "horologe/horologelaw35.EpochParts", spec := "epochParts", inPlace := ["math/bits.Sub64", "math/bits.Add64"], unfollowed := true, recurses := true, named := ["math/bits.divideError", "math/bits.overflowError"], apart := false }
def EpochPartsSaid : Prop := epochPartsRow.holds Try.pinned (OpenSpec.ofChange epochPartsSpec)

/-- ITS FALSE NEIGHBOUR: 'it returns false'. Refute it at one input. -/
def epochPartsWrong : ChangeSpec := { name := "epochParts", fn := fun _ => fun
  | [d] => { results := [.lit (.bool false)], args := [d] }
  | _ => none }
def EpochPartsWrongFalsely : Prop := epochPartsRow.holds Try.pinned (OpenSpec.ofChange epochPartsWrong)

/-- 'horologelaw35.EpochMoved': WHATEVER THE INPUT: true; the input reads as it did. -/
def epochMovedSpec : ChangeSpec := { name := "epochMoved", fn := fun _ => fun
  | [d1, d2, d3] => { results := [.lit (.bool true)], args := [d1, d2, d3] }
  | _ => none }
def epochMovedRow : OpenClaim := { program := "ytdgmcgfkammioaa", sum := "1ae6f6b8c44f85d80353f8ea9edc1602f9b3a04c3d990a3e8854ab4c224d461c", func := "horologe/horologelaw35.EpochMoved", spec := "epochMoved", inPlace := ["math/bits.Sub64", "math/bits.Add64"], unfollowed := true, recurses := true, named := ["math/bits.divideError", "math/bits.overflowError"], apart := false }
def EpochMovedSaid : Prop := epochMovedRow.holds Try.pinned (OpenSpec.ofChange epochMovedSpec)

/-- ITS FALSE NEIGHBOUR: 'it returns false'. Refute it at one input. -/
def epochMovedWrong : ChangeSpec := { name := "epochMoved", fn := fun _ => fun
  | [d1, d2, d3] => { results := [.lit (.bool false)], args := [d1, d2, d3] }
  | _ => none }
def EpochMovedWrongFalsely : Prop := epochMovedRow.holds Try.pinned (OpenSpec.ofChange epochMovedWrong)

/-- 'horologelaw35.EpochMost': WHATEVER THE INPUT: true; the input reads as it did. -/
def epochMostSpec : ChangeSpec := { name := "epochMost", fn := fun _ => fun
  | [d] => { results := [.lit (.bool true)], args := [d] }
  | _ => none }
def epochMostRow : OpenClaim := { program := "ytdgmcgfkammioaa", sum := "1ae6f6b8c44f85d80353f8ea9edc1602f9b3a04c3d990a3e8854ab4c224d461c", func := "horologe/horologelaw35.EpochMost", spec := "epochMost", inPlace := ["math/bits.Sub64", "math/bits.Add64"], unfollowed := true, recurses := true, named := ["math/bits.divideError", "math/bits.overflowError"], apart := false }
def EpochMostSaid : Prop := epochMostRow.holds Try.pinned (OpenSpec.ofChange epochMostSpec)

/-- ITS FALSE NEIGHBOUR: 'it returns false'. Refute it at one input. -/
def epochMostWrong : ChangeSpec := { name := "epochMost", fn := fun _ => fun
  | [d] => { results := [.lit (.bool false)], args := [d] }
  | _ => none }
def EpochMostWrongFalsely : Prop := epochMostRow.holds Try.pinned (OpenSpec.ofChange epochMostWrong)

/- THE SECOND FORM. 'bulk': how many values and letters a reading holds, each counted each time it is reached (what is shared counts as often as it is met; a slice's spare places count too). A statement '..UptoSaid' is the law's where the arguments, and the package variables that the reading takes, are together of bulk at most 1048576: NARROWER than '..Said'. Prove '..Said' where nothing that the law and all that it calls make is longer than what came in: it says more and counts as full. Else prove '..UptoSaid'. A law counts once. -/
mutual
def uptoBulk {H : Type} : DataW H → Nat
  | .lit (.string bytes) => bytes.length + 1
  | .lit _ => 1
  | .nil => 1
  | .ptr d => uptoBulk d + 1
  | .slice elems spare => uptoBulkAll elems + uptoBulkAll spare + 1
  | .agg parts => uptoBulkAll parts + 1
  | .iface _ d => uptoBulk d + 1
  | .map entries => uptoBulkEntries entries + 1
  | .held _ => 1
def uptoBulkAll {H : Type} : List (DataW H) → Nat
  | [] => 0
  | d :: r => uptoBulk d + uptoBulkAll r
def uptoBulkEntries {H : Type} : List (Lit × DataW H) → Nat
  | [] => 0
  | x :: r => uptoBulkEntry x + uptoBulkEntries r
def uptoBulkEntry {H : Type} : Lit × DataW H → Nat
  | (.string bytes, d) => bytes.length + uptoBulk d + 1
  | (_, d) => uptoBulk d + 1
 end
def uptoSmall : (H : Type) → List (DataW H) → Bool := fun _ ds => decide (uptoBulkAll ds ≤ 1048576)
def OpenSpec.upto (s : _root_.Go.ChangeSpec) : _root_.Go.OpenSpec := { _root_.Go.OpenSpec.ofChange s with cond := some uptoSmall }

/-- 'horologelaw35.EpochPuts', WHERE WHAT IT READS IS OF BULK AT MOST 1048576: true; the input reads as it did. -/
def epochPutsUptoRow : OpenClaim := { program := "ytdgmcgfkammioaa", sum := "1ae6f6b8c44f85d80353f8ea9edc1602f9b3a04c3d990a3e8854ab4c224d461c", func := "horologe/horologelaw35.EpochPuts", spec := "epochPuts", inPlace := ["math/bits.Sub64"], unfollowed := true, recurses := true, named := ["math/bits.divideError", "math/bits.overflowError"], apart := false, narrowed := true }
def EpochPutsUptoSaid : Prop := epochPutsUptoRow.holds Try.pinned (OpenSpec.upto epochPutsSpec)

/-- 'horologelaw35.EpochKnown', WHERE WHAT IT READS IS OF BULK AT MOST 1048576: true; the input reads as it did. -/
def epochKnownUptoRow : OpenClaim := { program := "ytdgmcgfkammioaa", sum := "1ae6f6b8c44f85d80353f8ea9edc1602f9b3a04c3d990a3e8854ab4c224d461c", func := "horologe/horologelaw35.EpochKnown", spec := "epochKnown", inPlace := ["math/bits.Sub64", "maps.clone"], unfollowed := true, recurses := true, named := ["math/bits.divideError", "math/bits.overflowError"], apart := false, narrowed := true }
def EpochKnownUptoSaid : Prop := epochKnownUptoRow.holds Try.pinned (OpenSpec.upto epochKnownSpec)

/-- 'horologelaw35.EpochCopies', WHERE WHAT IT READS IS OF BULK AT MOST 1048576: true; the input reads as it did. -/
def epochCopiesUptoRow : OpenClaim := { program := "ytdgmcgfkammioaa", sum := "1ae6f6b8c44f85d80353f8ea9edc1602f9b3a04c3d990a3e8854ab4c224d461c", func := "horologe/horologelaw35.EpochCopies", spec := "epochCopies", inPlace := ["math/bits.Sub64", "maps.clone"], unfollowed := true, recurses := true, named := ["math/bits.divideError", "math/bits.overflowError"], apart := false, narrowed := true }
def EpochCopiesUptoSaid : Prop := epochCopiesUptoRow.holds Try.pinned (OpenSpec.upto epochCopiesSpec)

/-- 'horologelaw35.EpochParts', WHERE WHAT IT READS IS OF BULK AT MOST 1048576: true; the input reads as it did. -/
def epochPartsUptoRow : OpenClaim := { program := "ytdgmcgfkammioaa", sum := "1ae6f6b8c44f85d80353f8ea9edc1602f9b3a04c3d990a3e8854ab4c224d461c", func := "horologe/horologelaw35.EpochParts", spec := "epochParts", inPlace := ["math/bits.Sub64", "math/bits.Add64"], unfollowed := true, recurses := true, named := ["math/bits.divideError", "math/bits.overflowError"], apart := false, narrowed := true }
def EpochPartsUptoSaid : Prop := epochPartsUptoRow.holds Try.pinned (OpenSpec.upto epochPartsSpec)

/-- 'horologelaw35.EpochMoved', WHERE WHAT IT READS IS OF BULK AT MOST 1048576: true; the input reads as it did. -/
def epochMovedUptoRow : OpenClaim := { program := "ytdgmcgfkammioaa", sum := "1ae6f6b8c44f85d80353f8ea9edc1602f9b3a04c3d990a3e8854ab4c224d461c", func := "horologe/horologelaw35.EpochMoved", spec := "epochMoved", inPlace := ["math/bits.Sub64", "math/bits.Add64"], unfollowed := true, recurses := true, named := ["math/bits.divideError", "math/bits.overflowError"], apart := false, narrowed := true }
def EpochMovedUptoSaid : Prop := epochMovedUptoRow.holds Try.pinned (OpenSpec.upto epochMovedSpec)

/-- 'horologelaw35.EpochMost', WHERE WHAT IT READS IS OF BULK AT MOST 1048576: true; the input reads as it did. -/
def epochMostUptoRow : OpenClaim := { program := "ytdgmcgfkammioaa", sum := "1ae6f6b8c44f85d80353f8ea9edc1602f9b3a04c3d990a3e8854ab4c224d461c", func := "horologe/horologelaw35.EpochMost", spec := "epochMost", inPlace := ["math/bits.Sub64", "math/bits.Add64"], unfollowed := true, recurses := true, named := ["math/bits.divideError", "math/bits.overflowError"], apart := false, narrowed := true }
def EpochMostUptoSaid : Prop := epochMostUptoRow.holds Try.pinned (OpenSpec.upto epochMostSpec)

end Rows
end Go.Proofs.Ytdgmcgfkammioaa
