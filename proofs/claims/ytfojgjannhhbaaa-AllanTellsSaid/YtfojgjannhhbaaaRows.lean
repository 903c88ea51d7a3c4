/-
  No cell of these rows narrows 'for every input' (looked for: loops, veiled, ifaces, maps, wideKeys, modest, calm, conditions, laid).
  DERIVED. THE GIVEN ROWS OF THIS SEAT. 5 by the template 'for every input the law returns true; each argument reads behind the call as it read before'; 0 by the template 'total and deterministic' (their statements: YtfojgjannhhbaaaTotals.lean).
  GIVEN WITH THE SEED: the statements are not yours to turn. If you find one false, say at which input.
  Laid BY PROGRAM, IN A SANDBOX (cutbox-rows.mjs): the forced cells as the released guide's own fill.sh prints them over the translation 2beb74803857bcb2… (all of the seat's roots in one cut). By AI agents, Wed Nov 11 2026. No macro, syntax, notation, axiom, sorry.
-/
import Derived.Test.YtfojgjannhhbaaaChecked
import GoSem.Claim
import GoSem.ClaimJoined
import GoSem.ClaimMapViews
import Derived.JoinedTies
import Derived.KernelRfl
namespace Go.Proofs.Ytfojgjannhhbaaa
/- THE CELL 'sum', in the pinned program and in every row, IS THE sha256 OF THE DUMP (.gsa) THAT YtfojgjannhhbaaaProg.lean LOADS. Nothing in Lean hashes anything: it is a label: what it is worth is what the hold of that sum in a sandbox is worth. -/
noncomputable def Try.pinned : Pinned := { name := "ytfojgjannhhbaaa", sum := "2beb74803857bcb2969584da30f7c74c5845f94e2f3139b63c273e0c993ea3d4", checked := Try.checked }
namespace Rows
def none {H : Type} : Left H := { results := [], args := [] }

/-- 'horologelaw32.AllanTells': WHATEVER THE INPUT: true; the input reads as it did. -/
def allanTellsSpec : ChangeSpec := { name := "allanTells", fn := fun _ => fun
  | [d1, d2, d3] => { results := [.lit (.bool true)], args := [d1, d2, d3] }
  | _ => none }
def allanTellsRow : OpenClaim := { program := "ytfojgjannhhbaaa", sum := "2beb74803857bcb2969584da30f7c74c5845f94e2f3139b63c273e0c993ea3d4", func := "horologe/horologelaw32.AllanTells", spec := "allanTells", inPlace := ["math/bits.Sub64", "math/bits.Add64"], unfollowed := true, recurses := true, named := ["math/bits.divideError", "math/bits.overflowError"], apart := false }
def AllanTellsSaid : Prop := allanTellsRow.holds Try.pinned (OpenSpec.ofChange allanTellsSpec)

/-- ITS FALSE NEIGHBOUR: 'it returns false'. Refute it at one input. -/
def allanTellsWrong : ChangeSpec := { name := "allanTells", fn := fun _ => fun
  | [d1, d2, d3] => { results := [.lit (.bool false)], args := [d1, d2, d3] }
  | _ => none }
def AllanTellsWrongFalsely : Prop := allanTellsRow.holds Try.pinned (OpenSpec.ofChange allanTellsWrong)

/-- 'horologelaw32.AllanStraight': WHATEVER THE INPUT: true; the input reads as it did. -/
def allanStraightSpec : ChangeSpec := { name := "allanStraight", fn := fun _ => fun
  | [d1, d2, d3, d4, d5] => { results := [.lit (.bool true)], args := [d1, d2, d3, d4, d5] }
  | _ => none }
def allanStraightRow : OpenClaim := { program := "ytfojgjannhhbaaa", sum := "2beb74803857bcb2969584da30f7c74c5845f94e2f3139b63c273e0c993ea3d4", func := "horologe/horologelaw32.AllanStraight", spec := "allanStraight", inPlace := ["math/bits.Sub64", "math/bits.Add64"], unfollowed := true, recurses := true, named := ["math/bits.divideError", "math/bits.overflowError"], apart := false }
def AllanStraightSaid : Prop := allanStraightRow.holds Try.pinned (OpenSpec.ofChange allanStraightSpec)

/-- ITS FALSE NEIGHBOUR: 'it returns false'. Refute it at one input. -/
def allanStraightWrong : ChangeSpec := { name := "allanStraight", fn := fun _ => fun
  | [d1, d2, d3, d4, d5] => { results := [.lit (.bool false)], args := [d1, d2, d3, d4, d5] }
  | _ => none }
def AllanStraightWrongFalsely : Prop := allanStraightRow.holds Try.pinned (OpenSpec.ofChange allanStraightWrong)

/-- 'horologelaw32.AllanTwice': WHATEVER THE INPUT: true; the input reads as it did. -/
def allanTwiceSpec : ChangeSpec := { name := "allanTwice", fn := fun _ => fun
  | [d1, d2] => { results := [.lit (.bool true)], args := [d1, d2] }
  | _ => none }
def allanTwiceRow : OpenClaim := { program := "ytfojgjannhhbaaa", sum := "2beb74803857bcb2969584da30f7c74c5845f94e2f3139b63c273e0c993ea3d4", func := "horologe/horologelaw32.AllanTwice", spec := "allanTwice", inPlace := ["math/bits.Sub64", "math/bits.Add64"], unfollowed := true, recurses := true, named := ["math/bits.divideError", "math/bits.overflowError"], apart := false }
def AllanTwiceSaid : Prop := allanTwiceRow.holds Try.pinned (OpenSpec.ofChange allanTwiceSpec)

/-- ITS FALSE NEIGHBOUR: 'it returns false'. Refute it at one input. -/
def allanTwiceWrong : ChangeSpec := { name := "allanTwice", fn := fun _ => fun
  | [d1, d2] => { results := [.lit (.bool false)], args := [d1, d2] }
  | _ => none }
def AllanTwiceWrongFalsely : Prop := allanTwiceRow.holds Try.pinned (OpenSpec.ofChange allanTwiceWrong)

/-- 'horologelaw32.AllanKnown': WHATEVER THE INPUT: true; the input reads as it did. -/
def allanKnownSpec : ChangeSpec := { name := "allanKnown", fn := fun _ => fun
  | [] => { results := [.lit (.bool true)], args := [] }
  | _ => none }
def allanKnownRow : OpenClaim := { program := "ytfojgjannhhbaaa", sum := "2beb74803857bcb2969584da30f7c74c5845f94e2f3139b63c273e0c993ea3d4", func := "horologe/horologelaw32.AllanKnown", spec := "allanKnown", inPlace := ["math/bits.Sub64", "math/bits.Add64"], unfollowed := true, recurses := true, named := ["math/bits.divideError", "math/bits.overflowError"], apart := false }
def AllanKnownSaid : Prop := allanKnownRow.holds Try.pinned (OpenSpec.ofChange allanKnownSpec)

/-- ITS FALSE NEIGHBOUR: 'it returns false'. Refute it at one input. -/
def allanKnownWrong : ChangeSpec := { name := "allanKnown", fn := fun _ => fun
  | [] => { results := [.lit (.bool false)], args := [] }
  | _ => none }
def AllanKnownWrongFalsely : Prop := allanKnownRow.holds Try.pinned (OpenSpec.ofChange allanKnownWrong)

/-- 'horologelaw32.AllanCopies': WHATEVER THE INPUT: true; the input reads as it did. -/
def allanCopiesSpec : ChangeSpec := { name := "allanCopies", fn := fun _ => fun
  | [d1, d2, d3] => { results := [.lit (.bool true)], args := [d1, d2, d3] }
  | _ => none }
def allanCopiesRow : OpenClaim := { program := "ytfojgjannhhbaaa", sum := "2beb74803857bcb2969584da30f7c74c5845f94e2f3139b63c273e0c993ea3d4", func := "horologe/horologelaw32.AllanCopies", spec := "allanCopies", inPlace := ["math/bits.Sub64", "math/bits.Add64"], unfollowed := true, recurses := true, named := ["math/bits.divideError", "math/bits.overflowError"], apart := false }
def AllanCopiesSaid : Prop := allanCopiesRow.holds Try.pinned (OpenSpec.ofChange allanCopiesSpec)

/-- ITS FALSE NEIGHBOUR: 'it returns false'. Refute it at one input. -/
def allanCopiesWrong : ChangeSpec := { name := "allanCopies", fn := fun _ => fun
  | [d1, d2, d3] => { results := [.lit (.bool false)], args := [d1, d2, d3] }
  | _ => none }
def AllanCopiesWrongFalsely : Prop := allanCopiesRow.holds Try.pinned (OpenSpec.ofChange allanCopiesWrong)

/- THE SECOND FORM. 'bulk': how many values and letters a reading holds, each counted each time it is reached (what is shared counts as often as it is met; a slice's spare places count too). A statement '..UptoSaid' is the law's where the arguments, and the package variables that the reading takes, are together of bulk at most 1048576: NARROWER than '..Said'. Prove '..Said' where nothing that the law and all that it calls make is longer than what came in: it says more and counts as full. Else prove '..UptoSaid'. A law counts once. -/
mutual
def uptoBulk {H : Type} : DataW H → Nat
  | .lit (.string bytes) => bytes.length + 1
  | .lit _ => 1
  | .nil => 1
  | .ptr d => uptoBulk d + 1
  | .slice elems spare => uptoBulkAll elems + uptoBulkAll spare + 1
  | .agg parts => uptoBulkAll parts + 1
  | .iface _ d => uptoBulk d + 1
  | .map entries => uptoBulkEntries entries + 1
  | .held _ => 1
def uptoBulkAll {H : Type} : List (DataW H) → Nat
  | [] => 0
  | d :: r => uptoBulk d + uptoBulkAll r
def uptoBulkEntries {H : Type} : List (Lit × DataW H) → Nat
  | [] => 0
  | x :: r => uptoBulkEntry x + uptoBulkEntries r
def uptoBulkEntry {H : Type} : Lit × DataW H → Nat
  | (.string bytes, d) => bytes.length + uptoBulk d + 1
  | (_, d) => uptoBulk d + 1
 end
def uptoSmall : (H : Type) → List (DataW H) → Bool := fun _ ds => decide (uptoBulkAll ds ≤ 1048576)
def OpenSpec.upto (s : _root_.Go.ChangeSpec) : _root_.Go.OpenSpec := { _root_.Go.OpenSpec.ofChange s with cond := some uptoSmall }

/-- 'horologelaw32.AllanTells', WHERE WHAT IT READS IS OF BULK AT MOST 1048576: true; the input reads as it did. -/
def allanTellsUptoRow : OpenClaim := { program := "ytfojgjannhhbaaa", sum := "2beb74803857bcb2969584da30f7c74c5845f94e2f3139b63c273e0c993ea3d4", func := "horologe/horologelaw32.AllanTells", spec := "allanTells", inPlace := ["math/bits.Sub64", "math/bits.Add64"], unfollowed := true, recurses := true, named := ["math/bits.divideError", "math/bits.overflowError"], apart := false, narrowed := true }
def AllanTellsUptoSaid : Prop := allanTellsUptoRow.holds Try.pinned (OpenSpec.upto allanTellsSpec)

/-- 'horologelaw32.AllanStraight', WHERE WHAT IT READS IS OF BULK AT MOST 1048576: true; the input reads as it did. -/
def allanStraightUptoRow : OpenClaim := { program := "ytfojgjannhhbaaa", sum := "2beb74803857bcb2969584da30f7c74c5845f94e2f3139b63c273e0c993ea3d4", func := "horologe/horologelaw32.AllanStraight", spec := "allanStraight", inPlace := ["math/bits.Sub64", "math/bits.Add64"], unfollowed := true, recurses := true, named := ["math/bits.divideError", "math/bits.overflowError"], apart := false, narrowed := true }
def AllanStraightUptoSaid : Prop := allanStraightUptoRow.holds Try.pinned (OpenSpec.upto allanStraightSpec)

/-- 'horologelaw32.AllanTwice', WHERE WHAT IT READS IS OF BULK AT MOST 1048576: true; the input reads as it did. -/
def allanTwiceUptoRow : OpenClaim := { program := "ytfojgjannhhbaaa", sum := "2beb74803857bcb2969584da30f7c74c5845f94e2f3139b63c273e0c993ea3d4", func := "horologe/horologelaw32.AllanTwice", spec := "allanTwice", inPlace := ["math/bits.Sub64", "math/bits.Add64"], unfollowed := true, recurses := true, named := ["math/bits.divideError", "math/bits.overflowError"], apart := false, narrowed := true }
def AllanTwiceUptoSaid : Prop := allanTwiceUptoRow.holds Try.pinned (OpenSpec.upto allanTwiceSpec)

/-- 'horologelaw32.AllanKnown', WHERE WHAT IT READS IS OF BULK AT MOST 1048576: true; the input reads as it did. -/
def allanKnownUptoRow : OpenClaim := { program := "ytfojgjannhhbaaa", sum := "2beb74803857bcb2969584da30f7c74c5845f94e2f3139b63c273e0c993ea3d4", func := "horologe/horologelaw32.AllanKnown", spec := "allanKnown", inPlace := ["math/bits.Sub64", "math/bits.Add64"], unfollowed := true, recurses := true, named := ["math/bits.divideError", "math/bits.overflowError"], apart := false, narrowed := true }
def AllanKnownUptoSaid : Prop := allanKnownUptoRow.holds Try.pinned (OpenSpec.upto allanKnownSpec)

/-- 'horologelaw32.AllanCopies', WHERE WHAT IT READS IS OF BULK AT MOST 1048576: true; the input reads as it did. -/
def allanCopiesUptoRow : OpenClaim := { program := "ytfojgjannhhbaaa", sum := "2beb74803857bcb2969584da30f7c74c5845f94e2f3139b63c273e0c993ea3d4", func := "horologe/horologelaw32.AllanCopies", spec := "allanCopies", inPlace := ["math/bits.Sub64", "math/bits.Add64"], unfollowed := true, recurses := true, named := ["math/bits.divideError", "math/bits.overflowError"], apart := false, narrowed := true }
def AllanCopiesUptoSaid : Prop := allanCopiesUptoRow.holds Try.pinned (OpenSpec.upto allanCopiesSpec)

end Rows
end Go.Proofs.Ytfojgjannhhbaaa
