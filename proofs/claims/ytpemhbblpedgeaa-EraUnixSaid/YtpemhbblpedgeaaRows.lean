/-
  No cell of these rows narrows 'for every input' (looked for: loops, veiled, ifaces, maps, wideKeys, modest, calm, conditions, laid).
  DERIVED. THE GIVEN ROWS OF THIS SEAT. 3 by the template 'for every input the law returns true; each argument reads behind the call as it read before'; 0 by the template 'total and deterministic' (their statements: YtpemhbblpedgeaaTotals.lean).
  GIVEN WITH THE SEED: the statements are not yours to turn. If you find one false, say at which input.
  Laid BY PROGRAM, IN A SANDBOX (cutbox-rows.mjs): the forced cells as the released guide's own fill.sh prints them over the translation ad2c41d6248d1fdb… (all of the seat's roots in one cut). By AI agents, Wed Nov 11 2026. No macro, syntax, notation, axiom, sorry.
-/
import Derived.Test.YtpemhbblpedgeaaChecked
import GoSem.Claim
import GoSem.ClaimJoined
import GoSem.ClaimMapViews
import Derived.JoinedTies
import Derived.KernelRfl
namespace Go.Proofs.Ytpemhbblpedgeaa
/- THE CELL 'sum', in the pinned program and in every row, IS THE sha256 OF THE DUMP (.gsa) THAT YtpemhbblpedgeaaProg.lean LOADS. Nothing in Lean hashes anything: it is a label: what it is worth is what the hold of that sum in a sandbox is worth. -/
noncomputable def Try.pinned : Pinned := { name := "ytpemhbblpedgeaa", sum := "ad2c41d6248d1fdb985fd6c77286a0ae6661b654d8a5e5fece7117117162605e", checked := Try.checked }
namespace Rows
def none {H : Type} : Left H := { results := [], args := [] }

/-- 'horologelaw03.EraBack': WHATEVER THE INPUT: true; the input reads as it did. -/
def eraBackSpec : ChangeSpec := { name := "eraBack", fn := fun _ => fun
  | [d1, d2, d3] => { results := [.lit (.bool true)], args := [d1, d2, d3] }
  | _ => none }
def eraBackRow : OpenClaim := { program := "ytpemhbblpedgeaa", sum := "ad2c41d6248d1fdb985fd6c77286a0ae6661b654d8a5e5fece7117117162605e", func := "horologe/horologelaw03.EraBack", spec := "eraBack", inPlace := ["math/bits.Sub64", "math/bits.Add64"], unfollowed := true, recurses := true, apart := false }
def EraBackSaid : Prop := eraBackRow.holds Try.pinned (OpenSpec.ofChange eraBackSpec)

/-- ITS FALSE NEIGHBOUR: 'it returns false'. Refute it at one input. -/
def eraBackWrong : ChangeSpec := { name := "eraBack", fn := fun _ => fun
  | [d1, d2, d3] => { results := [.lit (.bool false)], args := [d1, d2, d3] }
  | _ => none }
def EraBackWrongFalsely : Prop := eraBackRow.holds Try.pinned (OpenSpec.ofChange eraBackWrong)

/-- 'horologelaw03.EraUnix': WHATEVER THE INPUT: true; the input reads as it did. -/
def eraUnixSpec : ChangeSpec := { name := "eraUnix", fn := fun _ => fun
  | [d1, d2, d3] => { results := [.lit (.bool true)], args := [d1, d2, d3] }
  | _ => none }
def eraUnixRow : OpenClaim := { program := "ytpemhbblpedgeaa", sum := "ad2c41d6248d1fdb985fd6c77286a0ae6661b654d8a5e5fece7117117162605e", func := "horologe/horologelaw03.EraUnix", spec := "eraUnix", inPlace := ["math/bits.Sub64", "math/bits.Add64"], unfollowed := true, recurses := true, apart := false }
def EraUnixSaid : Prop := eraUnixRow.holds Try.pinned (OpenSpec.ofChange eraUnixSpec)

/-- ITS FALSE NEIGHBOUR: 'it returns false'. Refute it at one input. -/
def eraUnixWrong : ChangeSpec := { name := "eraUnix", fn := fun _ => fun
  | [d1, d2, d3] => { results := [.lit (.bool false)], args := [d1, d2, d3] }
  | _ => none }
def EraUnixWrongFalsely : Prop := eraUnixRow.holds Try.pinned (OpenSpec.ofChange eraUnixWrong)

/-- 'horologelaw03.EraOrder': WHATEVER THE INPUT: true; the input reads as it did. -/
def eraOrderSpec : ChangeSpec := { name := "eraOrder", fn := fun _ => fun
  | [d1, d2, d3, d4, d5, d6, d7] => { results := [.lit (.bool true)], args := [d1, d2, d3, d4, d5, d6, d7] }
  | _ => none }
def eraOrderRow : OpenClaim := { program := "ytpemhbblpedgeaa", sum := "ad2c41d6248d1fdb985fd6c77286a0ae6661b654d8a5e5fece7117117162605e", func := "horologe/horologelaw03.EraOrder", spec := "eraOrder", inPlace := ["math/bits.Sub64", "math/bits.Add64"], unfollowed := true, recurses := true, apart := false }
def EraOrderSaid : Prop := eraOrderRow.holds Try.pinned (OpenSpec.ofChange eraOrderSpec)

/-- ITS FALSE NEIGHBOUR: 'it returns false'. Refute it at one input. -/
def eraOrderWrong : ChangeSpec := { name := "eraOrder", fn := fun _ => fun
  | [d1, d2, d3, d4, d5, d6, d7] => { results := [.lit (.bool false)], args := [d1, d2, d3, d4, d5, d6, d7] }
  | _ => none }
def EraOrderWrongFalsely : Prop := eraOrderRow.holds Try.pinned (OpenSpec.ofChange eraOrderWrong)

/- THE SECOND FORM. 'bulk': how many values and letters a reading holds, each counted each time it is reached (what is shared counts as often as it is met; a slice's spare places count too). A statement '..UptoSaid' is the law's where the arguments, and the package variables that the reading takes, are together of bulk at most 1048576: NARROWER than '..Said'. Prove '..Said' where nothing that the law and all that it calls make is longer than what came in: it says more and counts as full. Else prove '..UptoSaid'. A law counts once. -/
mutual
def uptoBulk {H : Type} : DataW H → Nat
  | .lit (.string bytes) => bytes.length + 1
  | .lit _ => 1
  | .nil => 1
  | .ptr d => uptoBulk d + 1
  | .slice elems spare => uptoBulkAll elems + uptoBulkAll spare + 1
  | .agg parts => uptoBulkAll parts + 1
  | .iface _ d => uptoBulk d + 1
  | .map entries => uptoBulkEntries entries + 1
  | .held _ => 1
def uptoBulkAll {H : Type} : List (DataW H) → Nat
  | [] => 0
  | d :: r => uptoBulk d + uptoBulkAll r
def uptoBulkEntries {H : Type} : List (Lit × DataW H) → Nat
  | [] => 0
  | x :: r => uptoBulkEntry x + uptoBulkEntries r
def uptoBulkEntry {H : Type} : Lit × DataW H → Nat
  | (.string bytes, d) => bytes.length + uptoBulk d + 1
  | (_, d) => uptoBulk d + 1
 end
def uptoSmall : (H : Type) → List (DataW H) → Bool := fun _ ds => decide (uptoBulkAll ds ≤ 1048576)
def OpenSpec.upto (s : _root_.Go.ChangeSpec) : _root_.Go.OpenSpec := { _root_.Go.OpenSpec.ofChange s with cond := some uptoSmall }

/-- 'horologelaw03.EraBack', WHERE WHAT IT READS IS OF BULK AT MOST 1048576: true; the input reads as it did. -/
def eraBackUptoRow : OpenClaim := { program := "ytpemhbblpedgeaa", sum := "ad2c41d6248d1fdb985fd6c77286a0ae6661b654d8a5e5fece7117117162605e", func := "horologe/horologelaw03.EraBack", spec := "eraBack", inPlace := ["math/bits.Sub64", "math/bits.Add64"], unfollowed := true, recurses := true, apart := false, narrowed := true }
def EraBackUptoSaid : Prop := eraBackUptoRow.holds Try.pinned (OpenSpec.upto eraBackSpec)

/-- 'horologelaw03.EraUnix', WHERE WHAT IT READS IS OF BULK AT MOST 1048576: true; the input reads as it did. -/
def eraUnixUptoRow : OpenClaim := { program := "ytpemhbblpedgeaa", sum := "ad2c41d6248d1fdb985fd6c77286a0ae6661b654d8a5e5fece7117117162605e", func := "horologe/horologelaw03.EraUnix", spec := "eraUnix", inPlace := ["math/bits.Sub64", "math/bits.Add64"], unfollowed := true, recurses := true, apart := false, narrowed := true }
def EraUnixUptoSaid : Prop := eraUnixUptoRow.holds Try.pinned (OpenSpec.upto eraUnixSpec)

/-- 'horologelaw03.EraOrder', WHERE WHAT IT READS IS OF BULK AT MOST 1048576: true; the input reads as it did. -/
def eraOrderUptoRow : OpenClaim := { program := "ytpemhbblpedgeaa", sum := "ad2c41d6248d1fdb985fd6c77286a0ae6661b654d8a5e5fece7117117162605e", func := "horologe/horologelaw03.EraOrder", spec := "eraOrder", inPlace := ["math/bits.Sub64", "math/bits.Add64"], unfollowed := true, recurses := true, apart := false, narrowed := true }
def EraOrderUptoSaid : Prop := eraOrderUptoRow.holds Try.pinned (OpenSpec.upto eraOrderSpec)

end Rows
end Go.Proofs.Ytpemhbblpedgeaa
