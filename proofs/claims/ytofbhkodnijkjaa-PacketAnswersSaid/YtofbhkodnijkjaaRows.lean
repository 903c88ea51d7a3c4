/-
  No cell of these rows narrows 'for every input' (looked for: loops, veiled, ifaces, maps, wideKeys, modest, calm, conditions, laid).
  DERIVED. THE GIVEN ROWS OF THIS SEAT. 5 by the template 'for every input the law returns true; each argument reads behind the call as it read before'; 0 by the template 'total and deterministic' (their statements: YtofbhkodnijkjaaTotals.lean).
  GIVEN WITH THE SEED: the statements are not yours to turn. If you find one false, say at which input.
  Laid BY PROGRAM, IN A SANDBOX (cutbox-rows.mjs): the forced cells as the released guide's own fill.sh prints them over the translation f58cf9cf1594427d… (all of the seat's roots in one cut). By AI agents, Wed Nov 11 2026. No macro, syntax, notation, axiom, sorry.
-/
import Derived.Test.YtofbhkodnijkjaaChecked
import GoSem.Claim
import GoSem.ClaimJoined
import GoSem.ClaimMapViews
import Derived.JoinedTies
import Derived.KernelRfl
namespace Go.Proofs.Ytofbhkodnijkjaa
/- THE CELL 'sum', in the pinned program and in every row, IS THE sha256 OF THE DUMP (.gsa) THAT YtofbhkodnijkjaaProg.lean LOADS. Nothing in Lean hashes anything: it is a label: what it is worth is what the hold of that sum in a sandbox is worth. -/
noncomputable def Try.pinned : Pinned := { name := "ytofbhkodnijkjaa", sum := "f58cf9cf1594427d06aa4ce38cb17ff6481553e35a2f6ec0f3bf36dcd4db87bc", checked := Try.checked }
namespace Rows
def none {H : Type} : Left H := { results := [], args := [] }

/-- 'horologelaw23.PacketTakes': WHATEVER THE INPUT: true; the input reads as it did. -/
def packetTakesSpec : ChangeSpec := { name := "packetTakes", fn := fun _ => fun
  | [d] => { results := [.lit (.bool true)], args := [d] }
  | _ => none }
def packetTakesRow : OpenClaim := { program := "ytofbhkodnijkjaa", sum := "f58cf9cf1594427d06aa4ce38cb17ff6481553e35a2f6ec0f3bf36dcd4db87bc", func := "horologe/horologelaw23.PacketTakes", spec := "packetTakes", unfollowed := true, recurses := true, apart := false }
def PacketTakesSaid : Prop := packetTakesRow.holds Try.pinned (OpenSpec.ofChange packetTakesSpec)

/-- ITS FALSE NEIGHBOUR: 'it returns false'. Refute it at one input. -/
def packetTakesWrong : ChangeSpec := { name := "packetTakes", fn := fun _ => fun
  | [d] => { results := [.lit (.bool false)], args := [d] }
  | _ => none }
def PacketTakesWrongFalsely : Prop := packetTakesRow.holds Try.pinned (OpenSpec.ofChange packetTakesWrong)

/-- 'horologelaw23.PacketAnswers': WHATEVER THE INPUT: true; the input reads as it did. -/
def packetAnswersSpec : ChangeSpec := { name := "packetAnswers", fn := fun _ => fun
  | [d1, d2, d3, d4] => { results := [.lit (.bool true)], args := [d1, d2, d3, d4] }
  | _ => none }
def packetAnswersRow : OpenClaim := { program := "ytofbhkodnijkjaa", sum := "f58cf9cf1594427d06aa4ce38cb17ff6481553e35a2f6ec0f3bf36dcd4db87bc", func := "horologe/horologelaw23.PacketAnswers", spec := "packetAnswers", unfollowed := true, recurses := true, apart := false }
def PacketAnswersSaid : Prop := packetAnswersRow.holds Try.pinned (OpenSpec.ofChange packetAnswersSpec)

/-- ITS FALSE NEIGHBOUR: 'it returns false'. Refute it at one input. -/
def packetAnswersWrong : ChangeSpec := { name := "packetAnswers", fn := fun _ => fun
  | [d1, d2, d3, d4] => { results := [.lit (.bool false)], args := [d1, d2, d3, d4] }
  | _ => none }
def PacketAnswersWrongFalsely : Prop := packetAnswersRow.holds Try.pinned (OpenSpec.ofChange packetAnswersWrong)

/-- 'horologelaw23.PacketPuts': WHATEVER THE INPUT: true; the input reads as it did. -/
def packetPutsSpec : ChangeSpec := { name := "packetPuts", fn := fun _ => fun
  | [d] => { results := [.lit (.bool true)], args := [d] }
  | _ => none }
def packetPutsRow : OpenClaim := { program := "ytofbhkodnijkjaa", sum := "f58cf9cf1594427d06aa4ce38cb17ff6481553e35a2f6ec0f3bf36dcd4db87bc", func := "horologe/horologelaw23.PacketPuts", spec := "packetPuts", unfollowed := true, recurses := true, apart := false }
def PacketPutsSaid : Prop := packetPutsRow.holds Try.pinned (OpenSpec.ofChange packetPutsSpec)

/-- ITS FALSE NEIGHBOUR: 'it returns false'. Refute it at one input. -/
def packetPutsWrong : ChangeSpec := { name := "packetPuts", fn := fun _ => fun
  | [d] => { results := [.lit (.bool false)], args := [d] }
  | _ => none }
def PacketPutsWrongFalsely : Prop := packetPutsRow.holds Try.pinned (OpenSpec.ofChange packetPutsWrong)

/-- 'horologelaw23.PacketBack': WHATEVER THE INPUT: true; the input reads as it did. -/
def packetBackSpec : ChangeSpec := { name := "packetBack", fn := fun _ => fun
  | [d1, d2] => { results := [.lit (.bool true)], args := [d1, d2] }
  | _ => none }
def packetBackRow : OpenClaim := { program := "ytofbhkodnijkjaa", sum := "f58cf9cf1594427d06aa4ce38cb17ff6481553e35a2f6ec0f3bf36dcd4db87bc", func := "horologe/horologelaw23.PacketBack", spec := "packetBack", unfollowed := true, recurses := true, apart := false }
def PacketBackSaid : Prop := packetBackRow.holds Try.pinned (OpenSpec.ofChange packetBackSpec)

/-- ITS FALSE NEIGHBOUR: 'it returns false'. Refute it at one input. -/
def packetBackWrong : ChangeSpec := { name := "packetBack", fn := fun _ => fun
  | [d1, d2] => { results := [.lit (.bool false)], args := [d1, d2] }
  | _ => none }
def PacketBackWrongFalsely : Prop := packetBackRow.holds Try.pinned (OpenSpec.ofChange packetBackWrong)

/-- 'horologelaw23.PacketKnown': WHATEVER THE INPUT: true; the input reads as it did. -/
def packetKnownSpec : ChangeSpec := { name := "packetKnown", fn := fun _ => fun
  | [] => { results := [.lit (.bool true)], args := [] }
  | _ => none }
def packetKnownRow : OpenClaim := { program := "ytofbhkodnijkjaa", sum := "f58cf9cf1594427d06aa4ce38cb17ff6481553e35a2f6ec0f3bf36dcd4db87bc", func := "horologe/horologelaw23.PacketKnown", spec := "packetKnown", unfollowed := true, recurses := true, apart := false }
def PacketKnownSaid : Prop := packetKnownRow.holds Try.pinned (OpenSpec.ofChange packetKnownSpec)

/-- ITS FALSE NEIGHBOUR: 'it returns false'. Refute it at one input. -/
def packetKnownWrong : ChangeSpec := { name := "packetKnown", fn := fun _ => fun
  | [] => { results := [.lit (.bool false)], args := [] }
  | _ => none }
def PacketKnownWrongFalsely : Prop := packetKnownRow.holds Try.pinned (OpenSpec.ofChange packetKnownWrong)

/- THE SECOND FORM. 'bulk': how many values and letters a reading holds, each counted each time it is reached (what is shared counts as often as it is met; a slice's spare places count too). A statement '..UptoSaid' is the law's where the arguments, and the package variables that the reading takes, are together of bulk at most 1048576: NARROWER than '..Said'. Prove '..Said' where nothing that the law and all that it calls make is longer than what came in: it says more and counts as full. Else prove '..UptoSaid'. A law counts once. -/
mutual
def uptoBulk {H : Type} : DataW H → Nat
  | .lit (.string bytes) => bytes.length + 1
  | .lit _ => 1
  | .nil => 1
  | .ptr d => uptoBulk d + 1
  | .slice elems spare => uptoBulkAll elems + uptoBulkAll spare + 1
  | .agg parts => uptoBulkAll parts + 1
  | .iface _ d => uptoBulk d + 1
  | .map entries => uptoBulkEntries entries + 1
  | .held _ => 1
def uptoBulkAll {H : Type} : List (DataW H) → Nat
  | [] => 0
  | d :: r => uptoBulk d + uptoBulkAll r
def uptoBulkEntries {H : Type} : List (Lit × DataW H) → Nat
  | [] => 0
  | x :: r => uptoBulkEntry x + uptoBulkEntries r
def uptoBulkEntry {H : Type} : Lit × DataW H → Nat
  | (.string bytes, d) => bytes.length + uptoBulk d + 1
  | (_, d) => uptoBulk d + 1
 end
def uptoSmall : (H : Type) → List (DataW H) → Bool := fun _ ds => decide (uptoBulkAll ds ≤ 1048576)
def OpenSpec.upto (s : _root_.Go.ChangeSpec) : _root_.Go.OpenSpec := { _root_.Go.OpenSpec.ofChange s with cond := some uptoSmall }

/-- 'horologelaw23.PacketTakes', WHERE WHAT IT READS IS OF BULK AT MOST 1048576: true; the input reads as it did. -/
def packetTakesUptoRow : OpenClaim := { program := "ytofbhkodnijkjaa", sum := "f58cf9cf1594427d06aa4ce38cb17ff6481553e35a2f6ec0f3bf36dcd4db87bc", func := "horologe/horologelaw23.PacketTakes", spec := "packetTakes", unfollowed := true, recurses := true, apart := false, narrowed := true }
def PacketTakesUptoSaid : Prop := packetTakesUptoRow.holds Try.pinned (OpenSpec.upto packetTakesSpec)

/-- 'horologelaw23.PacketAnswers', WHERE WHAT IT READS IS OF BULK AT MOST 1048576: true; the input reads as it did. -/
def packetAnswersUptoRow : OpenClaim := { program := "ytofbhkodnijkjaa", sum := "f58cf9cf1594427d06aa4ce38cb17ff6481553e35a2f6ec0f3bf36dcd4db87bc", func := "horologe/horologelaw23.PacketAnswers", spec := "packetAnswers", unfollowed := true, recurses := true, apart := false, narrowed := true }
def PacketAnswersUptoSaid : Prop := packetAnswersUptoRow.holds Try.pinned (OpenSpec.upto packetAnswersSpec)

/-- 'horologelaw23.PacketPuts', WHERE WHAT IT READS IS OF BULK AT MOST 1048576: true; the input reads as it did. -/
def packetPutsUptoRow : OpenClaim := { program := "ytofbhkodnijkjaa", sum := "f58cf9cf1594427d06aa4ce38cb17ff6481553e35a2f6ec0f3bf36dcd4db87bc", func := "horologe/horologelaw23.PacketPuts", spec := "packetPuts", unfollowed := true, recurses := true, apart := false, narrowed := true }
def PacketPutsUptoSaid : Prop := packetPutsUptoRow.holds Try.pinned (OpenSpec.upto packetPutsSpec)

/-- 'horologelaw23.PacketBack', WHERE WHAT IT READS IS OF BULK AT MOST 1048576: true; the input reads as it did. -/
def packetBackUptoRow : OpenClaim := { program := "ytofbhkodnijkjaa", sum := "f58cf9cf1594427d06aa4ce38cb17ff6481553e35a2f6ec0f3bf36dcd4db87bc", func := "horologe/horologelaw23.PacketBack", spec := "packetBack", unfollowed := true, recurses := true, apart := false, narrowed := true }
def PacketBackUptoSaid : Prop := packetBackUptoRow.holds Try.pinned (OpenSpec.upto packetBackSpec)

/-- 'horologelaw23.PacketKnown', WHERE WHAT IT READS IS OF BULK AT MOST 1048576: true; the input reads as it did. -/
def packetKnownUptoRow : OpenClaim := { program := "ytofbhkodnijkjaa", sum := "f58cf9cf1594427d06aa4ce38cb17ff6481553e35a2f6ec0f3bf36dcd4db87bc", func := "horologe/horologelaw23.PacketKnown", spec := "packetKnown", unfollowed := true, recurses := true, apart := false, narrowed := true }
def PacketKnownUptoSaid : Prop := packetKnownUptoRow.holds Try.pinned (OpenSpec.upto packetKnownSpec)

end Rows
end Go.Proofs.Ytofbhkodnijkjaa
