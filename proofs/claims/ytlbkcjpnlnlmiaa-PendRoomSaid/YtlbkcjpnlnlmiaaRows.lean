/-
  No cell of these rows narrows 'for every input' (looked for: loops, veiled, ifaces, maps, wideKeys, modest, calm, conditions, laid).
  DERIVED. THE GIVEN ROWS OF THIS SEAT. 4 by the template 'for every input the law returns true; each argument reads behind the call as it read before'; 0 by the template 'total and deterministic' (their statements: YtlbkcjpnlnlmiaaTotals.lean).
  GIVEN WITH THE SEED: the statements are not yours to turn. If you find one false, say at which input.
  Laid BY PROGRAM, IN A SANDBOX (cutbox-rows.mjs): the forced cells as the released guide's own fill.sh prints them over the translation c53150fab27bdbf1… (all of the seat's roots in one cut). By AI agents, Wed Nov 11 2026. No macro, syntax, notation, axiom, sorry.
-/
import Derived.Test.YtlbkcjpnlnlmiaaChecked
import GoSem.Claim
import GoSem.ClaimJoined
import GoSem.ClaimMapViews
import Derived.JoinedTies
import Derived.KernelRfl
namespace Go.Proofs.Ytlbkcjpnlnlmiaa
/- THE CELL 'sum', in the pinned program and in every row, IS THE sha256 OF THE DUMP (.gsa) THAT YtlbkcjpnlnlmiaaProg.lean LOADS. Nothing in Lean hashes anything: it is a label: what it is worth is what the hold of that sum in a sandbox is worth. -/
noncomputable def Try.pinned : Pinned := { name := "ytlbkcjpnlnlmiaa", sum := "c53150fab27bdbf17bd29400a690cb6320a942c79a15846b3866a093f67e8020", checked := Try.checked }
namespace Rows
def none {H : Type} : Left H := { results := [], args := [] }

/-- 'horologelaw29.PendRule': WHATEVER THE INPUT: true; the input reads as it did. -/
def pendRuleSpec : ChangeSpec := { name := "pendRule", fn := fun _ => fun
  | [d1, d2] => { results := [.lit (.bool true)], args := [d1, d2] }
  | _ => none }
def pendRuleRow : OpenClaim := { program := "ytlbkcjpnlnlmiaa", sum := "c53150fab27bdbf17bd29400a690cb6320a942c79a15846b3866a093f67e8020", func := "horologe/horologelaw29.PendRule", spec := "pendRule", plainKeys := false, apart := false }
def PendRuleSaid : Prop := pendRuleRow.holds Try.pinned (OpenSpec.ofChange pendRuleSpec)

/-- ITS FALSE NEIGHBOUR: 'it returns false'. Refute it at one input. -/
def pendRuleWrong : ChangeSpec := { name := "pendRule", fn := fun _ => fun
  | [d1, d2] => { results := [.lit (.bool false)], args := [d1, d2] }
  | _ => none }
def PendRuleWrongFalsely : Prop := pendRuleRow.holds Try.pinned (OpenSpec.ofChange pendRuleWrong)

/-- 'horologelaw29.PendRoom': WHATEVER THE INPUT: true; the input reads as it did. -/
def pendRoomSpec : ChangeSpec := { name := "pendRoom", fn := fun _ => fun
  | [d1, d2] => { results := [.lit (.bool true)], args := [d1, d2] }
  | _ => none }
def pendRoomRow : OpenClaim := { program := "ytlbkcjpnlnlmiaa", sum := "c53150fab27bdbf17bd29400a690cb6320a942c79a15846b3866a093f67e8020", func := "horologe/horologelaw29.PendRoom", spec := "pendRoom", unfollowed := true, recurses := true, plainKeys := false, apart := false }
def PendRoomSaid : Prop := pendRoomRow.holds Try.pinned (OpenSpec.ofChange pendRoomSpec)

/-- ITS FALSE NEIGHBOUR: 'it returns false'. Refute it at one input. -/
def pendRoomWrong : ChangeSpec := { name := "pendRoom", fn := fun _ => fun
  | [d1, d2] => { results := [.lit (.bool false)], args := [d1, d2] }
  | _ => none }
def PendRoomWrongFalsely : Prop := pendRoomRow.holds Try.pinned (OpenSpec.ofChange pendRoomWrong)

/-- 'horologelaw29.PendKnown': WHATEVER THE INPUT: true; the input reads as it did. -/
def pendKnownSpec : ChangeSpec := { name := "pendKnown", fn := fun _ => fun
  | [] => { results := [.lit (.bool true)], args := [] }
  | _ => none }
def pendKnownRow : OpenClaim := { program := "ytlbkcjpnlnlmiaa", sum := "c53150fab27bdbf17bd29400a690cb6320a942c79a15846b3866a093f67e8020", func := "horologe/horologelaw29.PendKnown", spec := "pendKnown", unfollowed := true, recurses := true, plainKeys := false, apart := false }
def PendKnownSaid : Prop := pendKnownRow.holds Try.pinned (OpenSpec.ofChange pendKnownSpec)

/-- ITS FALSE NEIGHBOUR: 'it returns false'. Refute it at one input. -/
def pendKnownWrong : ChangeSpec := { name := "pendKnown", fn := fun _ => fun
  | [] => { results := [.lit (.bool false)], args := [] }
  | _ => none }
def PendKnownWrongFalsely : Prop := pendKnownRow.holds Try.pinned (OpenSpec.ofChange pendKnownWrong)

/-- 'horologelaw29.PendPlays': WHATEVER THE INPUT: true; the input reads as it did. -/
def pendPlaysSpec : ChangeSpec := { name := "pendPlays", fn := fun _ => fun
  | [d1, d2, d3] => { results := [.lit (.bool true)], args := [d1, d2, d3] }
  | _ => none }
def pendPlaysRow : OpenClaim := { program := "ytlbkcjpnlnlmiaa", sum := "c53150fab27bdbf17bd29400a690cb6320a942c79a15846b3866a093f67e8020", func := "horologe/horologelaw29.PendPlays", spec := "pendPlays", unfollowed := true, recurses := true, plainKeys := false, apart := false }
def PendPlaysSaid : Prop := pendPlaysRow.holds Try.pinned (OpenSpec.ofChange pendPlaysSpec)

/-- ITS FALSE NEIGHBOUR: 'it returns false'. Refute it at one input. -/
def pendPlaysWrong : ChangeSpec := { name := "pendPlays", fn := fun _ => fun
  | [d1, d2, d3] => { results := [.lit (.bool false)], args := [d1, d2, d3] }
  | _ => none }
def PendPlaysWrongFalsely : Prop := pendPlaysRow.holds Try.pinned (OpenSpec.ofChange pendPlaysWrong)

/- THE SECOND FORM. 'bulk': how many values and letters a reading holds, each counted each time it is reached (what is shared counts as often as it is met; a slice's spare places count too). A statement '..UptoSaid' is the law's where the arguments, and the package variables that the reading takes, are together of bulk at most 1048576: NARROWER than '..Said'. Prove '..Said' where nothing that the law and all that it calls make is longer than what came in: it says more and counts as full. Else prove '..UptoSaid'. A law counts once. -/
mutual
def uptoBulk {H : Type} : DataW H → Nat
  | .lit (.string bytes) => bytes.length + 1
  | .lit _ => 1
  | .nil => 1
  | .ptr d => uptoBulk d + 1
  | .slice elems spare => uptoBulkAll elems + uptoBulkAll spare + 1
  | .agg parts => uptoBulkAll parts + 1
  | .iface _ d => uptoBulk d + 1
  | .map entries => uptoBulkEntries entries + 1
  | .held _ => 1
def uptoBulkAll {H : Type} : List (DataW H) → Nat
  | [] => 0
  | d :: r => uptoBulk d + uptoBulkAll r
def uptoBulkEntries {H : Type} : List (Lit × DataW H) → Nat
  | [] => 0
  | x :: r => uptoBulkEntry x + uptoBulkEntries r
def uptoBulkEntry {H : Type} : Lit × DataW H → Nat
  | (.string bytes, d) => bytes.length + uptoBulk d + 1
  | (_, d) => uptoBulk d + 1
 end
def uptoSmall : (H : Type) → List (DataW H) → Bool := fun _ ds => decide (uptoBulkAll ds ≤ 1048576)
def OpenSpec.upto (s : _root_.Go.ChangeSpec) : _root_.Go.OpenSpec := { _root_.Go.OpenSpec.ofChange s with cond := some uptoSmall }

/-- 'horologelaw29.PendRule', WHERE WHAT IT READS IS OF BULK AT MOST 1048576: true; the input reads as it did. -/
def pendRuleUptoRow : OpenClaim := { program := "ytlbkcjpnlnlmiaa", sum := "c53150fab27bdbf17bd29400a690cb6320a942c79a15846b3866a093f67e8020", func := "horologe/horologelaw29.PendRule", spec := "pendRule", plainKeys := false, apart := false, narrowed := true }
def PendRuleUptoSaid : Prop := pendRuleUptoRow.holds Try.pinned (OpenSpec.upto pendRuleSpec)

/-- 'horologelaw29.PendRoom', WHERE WHAT IT READS IS OF BULK AT MOST 1048576: true; the input reads as it did. -/
def pendRoomUptoRow : OpenClaim := { program := "ytlbkcjpnlnlmiaa", sum := "c53150fab27bdbf17bd29400a690cb6320a942c79a15846b3866a093f67e8020", func := "horologe/horologelaw29.PendRoom", spec := "pendRoom", unfollowed := true, recurses := true, plainKeys := false, apart := false, narrowed := true }
def PendRoomUptoSaid : Prop := pendRoomUptoRow.holds Try.pinned (OpenSpec.upto pendRoomSpec)

/-- 'horologelaw29.PendKnown', WHERE WHAT IT READS IS OF BULK AT MOST 1048576: true; the input reads as it did. -/
def pendKnownUptoRow : OpenClaim := { program := "ytlbkcjpnlnlmiaa", sum := "c53150fab27bdbf17bd29400a690cb6320a942c79a15846b3866a093f67e8020", func := "horologe/horologelaw29.PendKnown", spec := "pendKnown", unfollowed := true, recurses := true, plainKeys := false, apart := false, narrowed := true }
def PendKnownUptoSaid : Prop := pendKnownUptoRow.holds Try.pinned (OpenSpec.upto pendKnownSpec)

/-- 'horologelaw29.PendPlays', WHERE WHAT IT READS IS OF BULK AT MOST 1048576: true; the input reads as it did. -/
def pendPlaysUptoRow : OpenClaim := { program := "ytlbkcjpnlnlmiaa", sum := "c53150fab27bdbf17bd29400a690cb6320a942c79a15846b3866a093f67e8020", func := "horologe/horologelaw29.PendPlays", spec := "pendPlays", unfollowed := true, recurses := true, plainKeys := false, apart := false, narrowed := true }
def PendPlaysUptoSaid : Prop := pendPlaysUptoRow.holds Try.pinned (OpenSpec.upto pendPlaysSpec)

end Rows
end Go.Proofs.Ytlbkcjpnlnlmiaa
