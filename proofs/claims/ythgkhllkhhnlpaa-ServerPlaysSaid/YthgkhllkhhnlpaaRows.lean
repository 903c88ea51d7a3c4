/-
  No cell of these rows narrows 'for every input' (looked for: loops, veiled, ifaces, maps, wideKeys, modest, calm, conditions, laid).
  DERIVED. THE GIVEN ROWS OF THIS SEAT. 4 by the template 'for every input the law returns true; each argument reads behind the call as it read before'; 0 by the template 'total and deterministic' (their statements: YthgkhllkhhnlpaaTotals.lean).
  GIVEN WITH THE SEED: the statements are not yours to turn. If you find one false, say at which input.
  Laid BY PROGRAM, IN A SANDBOX (cutbox-rows.mjs): the forced cells as the released guide's own fill.sh prints them over the translation 9cd415308566e9c5… (all of the seat's roots in one cut). By AI agents, Wed Nov 11 2026. No macro, syntax, notation, axiom, sorry.
-/
import Derived.Test.YthgkhllkhhnlpaaChecked
import GoSem.Claim
import GoSem.ClaimJoined
import GoSem.ClaimMapViews
import Derived.JoinedTies
import Derived.KernelRfl
namespace Go.Proofs.Ythgkhllkhhnlpaa
/- THE CELL 'sum', in the pinned program and in every row, IS THE sha256 OF THE DUMP (.gsa) THAT YthgkhllkhhnlpaaProg.lean LOADS. Nothing in Lean hashes anything: it is a label: what it is worth is what the hold of that sum in a sandbox is worth. -/
noncomputable def Try.pinned : Pinned := { name := "ythgkhllkhhnlpaa", sum := "9cd415308566e9c5aa97e4e0e38dc5eebf79d889e7ca26078190bf30d0917c64", checked := Try.checked }
namespace Rows
def none {H : Type} : Left H := { results := [], args := [] }

/-- 'horologelaw36.ServerPlays': WHATEVER THE INPUT: true; the input reads as it did. -/
def serverPlaysSpec : ChangeSpec := { name := "serverPlays", fn := fun _ => fun
  | [d1, d2] => { results := [.lit (.bool true)], args := [d1, d2] }
  | _ => none }
def serverPlaysRow : OpenClaim := { program := "ythgkhllkhhnlpaa", sum := "9cd415308566e9c5aa97e4e0e38dc5eebf79d889e7ca26078190bf30d0917c64", func := "horologe/horologelaw36.ServerPlays", spec := "serverPlays", inPlace := ["math/bits.Sub64", "math/bits.Add64"], unfollowed := true, recurses := true, named := ["math/bits.divideError", "math/bits.overflowError"], plainKeys := false, apart := false }
def ServerPlaysSaid : Prop := serverPlaysRow.holds Try.pinned (OpenSpec.ofChange serverPlaysSpec)

/-- ITS FALSE NEIGHBOUR: 'it returns false'. Refute it at one input. -/
def serverPlaysWrong : ChangeSpec := { name := "serverPlays", fn := fun _ => fun
  | [d1, d2] => { results := [.lit (.bool false)], args := [d1, d2] }
  | _ => none }
def ServerPlaysWrongFalsely : Prop := serverPlaysRow.holds Try.pinned (OpenSpec.ofChange serverPlaysWrong)

/-- 'horologelaw36.ServerApart': WHATEVER THE INPUT: true; the input reads as it did. -/
def serverApartSpec : ChangeSpec := { name := "serverApart", fn := fun _ => fun
  | [d1, d2] => { results := [.lit (.bool true)], args := [d1, d2] }
  | _ => none }
def serverApartRow : OpenClaim := { program := "ythgkhllkhhnlpaa", sum := "9cd415308566e9c5aa97e4e0e38dc5eebf79d889e7ca26078190bf30d0917c64", func := "horologe/horologelaw36.ServerApart", spec := "serverApart", inPlace := ["math/bits.Sub64", "math/bits.Add64"], unfollowed := true, recurses := true, named := ["math/bits.divideError", "math/bits.overflowError"], plainKeys := false, apart := false }
def ServerApartSaid : Prop := serverApartRow.holds Try.pinned (OpenSpec.ofChange serverApartSpec)

/-- ITS FALSE NEIGHBOUR: 'it returns false'. Refute it at one input. -/
def serverApartWrong : ChangeSpec := { name := "serverApart", fn := fun _ => fun
  | [d1, d2] => { results := [.lit (.bool false)], args := [d1, d2] }
  | _ => none }
def ServerApartWrongFalsely : Prop := serverApartRow.holds Try.pinned (OpenSpec.ofChange serverApartWrong)

/-- 'horologelaw36.ServerCopies': WHATEVER THE INPUT: true; the input reads as it did. -/
def serverCopiesSpec : ChangeSpec := { name := "serverCopies", fn := fun _ => fun
  | [d1, d2, d3] => { results := [.lit (.bool true)], args := [d1, d2, d3] }
  | _ => none }
def serverCopiesRow : OpenClaim := { program := "ythgkhllkhhnlpaa", sum := "9cd415308566e9c5aa97e4e0e38dc5eebf79d889e7ca26078190bf30d0917c64", func := "horologe/horologelaw36.ServerCopies", spec := "serverCopies", inPlace := ["math/bits.Sub64", "math/bits.Add64", "maps.clone"], unfollowed := true, recurses := true, named := ["math/bits.divideError", "math/bits.overflowError"], plainKeys := false, apart := false }
def ServerCopiesSaid : Prop := serverCopiesRow.holds Try.pinned (OpenSpec.ofChange serverCopiesSpec)

/-- ITS FALSE NEIGHBOUR: 'it returns false'. Refute it at one input. -/
def serverCopiesWrong : ChangeSpec := { name := "serverCopies", fn := fun _ => fun
  | [d1, d2, d3] => { results := [.lit (.bool false)], args := [d1, d2, d3] }
  | _ => none }
def ServerCopiesWrongFalsely : Prop := serverCopiesRow.holds Try.pinned (OpenSpec.ofChange serverCopiesWrong)

/-- 'horologelaw36.ServerKnown': WHATEVER THE INPUT: true; the input reads as it did. -/
def serverKnownSpec : ChangeSpec := { name := "serverKnown", fn := fun _ => fun
  | [] => { results := [.lit (.bool true)], args := [] }
  | _ => none }
def serverKnownRow : OpenClaim := { program := "ythgkhllkhhnlpaa", sum := "9cd415308566e9c5aa97e4e0e38dc5eebf79d889e7ca26078190bf30d0917c64", func := "horologe/horologelaw36.ServerKnown", spec := "serverKnown", inPlace := ["math/bits.Sub64", "math/bits.Add64", "maps.clone"], unfollowed := true, recurses := true, named := ["math/bits.divideError", "math/bits.overflowError"], plainKeys := false, apart := false }
def ServerKnownSaid : Prop := serverKnownRow.holds Try.pinned (OpenSpec.ofChange serverKnownSpec)

/-- ITS FALSE NEIGHBOUR: 'it returns false'. Refute it at one input. -/
def serverKnownWrong : ChangeSpec := { name := "serverKnown", fn := fun _ => fun
  | [] => { results := [.lit (.bool false)], args := [] }
  | _ => none }
def ServerKnownWrongFalsely : Prop := serverKnownRow.holds Try.pinned (OpenSpec.ofChange serverKnownWrong)

/- THE SECOND FORM. 'bulk': how many values and letters a reading holds, each counted each time it is reached (what is shared counts as often as it is met; a slice's spare places count too). A statement '..UptoSaid' is the law's where the arguments, and the package variables that the reading takes, are together of bulk at most 1048576: NARROWER than '..Said'. Prove '..Said' where nothing that the law and all that it calls make is longer than what came in: it says more and counts as full. Else prove '..UptoSaid'. A law counts once. -/
mutual
def uptoBulk {H : Type} : DataW H → Nat
  | .lit (.string bytes) => bytes.length + 1
  | .lit _ => 1
  | .nil => 1
  | .ptr d => uptoBulk d + 1
  | .slice elems spare => uptoBulkAll elems + uptoBulkAll spare + 1
  | .agg parts => uptoBulkAll parts + 1
  | .iface _ d => uptoBulk d + 1
  | .map entries => uptoBulkEntries entries + 1
  | .held _ => 1
def uptoBulkAll {H : Type} : List (DataW H) → Nat
  | [] => 0
  | d :: r => uptoBulk d + uptoBulkAll r
def uptoBulkEntries {H : Type} : List (Lit × DataW H) → Nat
  | [] => 0
  | x :: r => uptoBulkEntry x + uptoBulkEntries r
def uptoBulkEntry {H : Type} : Lit × DataW H → Nat
  | (.string bytes, d) => bytes.length + uptoBulk d + 1
  | (_, d) => uptoBulk d + 1
 end
def uptoSmall : (H : Type) → List (DataW H) → Bool := fun _ ds => decide (uptoBulkAll ds ≤ 1048576)
def OpenSpec.upto (s : _root_.Go.ChangeSpec) : _root_.Go.OpenSpec := { _root_.Go.OpenSpec.ofChange s with cond := some uptoSmall }

/-- 'horologelaw36.ServerPlays', WHERE WHAT IT READS IS OF BULK AT MOST 1048576: true; the input reads as it did. -/
def serverPlaysUptoRow : OpenClaim := { program := "ythgkhllkhhnlpaa", sum := "9cd415308566e9c5aa97e4e0e38dc5eebf79d889e7ca26078190bf30d0917c64", func := "horologe/horologelaw36.ServerPlays", spec := "serverPlays", inPlace := ["math/bits.Sub64", "math/bits.Add64"], unfollowed := true, recurses := true, named := ["math/bits.divideError", "math/bits.overflowError"], plainKeys := false, apart := false, narrowed := true }
def ServerPlaysUptoSaid : Prop := serverPlaysUptoRow.holds Try.pinned (OpenSpec.upto serverPlaysSpec)

/-- 'horologelaw36.ServerApart', WHERE WHAT IT READS IS OF BULK AT MOST 1048576: true; the input reads as it did. -/
def serverApartUptoRow : OpenClaim := { program := "ythgkhllkhhnlpaa", sum := "9cd415308566e9c5aa97e4e0e38dc5eebf79d889e7ca26078190bf30d0917c64", func := "horologe/horologelaw36.ServerApart", spec := "serverApart", inPlace := ["math/bits.Sub64", "math/bits.Add64"], unfollowed := true, recurses := true, named := ["math/bits.divideError", "math/bits.overflowError"], plainKeys := false, apart := false, narrowed := true }
def ServerApartUptoSaid : Prop := serverApartUptoRow.holds Try.pinned (OpenSpec.upto serverApartSpec)

/-- 'horologelaw36.ServerCopies', WHERE WHAT IT READS IS OF BULK AT MOST 1048576: true; the input reads as it did. -/
def serverCopiesUptoRow : OpenClaim := { program := "ythgkhllkhhnlpaa", sum := "9cd415308566e9c5aa97e4e0e38dc5eebf79d889e7ca26078190bf30d0917c64", func := "horologe/horologelaw36.ServerCopies", spec := "serverCopies", inPlace := ["math/bits.Sub64", "math/bits.Add64", "maps.clone"], unfollowed := true, recurses := true, named := ["math/bits.divideError", "math/bits.overflowError"], plainKeys := false, apart := false, narrowed := true }
def ServerCopiesUptoSaid : Prop := serverCopiesUptoRow.holds Try.pinned (OpenSpec.upto serverCopiesSpec)

/-- 'horologelaw36.ServerKnown', WHERE WHAT IT READS IS OF BULK AT MOST 1048576: true; the input reads as it did. -/
def serverKnownUptoRow : OpenClaim := { program := "ythgkhllkhhnlpaa", sum := "9cd415308566e9c5aa97e4e0e38dc5eebf79d889e7ca26078190bf30d0917c64", func := "horologe/horologelaw36.ServerKnown", spec := "serverKnown", inPlace := ["math/bits.Sub64", "math/bits.Add64", "maps.clone"], unfollowed := true, recurses := true, named := ["math/bits.divideError", "math/bits.overflowError"], plainKeys := false, apart := false, narrowed := true }
def ServerKnownUptoSaid : Prop := serverKnownUptoRow.holds Try.pinned (OpenSpec.upto serverKnownSpec)

end Rows
end Go.Proofs.Ythgkhllkhhnlpaa
