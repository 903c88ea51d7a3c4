/-
  No cell of these rows narrows 'for every input' (looked for: loops, veiled, ifaces, maps, wideKeys, modest, calm, conditions, laid).
  DERIVED. THE GIVEN ROWS OF THIS SEAT. 6 by the template 'for every input the law returns true; each argument reads behind the call as it read before'; 0 by the template 'total and deterministic' (their statements: YtcflebggepmmcaaTotals.lean).
  GIVEN WITH THE SEED: the statements are not yours to turn. If you find one false, say at which input.
  Laid BY PROGRAM, IN A SANDBOX (cutbox-rows.mjs): the forced cells as the released guide's own fill.sh prints them over the translation 9f46fdecdc068a7e… (all of the seat's roots in one cut). By AI agents, Wed Nov 11 2026. No macro, syntax, notation, axiom, sorry.
-/
import Derived.Test.YtcflebggepmmcaaChecked
import GoSem.Claim
import GoSem.ClaimJoined
import GoSem.ClaimMapViews
import Derived.JoinedTies
import Derived.KernelRfl
namespace Go.Proofs.Ytcflebggepmmcaa
/- THE CELL 'sum', in the pinned program and in every row, IS THE sha256 OF THE DUMP (.gsa) THAT YtcflebggepmmcaaProg.lean LOADS. Nothing in Lean hashes anything: it is a label: what it is worth is what the hold of that sum in a sandbox is worth. -/
noncomputable def Try.pinned : Pinned := { name := "ytcflebggepmmcaa", sum := "9f46fdecdc068a7eea53731ae493817c3166daf1aaded9f38c88020f2aeed62e", checked := Try.checked }
namespace Rows
def none {H : Type} : Left H := { results := [], args := [] }

/-- 'horologelaw30.MatchTakes': WHATEVER THE INPUT: true; the input reads as it did. -/
def matchTakesSpec : ChangeSpec := { name := "matchTakes", fn := fun _ => fun
  | [d1, d2, d3] => { results := [.lit (.bool true)], args := [d1, d2, d3] }
  | _ => none }
def matchTakesRow : OpenClaim := { program := "ytcflebggepmmcaa", sum := "9f46fdecdc068a7eea53731ae493817c3166daf1aaded9f38c88020f2aeed62e", func := "horologe/horologelaw30.MatchTakes", spec := "matchTakes", inPlace := ["math/bits.Sub64", "math/bits.Add64"], unfollowed := true, recurses := true, plainKeys := false, apart := false }
def MatchTakesSaid : Prop := matchTakesRow.holds Try.pinned (OpenSpec.ofChange matchTakesSpec)

/-- ITS FALSE NEIGHBOUR: 'it returns false'. Refute it at one input. -/
def matchTakesWrong : ChangeSpec := { name := "matchTakes", fn := fun _ => fun
  | [d1, d2, d3] => { results := [.lit (.bool false)], args := [d1, d2, d3] }
  | _ => none }
def MatchTakesWrongFalsely : Prop := matchTakesRow.holds Try.pinned (OpenSpec.ofChange matchTakesWrong)

/-- 'horologelaw30.MatchRuns': WHATEVER THE INPUT: true; the input reads as it did. -/
def matchRunsSpec : ChangeSpec := { name := "matchRuns", fn := fun _ => fun
  | [d1, d2, d3] => { results := [.lit (.bool true)], args := [d1, d2, d3] }
  | _ => none }
def matchRunsRow : OpenClaim := { program := "ytcflebggepmmcaa", sum := "9f46fdecdc068a7eea53731ae493817c3166daf1aaded9f38c88020f2aeed62e", func := "horologe/horologelaw30.MatchRuns", spec := "matchRuns", inPlace := ["math/bits.Sub64", "math/bits.Add64"], unfollowed := true, recurses := true, plainKeys := false, apart := false }
def MatchRunsSaid : Prop := matchRunsRow.holds Try.pinned (OpenSpec.ofChange matchRunsSpec)

/-- ITS FALSE NEIGHBOUR: 'it returns false'. Refute it at one input. -/
def matchRunsWrong : ChangeSpec := { name := "matchRuns", fn := fun _ => fun
  | [d1, d2, d3] => { results := [.lit (.bool false)], args := [d1, d2, d3] }
  | _ => none }
def MatchRunsWrongFalsely : Prop := matchRunsRow.holds Try.pinned (OpenSpec.ofChange matchRunsWrong)

/-- 'horologelaw30.MatchBetween': WHATEVER THE INPUT: true; the input reads as it did. -/
def matchBetweenSpec : ChangeSpec := { name := "matchBetween", fn := fun _ => fun
  | [d1, d2, d3, d4] => { results := [.lit (.bool true)], args := [d1, d2, d3, d4] }
  | _ => none }
def matchBetweenRow : OpenClaim := { program := "ytcflebggepmmcaa", sum := "9f46fdecdc068a7eea53731ae493817c3166daf1aaded9f38c88020f2aeed62e", func := "horologe/horologelaw30.MatchBetween", spec := "matchBetween", inPlace := ["math/bits.Sub64", "math/bits.Add64"], unfollowed := true, recurses := true, plainKeys := false, apart := false }
def MatchBetweenSaid : Prop := matchBetweenRow.holds Try.pinned (OpenSpec.ofChange matchBetweenSpec)

/-- ITS FALSE NEIGHBOUR: 'it returns false'. Refute it at one input. -/
def matchBetweenWrong : ChangeSpec := { name := "matchBetween", fn := fun _ => fun
  | [d1, d2, d3, d4] => { results := [.lit (.bool false)], args := [d1, d2, d3, d4] }
  | _ => none }
def MatchBetweenWrongFalsely : Prop := matchBetweenRow.holds Try.pinned (OpenSpec.ofChange matchBetweenWrong)

/-- 'horologelaw30.MatchOnce': WHATEVER THE INPUT: true; the input reads as it did. -/
def matchOnceSpec : ChangeSpec := { name := "matchOnce", fn := fun _ => fun
  | [d1, d2, d3, d4] => { results := [.lit (.bool true)], args := [d1, d2, d3, d4] }
  | _ => none }
def matchOnceRow : OpenClaim := { program := "ytcflebggepmmcaa", sum := "9f46fdecdc068a7eea53731ae493817c3166daf1aaded9f38c88020f2aeed62e", func := "horologe/horologelaw30.MatchOnce", spec := "matchOnce", inPlace := ["math/bits.Sub64", "math/bits.Add64"], unfollowed := true, recurses := true, plainKeys := false, apart := false }
def MatchOnceSaid : Prop := matchOnceRow.holds Try.pinned (OpenSpec.ofChange matchOnceSpec)

/-- ITS FALSE NEIGHBOUR: 'it returns false'. Refute it at one input. -/
def matchOnceWrong : ChangeSpec := { name := "matchOnce", fn := fun _ => fun
  | [d1, d2, d3, d4] => { results := [.lit (.bool false)], args := [d1, d2, d3, d4] }
  | _ => none }
def MatchOnceWrongFalsely : Prop := matchOnceRow.holds Try.pinned (OpenSpec.ofChange matchOnceWrong)

/-- 'horologelaw30.MatchKnown': WHATEVER THE INPUT: true; the input reads as it did. -/
def matchKnownSpec : ChangeSpec := { name := "matchKnown", fn := fun _ => fun
  | [] => { results := [.lit (.bool true)], args := [] }
  | _ => none }
def matchKnownRow : OpenClaim := { program := "ytcflebggepmmcaa", sum := "9f46fdecdc068a7eea53731ae493817c3166daf1aaded9f38c88020f2aeed62e", func := "horologe/horologelaw30.MatchKnown", spec := "matchKnown", inPlace := ["math/bits.Sub64", "math/bits.Add64"], unfollowed := true, recurses := true, plainKeys := false, apart := false }
def MatchKnownSaid : Prop := matchKnownRow.holds Try.pinned (OpenSpec.ofChange matchKnownSpec)

/-- ITS FALSE NEIGHBOUR: 'it returns false'. Refute it at one input. -/
def matchKnownWrong : ChangeSpec := { name := "matchKnown", fn := fun _ => fun
  | [] => { results := [.lit (.bool false)], args := [] }
  | _ => none }
def MatchKnownWrongFalsely : Prop := matchKnownRow.holds Try.pinned (OpenSpec.ofChange matchKnownWrong)

/-- 'horologelaw30.MatchMoved': WHATEVER THE INPUT: true; the input reads as it did. -/
def matchMovedSpec : ChangeSpec := { name := "matchMoved", fn := fun _ => fun
  | [d1, d2, d3, d4, d5] => { results := [.lit (.bool true)], args := [d1, d2, d3, d4, d5] }
  | _ => none }
def matchMovedRow : OpenClaim := { program := "ytcflebggepmmcaa", sum := "9f46fdecdc068a7eea53731ae493817c3166daf1aaded9f38c88020f2aeed62e", func := "horologe/horologelaw30.MatchMoved", spec := "matchMoved", inPlace := ["math/bits.Sub64", "math/bits.Add64"], unfollowed := true, recurses := true, plainKeys := false, apart := false }
def MatchMovedSaid : Prop := matchMovedRow.holds Try.pinned (OpenSpec.ofChange matchMovedSpec)

/-- ITS FALSE NEIGHBOUR: 'it returns false'. Refute it at one input. -/
def matchMovedWrong : ChangeSpec := { name := "matchMoved", fn := fun _ => fun
  | [d1, d2, d3, d4, d5] => { results := [.lit (.bool false)], args := [d1, d2, d3, d4, d5] }
  | _ => none }
def MatchMovedWrongFalsely : Prop := matchMovedRow.holds Try.pinned (OpenSpec.ofChange matchMovedWrong)

/- THE SECOND FORM. 'bulk': how many values and letters a reading holds, each counted each time it is reached (what is shared counts as often as it is met; a slice's spare places count too). A statement '..UptoSaid' is the law's where the arguments, and the package variables that the reading takes, are together of bulk at most 1048576: NARROWER than '..Said'. Prove '..Said' where nothing that the law and all that it calls make is longer than what came in: it says more and counts as full. Else prove '..UptoSaid'. A law counts once. -/
mutual
def uptoBulk {H : Type} : DataW H → Nat
  | .lit (.string bytes) => bytes.length + 1
  | .lit _ => 1
  | .nil => 1
  | .ptr d => uptoBulk d + 1
  | .slice elems spare => uptoBulkAll elems + uptoBulkAll spare + 1
  | .agg parts => uptoBulkAll parts + 1
  | .iface _ d => uptoBulk d + 1
  | .map entries => uptoBulkEntries entries + 1
  | .held _ => 1
def uptoBulkAll {H : Type} : List (DataW H) → Nat
  | [] => 0
  | d :: r => uptoBulk d + uptoBulkAll r
def uptoBulkEntries {H : Type} : List (Lit × DataW H) → Nat
  | [] => 0
  | x :: r => uptoBulkEntry x + uptoBulkEntries r
def uptoBulkEntry {H : Type} : Lit × DataW H → Nat
  | (.string bytes, d) => bytes.length + uptoBulk d + 1
  | (_, d) => uptoBulk d + 1
 end
def uptoSmall : (H : Type) → List (DataW H) → Bool := fun _ ds => decide (uptoBulkAll ds ≤ 1048576)
def OpenSpec.upto (s : _root_.Go.ChangeSpec) : _root_.Go.OpenSpec := { _root_.Go.OpenSpec.ofChange s with cond := some uptoSmall }

/-- 'horologelaw30.MatchTakes', WHERE WHAT IT READS IS OF BULK AT MOST 1048576: true; the input reads as it did. -/
def matchTakesUptoRow : OpenClaim := { program := "ytcflebggepmmcaa", sum := "9f46fdecdc068a7eea53731ae493817c3166daf1aaded9f38c88020f2aeed62e", func := "horologe/horologelaw30.MatchTakes", spec := "matchTakes", inPlace := ["math/bits.Sub64", "math/bits.Add64"], unfollowed := true, recurses := true, plainKeys := false, apart := false, narrowed := true }
def MatchTakesUptoSaid : Prop := matchTakesUptoRow.holds Try.pinned (OpenSpec.upto matchTakesSpec)

/-- 'horologelaw30.MatchRuns', WHERE WHAT IT READS IS OF BULK AT MOST 1048576: true; the input reads as it did. -/
def matchRunsUptoRow : OpenClaim := { program := "ytcflebggepmmcaa", sum := "9f46fdecdc068a7eea53731ae493817c3166daf1aaded9f38c88020f2aeed62e", func := "horologe/horologelaw30.MatchRuns", spec := "matchRuns", inPlace := ["math/bits.Sub64", "math/bits.Add64"], unfollowed := true, recurses := true, plainKeys := false, apart := false, narrowed := true }
def MatchRunsUptoSaid : Prop := matchRunsUptoRow.holds Try.pinned (OpenSpec.upto matchRunsSpec)

/-- 'horologelaw30.MatchBetween', WHERE WHAT IT READS IS OF BULK AT MOST 1048576: true; the input reads as it did. -/
def matchBetweenUptoRow : OpenClaim := { program := "ytcflebggepmmcaa", sum := "9f46fdecdc068a7eea53731ae493817c3166daf1aaded9f38c88020f2aeed62e", func := "horologe/horologelaw30.MatchBetween", spec := "matchBetween", inPlace := ["math/bits.Sub64", "math/bits.Add64"], unfollowed := true, recurses := true, plainKeys := false, apart := false, narrowed := true }
def MatchBetweenUptoSaid : Prop := matchBetweenUptoRow.holds Try.pinned (OpenSpec.upto matchBetweenSpec)

/-- 'horologelaw30.MatchOnce', WHERE WHAT IT READS IS OF BULK AT MOST 1048576: true; the input reads as it did. -/
def matchOnceUptoRow : OpenClaim := { program := "ytcflebggepmmcaa", sum := "9f46fdecdc068a7eea53731ae493817c3166daf1aaded9f38c88020f2aeed62e", func := "horologe/horologelaw30.MatchOnce", spec := "matchOnce", inPlace := ["math/bits.Sub64", "math/bits.Add64"], unfollowed := true, recurses := true, plainKeys := false, apart := false, narrowed := true }
def MatchOnceUptoSaid : Prop := matchOnceUptoRow.holds Try.pinned (OpenSpec.upto matchOnceSpec)

/-- 'horologelaw30.MatchKnown', WHERE WHAT IT READS IS OF BULK AT MOST 1048576: true; the input reads as it did. -/
def matchKnownUptoRow : OpenClaim := { program := "ytcflebggepmmcaa", sum := "9f46fdecdc068a7eea53731ae493817c3166daf1aaded9f38c88020f2aeed62e", func := "horologe/horologelaw30.MatchKnown", spec := "matchKnown", inPlace := ["math/bits.Sub64", "math/bits.Add64"], unfollowed := true, recurses := true, plainKeys := false, apart := false, narrowed := true }
def MatchKnownUptoSaid : Prop := matchKnownUptoRow.holds Try.pinned (OpenSpec.upto matchKnownSpec)

/-- 'horologelaw30.MatchMoved', WHERE WHAT IT READS IS OF BULK AT MOST 1048576: true; the input reads as it did. -/
def matchMovedUptoRow : OpenClaim := { program := "ytcflebggepmmcaa", sum := "9f46fdecdc068a7eea53731ae493817c3166daf1aaded9f38c88020f2aeed62e", func := "horologe/horologelaw30.MatchMoved", spec := "matchMoved", inPlace := ["math/bits.Sub64", "math/bits.Add64"], unfollowed := true, recurses := true, plainKeys := false, apart := false, narrowed := true }
def MatchMovedUptoSaid : Prop := matchMovedUptoRow.holds Try.pinned (OpenSpec.upto matchMovedSpec)

end Rows
end Go.Proofs.Ytcflebggepmmcaa
