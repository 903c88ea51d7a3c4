/- Regions that draw their order inside a round of a loop over an iterator: reads, and calls that make blocks alone, in one walk. -/
import Derived.Test.YtlbkcjpnlnlmiaaInRound
import Derived.Test.YtlbkcjpnlnlmiaaQTail
namespace Go.Proofs.Ytlbkcjpnlnlmiaa
open Go.RowKit Go.Shelf
section
variable {P : Program} {n lr : Nat} {Q : Exit → Act → World → Prop} {C : World → Prop}
set_option maxRecDepth 20000 in
theorem wpIn_region_quiet {id : Nat} {ops : Array Oper} {a : Act} {w : World} (hm : P.follows .mixedOrders = true) (hB : Region.lexB .any ops = true) (hd : noDefer ops.toList = true) (hL : ¬ LetsOut Q) (hC : C { w with drawn := w.drawn + 1 })
    (h : wpQuiet P ops C (fun a' => ∀ w', C w' → Q .normal a' w') ops.toList a) : (Code.region id ops true).wpIn (Fence.wide.inRound lr) n P Q a w := by
  simp only [Region.lexB, Bool.and_eq_true] at hB
  refine wpIn_region_any hm (wpAnyIn_of_wpAny hd hL _ _ _ _ (wpAny_of_quiet (Q := fun a' => ∀ w', C w' → Q .normal a' w') (fun _ w' hw' h => h w' hw') _ _ _ _ hC ?_))
  have := wpAnyQ_lex (C := C) (md := .any) hB.1 ops.toList 0 (Array.replicate ops.size false) a (by simp) (by simpa using hB.2) h
  simpa using this
set_option maxRecDepth 20000 in
theorem wpIn_region_mo {id : Nat} {a : Act} {w : World} {l : List Oper} (hm : P.follows .mixedOrders = true) (hB : Region.lexB .any l.toArray = true) (hd : noDefer l = true) (hL : ¬ LetsOut Q)
    (h : wpQuiet P l.toArray (fun w' => ∃ x : JD, w' = more w x.J x.d) (fun a' => ∀ w', (∃ x : JD, w' = more w x.J x.d) → Q .normal a' w') l a) : (Code.region id l.toArray true).wpIn (Fence.wide.inRound lr) n P Q a w :=
  wpIn_region_quiet (C := fun w' => ∃ x : JD, w' = more w x.J x.d) hm hB (by simpa using hd) hL ⟨⟨#[], w.drawn + 1⟩, by simp [more]⟩ (by simpa using h)
set_option maxRecDepth 20000 in
theorem wpIn_region_mo' {id : Nat} {a : Act} {w : World} {J : Array Obj} {d : Nat} {l : List Oper} (hm : P.follows .mixedOrders = true) (hB : Region.lexB .any l.toArray = true) (hd : noDefer l = true) (hL : ¬ LetsOut Q)
    (h : wpQuiet P l.toArray (fun w' => ∃ x : JD, w' = more w x.J x.d) (fun a' => ∀ w', (∃ x : JD, w' = more w x.J x.d) → Q .normal a' w') l a) : (Code.region id l.toArray true).wpIn (Fence.wide.inRound lr) n P Q a (more w J d) :=
  wpIn_region_quiet (C := fun w' => ∃ x : JD, w' = more w x.J x.d) hm hB (by simpa using hd) hL ⟨⟨J, d + 1⟩, rfl⟩ (by simpa using h)
end
end Go.Proofs.Ytlbkcjpnlnlmiaa
