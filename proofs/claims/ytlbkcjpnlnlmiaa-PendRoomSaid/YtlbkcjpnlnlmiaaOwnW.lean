/- What stays in a world: for loops over iterators. -/
import Derived.Test.YtlbkcjpnlnlmiaaBlk
import Derived.Test.YtlbkcjpnlnlmiaaRangeP
namespace Go.Proofs.Ytlbkcjpnlnlmiaa
open Go.RowKit Go.Shelf

set_option maxRecDepth 20000 in
theorem Mo.grown {W W' : World} (h : Mo W W') : W.grownBy W' none := ⟨h.below.os, h.below.tape, h.below.output, h.below.size, fun k hk _ => h.below.block k hk⟩
set_option maxRecDepth 20000 in
theorem boxed_mo {W W' : World} {B : Nat} {t : TypeId} {v : Value} (h : Boxed W B t v) (k : Mo W W') : Boxed W' B t v := h.kept k.grown (by simp)
set_option maxRecDepth 20000 in
theorem Mo.of_below {V W W' : World} (h : Mo V W) (k : Below V.heap.size W W') : Mo V W' := Mo.of (h.below.trans k)
/-! ### what the loop keeps -/
def Cel (W W' : World) : Prop := W.heap.size ≤ W'.heap.size ∧ ∀ (k : Nat) (t : TypeId) (cs : Array Value) (z : Nat × Nat), W.heap[k]? = some (.cells cs t z) → W'.heap[k]? = some (.cells cs t z)
set_option maxRecDepth 20000 in
theorem ownFrom_cel {β : Type} {B : Nat} {I : β → World → Prop} (h : ∀ s W W', I s W → Cel W W' → I s W') : OwnFrom B I := fun s W W' row hs hg hr =>
  h s W W' hs ⟨hg.size, fun k t cs z hk => (hg.block k (Array.getElem?_eq_some_iff.1 hk).1 (fun e => by
    obtain ⟨_, o, ho, hc⟩ := hr k e.symm
    rw [hk] at ho
    cases ho
    cases hc)).trans hk⟩
set_option maxRecDepth 20000 in
theorem boxed_cel {W W' : World} {B : Nat} {t : TypeId} {v : Value} (h : Boxed W B t v) (k : Cel W W') : Boxed W' B t v := k.2 _ _ _ _ h
set_option maxRecDepth 20000 in
theorem owns_cel {W W' : World} {b : Nat} {e : TypeId} {size : Nat} {v : Value} {n : Nat} {xs : List Value} (h : W.ownsRow b e size v n xs) (k : Cel W W') : W'.ownsRow b e size v n xs := by
  refine ⟨h.1, ?_⟩
  rcases h.2 with hn | ⟨g, cap, cur, rfl, hb, hg, rest⟩
  · exact .inl hn
  · exact .inr ⟨g, cap, cur, rfl, hb, k.2 _ _ _ _ hg, rest⟩
end Go.Proofs.Ytlbkcjpnlnlmiaa
