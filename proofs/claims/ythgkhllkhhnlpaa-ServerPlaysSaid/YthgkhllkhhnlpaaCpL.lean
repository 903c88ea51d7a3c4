/- server: how much is kept of a table behind deeds: Live, and its bound. -/
import Derived.Test.YthgkhllkhhnlpaaCpS
namespace Go.Proofs.Ythgkhllkhhnlpaa
open Go.RowKit Go.Maps

set_option maxRecDepth 20000 in
theorem rises_lenC (b : Int) (L : List Slot) : Rises L → ∀ c, b - 1 ≤ c → (∀ s ∈ L, b ≤ s.num ∧ s.num ≤ c) → (L.length : Int) ≤ c - b + 1 := by
  refine snoc_ind (P := fun L => Rises L → ∀ c, b - 1 ≤ c → (∀ s ∈ L, b ≤ s.num ∧ s.num ≤ c) → (L.length : Int) ≤ c - b + 1) ?_ ?_ L
  · intro _ c hc _; simp; omega
  · intro L s ih hr c hc hb
    obtain ⟨h1, _, h3⟩ := List.pairwise_append.1 hr
    have hs := hb s (by simp)
    have := ih h1 (s.num - 1) (by omega) (fun a ha => ⟨(hb a (by simp [ha])).1, by have := h3 a ha s (by simp); omega⟩)
    rw [List.length_append, List.length_singleton]
    omega
set_option maxRecDepth 20000 in
theorem live_leC {M : List Slot} {k o : Nat} (h : MOk M k) : (liveM M o : Int) ≤ 2 ^ o + 1 := by
  have h2 := two_pow_pos o
  unfold liveM
  rw [List.countP_eq_length_filter]
  by_cases z : M = []
  · subst z; simp; omega
  · obtain ⟨L, s, rfl⟩ := split_last z
    obtain ⟨hL, hs, hl⟩ := snoc_ok h
    rw [(nw_snoc L s).1]
    have := rises_lenC (s.num - 2 ^ o) ((L ++ [s]).filter (nearTo s.num o)) (List.Pairwise.filter _ h.rises) s.num (by omega) (fun a ha => by
      obtain ⟨h1, h3⟩ := List.mem_filter.1 ha
      unfold nearTo at h3
      rw [decide_eq_true_eq] at h3
      refine ⟨by omega, ?_⟩
      rcases List.mem_append.1 h1 with k | k
      · have := hl a k; omega
      · have : a = s := by simpa using k
        rw [this]; exact Int.le_refl _)
    omega
set_option maxRecDepth 20000 in
theorem stpE_D (E : Ent) (z : Option (Nat × Int × Int)) : (stpE E z).D = E.D := by
  cases z with
  | none => rfl
  | some z => unfold stpE; simp only; split <;> rfl
set_option maxRecDepth 20000 in
theorem actE_D (x : Int) (E : Ent) (d : Deed) : (actE x E d).D = if d.put then addD E.D (d.S.o, d.S.d) else E.D := by
  unfold actE
  by_cases c : d.put = true
  · rw [if_pos c, if_pos c]
    exact stpE_D _ _
  · rw [if_neg c, if_neg c]
    split <;> rfl
set_option maxRecDepth 20000 in
theorem entF_w (x : Int) (D0 : Sd) (a : Array Value) (l : List Deed) : (entF x D0 a l).D.w = D0.w := by
  unfold entF
  have : ∀ (L : List Deed) (E : Ent), (L.foldl (actE x) E).D.w = E.D.w := by
    intro L
    induction L with
    | nil => intro E; rfl
    | cons d L ih =>
      intro E
      rw [List.foldl_cons, ih, actE_D]
      split <;> rfl
  rw [this]
  rfl
set_option maxRecDepth 20000 in
/-- how much is kept at most -/
theorem live_bd {N : Nat → Prop} {w : World} {T b : Nat} {C : CfgS} {o wd : Nat} {oD : Sd} {l : List Deed} {es : List Ent} {ot : Ent} {n : Nat} (h : TbI N w T b C o wd oD l es ot n) : es.length + liveSum o es ≤ es.length * (2 ^ o + 2 * wd + 18) := by
  obtain ⟨⟨S, t, f⟩, s⟩ := h
  have B := liveSum_le (o := o) (m := 2 ^ o + 2 * wd + 17) es (fun E hE => by
    have ok := t.oks E (List.mem_append_left _ hE)
    have h1 := live_leC (o := o) ok.m
    have h2 := ok.st
    have h0 : ((2 : Nat) ^ o : Int) = (2 : Int) ^ o := by simp
    obtain ⟨B, lv, gs, Fs, go, Fo, ti, ft⟩ := t.at_.ex
    obtain ⟨i, hi⟩ := List.getElem?_of_mem hE
    have lt := (List.getElem?_eq_some_iff.1 hi).1
    obtain ⟨p1, p2, p3, gv, sv, stv, he⟩ := ti.ent i _ _ E (List.getElem?_eq_getElem (by rw [ti.lg]; exact lt)) (List.getElem?_eq_getElem (by rw [ti.lF]; exact lt)) hi
    obtain ⟨pg, rg, Cg, pd, vs, e1, e2, g1, g2, f1, f2, f3, f4⟩ := (he.limb rfl).ex
    have h3 := g2.ok.l
    have h4 : E.D.w = wd := by
      have := (s.get hi).2
      rw [this, entF_w]
      rfl
    rw [h4] at h3
    unfold liveE
    omega)
  rw [show 2 ^ o + 2 * wd + 18 = (2 ^ o + 2 * wd + 17) + 1 by omega, Nat.mul_add, Nat.mul_one]
  omega
set_option maxRecDepth 20000 in
theorem live_tb {N : Nat → Prop} {w : World} {T b : Nat} {C : CfgS} {o wd : Nat} {oD : Sd} {l : List Deed} {es : List Ent} {ot : Ent} {n : Nat} (h : TbI N w T b C o wd oD l es ot n) (hn : n ≤ 900) :
    Calls Try.prog 19 #[ptrS T] w fun e w' => e = .returned (.int .i64 ((es.length + liveSum o es : Nat) : Int)) ∧ Mo w w' := by
  obtain ⟨⟨S, t, f⟩, s⟩ := h
  exact tlive_any t (by omega)
end Go.Proofs.Ythgkhllkhhnlpaa
