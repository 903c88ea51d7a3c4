/- allan: slots that are laid step by step, with a straight line put to their offsets; plain. -/
import Derived.Test.YtfojgjannhhbaaaAllanM
namespace Go.Proofs.Ytfojgjannhhbaaa
open Go.RowKit

/-- slots on by f, offsets times t, with a straight line put to them -/
def phi (f t up each : Int) (s : Slot) : Slot := ⟨s.some, s.num + f, t * s.off + up + each * s.num, s.del⟩
set_option maxRecDepth 20000 in
theorem nw_map (g : Slot → Slot) {M : List Slot} (h : M ≠ []) : nwOf (M.map g) = g (nwOf M) := by
  obtain ⟨L, s, rfl⟩ := split_last h
  rw [List.map_append]
  show nwOf (L.map g ++ [g s]) = _
  rw [(nw_snoc _ _).1, (nw_snoc _ _).1]
set_option maxRecDepth 20000 in
theorem putM_map (f t up each : Int) (M : List Slot) (n off del : Int) (h1 : Near off) (h2 : Near (t * off + up + each * n)) :
    putM (M.map (phi f t up each)) (f + n) (t * off + up + each * n) del = ((putM M n off del).1.map (phi f t up each), (putM M n off del).2) := by
  unfold putM
  rw [if_pos h1, if_pos h2]
  have e : (⟨true, f + n, t * off + up + each * n, del⟩ : Slot) = phi f t up each ⟨true, n, off, del⟩ := by unfold phi; simp only; rw [Int.add_comm f n]
  rw [e]
  by_cases z : M = []
  · subst z; simp
  · have z' : M.map (phi f t up each) ≠ [] := by simpa using z
    rw [if_neg z, if_neg z', nw_map _ z]
    have en : (phi f t up each (nwOf M)).num = (nwOf M).num + f := rfl
    have ed : (phi f t up each (nwOf M)).del = (nwOf M).del := rfl
    rw [en, ed]
    by_cases c1 : (nwOf M).num < n
    · rw [if_pos c1, if_pos (by omega)]; simp
    · rw [if_neg c1, if_neg (by omega)]
      by_cases c2 : n < (nwOf M).num
      · rw [if_pos c2, if_pos (by omega)]
      · rw [if_neg c2, if_neg (by omega)]
        by_cases c3 : del < (nwOf M).del
        · rw [if_pos c3, if_pos c3]; simp [List.map_dropLast]
        · rw [if_neg c3, if_neg c3]
set_option maxRecDepth 20000 in
theorem lk_map (f t up each : Int) (L : List Slot) (y : Int) : lk (L.map (phi f t up each)) (y + f) = (lk L y).map (phi f t up each) := by
  unfold lk
  induction L with
  | nil => rfl
  | cons a l ih =>
    rw [List.map_cons, List.find?_cons, List.find?_cons]
    have : ((phi f t up each a).num == y + f) = (a.num == y) := by
      rw [Bool.eq_iff_iff, beq_iff_eq, beq_iff_eq]
      show a.num + f = y + f ↔ _
      omega
    rw [this]
    cases (a.num == y) <;> simp [ih]
set_option maxRecDepth 20000 in
theorem con_map (f t up each : Int) (k : Nat) (pre : List Slot) (s : Slot) : con k (pre.map (phi f t up each)) (phi f t up each s) = ((con k pre s).1, t * t * (con k pre s).2) := by
  unfold con
  have e1 : (phi f t up each s).num - 2 ^ k = (s.num - 2 ^ k) + f := by show s.num + f - 2 ^ k = _; omega
  have e2 : (phi f t up each s).num - 2 * 2 ^ k = (s.num - 2 * 2 ^ k) + f := by show s.num + f - 2 * 2 ^ k = _; omega
  rw [e1, e2, lk_map, lk_map]
  cases ha : lk pre (s.num - 2 ^ k) with
  | none => simp
  | some a =>
    cases hb : lk pre (s.num - 2 * 2 ^ k) with
    | none => simp
    | some b =>
      have na := (lk_some ha).2
      have nb := (lk_some hb).2
      simp only [Option.map_some]
      have d : (phi f t up each s).off - 2 * (phi f t up each a).off + (phi f t up each b).off = t * (s.off - 2 * a.off + b.off) := by
        show (t * s.off + up + each * s.num) - 2 * (t * a.off + up + each * a.num) + (t * b.off + up + each * b.num) = _
        rw [na, nb]
        simp only [Int.mul_sub, Int.mul_add, Int.mul_left_comm t 2, Int.mul_left_comm each 2]
        omega
      rw [d]
      refine Prod.ext rfl ?_
      show t * (s.off - 2 * a.off + b.off) * (t * (s.off - 2 * a.off + b.off)) = t * t * ((s.off - 2 * a.off + b.off) * (s.off - 2 * a.off + b.off))
      generalize s.off - 2 * a.off + b.off = d
      rw [Int.mul_assoc, Int.mul_assoc, Int.mul_left_comm d t d]
set_option maxRecDepth 20000 in
theorem sumN_map (f t up each : Int) (k : Nat) (M : List Slot) (n : Nat) (hn : n ≤ M.length) : sumN k (M.map (phi f t up each)) n = ((sumN k M n).1, t * t * (sumN k M n).2) := by
  induction n with
  | zero => simp [sumN]
  | succ n ih =>
    have hg : (M.map (phi f t up each)).getD n slot0 = phi f t up each (M.getD n slot0) := by
      have h : n < M.length := by omega
      simp [List.getD, List.getElem?_eq_getElem h]
    show ((sumN k (M.map (phi f t up each)) n).1 + _, (sumN k (M.map (phi f t up each)) n).2 + _) = _
    rw [ih (by omega), ← List.map_take, hg, con_map]
    refine Prod.ext rfl ?_
    show t * t * (sumN k M n).2 + t * t * (con k (M.take n) (M.getD n slot0)).2 = t * t * ((sumN k M n).2 + (con k (M.take n) (M.getD n slot0)).2)
    rw [Int.mul_add]
set_option maxRecDepth 20000 in
theorem live_map (f t up each : Int) (M : List Slot) (o : Nat) : liveM (M.map (phi f t up each)) o = liveM M o := by
  unfold liveM
  by_cases z : M = []
  · subst z; rfl
  · rw [nw_map _ z, List.countP_map]
    congr 1
    funext s
    show nearTo ((nwOf M).num + f) o (phi f t up each s) = nearTo (nwOf M).num o s
    unfold nearTo
    show decide ((nwOf M).num + f - (s.num + f) ≤ 2 ^ o) = _
    rw [show (nwOf M).num + f - (s.num + f) = (nwOf M).num - s.num by omega]

/-- steps -/
structure Stp where
  on : Int
  inn : Int
  off : Int
  del : Int
structure Stp.Ok (s : Stp) : Prop where
  a1 : 0 ≤ s.on
  a2 : s.on ≤ 255
  b1 : 0 ≤ s.inn
  b2 : s.inn ≤ 255
  c1 : -2147483648 ≤ s.off
  c2 : s.off ≤ 2147483647
  d1 : -2147483648 ≤ s.del
  d2 : s.del ≤ 2147483647
def laidS (f t up each : Int) (g : Int × List Slot) (s : Stp) : Int × List Slot := (g.1 + s.on % 16, (putM g.2 (f + (g.1 + s.on % 16)) (t * s.off + up + each * (g.1 + s.on % 16)) s.del).1)
def laidF (f t up each : Int) (l : List Stp) : Int × List Slot := l.foldl (laidS f t up each) (0, [])
set_option maxRecDepth 20000 in
theorem laidF_snoc (f t up each : Int) (l : List Stp) (s : Stp) : laidF f t up each (l ++ [s]) = laidS f t up each (laidF f t up each l) s := by unfold laidF; rw [List.foldl_append]; rfl
/-- what steps keep to -/
structure LaidOk (k : Nat) (g : Int × List Slot) : Prop where
  n0 : 0 ≤ g.1
  n1 : g.1 ≤ 15 * k
  ok : MOk g.2 k
  last : (nwOf g.2).num ≤ g.1 ∨ g.2 = []
set_option maxRecDepth 20000 in
theorem laid_base (l : List Stp) : (∀ s ∈ l, s.Ok) → l.length ≤ 1000 → LaidOk l.length (laidF 0 1 0 0 l) := by
  refine snoc_ind (P := fun l => (∀ s ∈ l, Stp.Ok s) → l.length ≤ 1000 → LaidOk l.length (laidF 0 1 0 0 l)) ?_ ?_ l
  · intro _ _
    exact ⟨Int.le_refl _, by simp [laidF], mok_nil _, .inr rfl⟩
  · intro l s ih hl hn
    have hs := hl s (by simp)
    rw [List.length_append, List.length_singleton] at hn ⊢
    have ih := ih (fun a ha => hl a (by simp [ha])) (by omega)
    rw [laidF_snoc]
    generalize laidF 0 1 0 0 l = g at *
    obtain ⟨n, M⟩ := g
    obtain ⟨i0, i1, i2, i3⟩ := ih
    have a1 := hs.a1
    have c1 := hs.c1
    have c2 := hs.c2
    unfold laidS
    simp only at i0 i1 i2 i3 ⊢
    rw [Int.zero_add, Int.one_mul, Int.zero_mul, Int.add_zero, Int.add_zero]
    have hN : Near s.off := ⟨by omega, by omega⟩
    refine ⟨by simp only; omega, by simp only; omega, putM_ok i2 _ _ _ (by omega) (by omega), ?_⟩
    left
    simp only
    unfold putM
    rw [if_pos hN]
    by_cases z : M = []
    · subst z; simp [nwOf]
    · have hl2 : (nwOf M).num ≤ n := i3.resolve_right z
      rw [if_neg z]
      by_cases c1 : (nwOf M).num < n + s.on % 16
      · rw [if_pos c1, (nw_snoc _ _).1]; exact Int.le_refl _
      · rw [if_neg c1, if_neg (by omega)]
        by_cases c3 : s.del < (nwOf M).del
        · rw [if_pos c3, (nw_snoc _ _).1]; exact Int.le_refl _
        · rw [if_neg c3]; show (nwOf M).num ≤ _; omega
set_option maxRecDepth 20000 in
theorem near_line {t up each n off : Int} (ht : t = 0 ∨ t = 1 ∨ t = 2) (u1 : -2147483648 ≤ up) (u2 : up ≤ 2147483647) (e1 : -32768 ≤ each) (e2 : each ≤ 32767) (n0 : 0 ≤ n) (n1 : n ≤ 16000) (o1 : -2147483648 ≤ off) (o2 : off ≤ 2147483647) : Near (t * off + up + each * n) := by
  have h1 : each * n ≤ 32767 * 16000 := by
    rcases Int.le_total 0 each with c | c
    · exact Int.mul_le_mul e2 n1 n0 (by decide)
    · have := Int.mul_nonpos_of_nonpos_of_nonneg c n0; omega
  have h2 : -(32768 * 16000) ≤ each * n := by
    have : -each * n ≤ 32768 * 16000 := by
      rcases Int.le_total 0 (-each) with c | c
      · exact Int.mul_le_mul (by omega) n1 n0 (by decide)
      · have := Int.mul_nonpos_of_nonpos_of_nonneg c n0; omega
    rw [Int.neg_mul] at this
    omega
  rcases ht with rfl | rfl | rfl <;> exact ⟨by omega, by omega⟩
set_option maxRecDepth 20000 in
theorem laid_map (f t up each : Int) (ht : t = 0 ∨ t = 1 ∨ t = 2) (u1 : -2147483648 ≤ up) (u2 : up ≤ 2147483647) (e1 : -32768 ≤ each) (e2 : each ≤ 32767) (l : List Stp) : (∀ s ∈ l, s.Ok) → l.length ≤ 1000 → laidF f t up each l = ((laidF 0 1 0 0 l).1, (laidF 0 1 0 0 l).2.map (phi f t up each)) := by
  refine snoc_ind (P := fun l => (∀ s ∈ l, Stp.Ok s) → l.length ≤ 1000 → laidF f t up each l = ((laidF 0 1 0 0 l).1, (laidF 0 1 0 0 l).2.map (phi f t up each))) ?_ ?_ l
  · intro _ _; rfl
  · intro l s ih hl hn
    have hs := hl s (by simp)
    rw [List.length_append, List.length_singleton] at hn
    have hl' : ∀ a ∈ l, Stp.Ok a := fun a ha => hl a (by simp [ha])
    have ih := ih hl' (by omega)
    have hb := laid_base l hl' (by omega)
    rw [laidF_snoc, laidF_snoc, ih]
    generalize laidF 0 1 0 0 l = g at *
    obtain ⟨n, M⟩ := g
    have i0 := hb.n0
    have i1 := hb.n1
    simp only at i0 i1
    have a1 := hs.a1
    have c1 := hs.c1
    have c2 := hs.c2
    unfold laidS
    simp only
    rw [Int.zero_add, Int.one_mul, Int.zero_mul, Int.add_zero, Int.add_zero]
    rw [putM_map f t up each M _ _ _ ⟨by omega, by omega⟩ (near_line ht u1 u2 e1 e2 (by omega) (by omega) c1 c2)]
set_option maxRecDepth 20000 in
/-- each step is kept -/
theorem laid_kept (f t up each : Int) (ht : t = 0 ∨ t = 1 ∨ t = 2) (u1 : -2147483648 ≤ up) (u2 : up ≤ 2147483647) (e1 : -32768 ≤ each) (e2 : each ≤ 32767) (l : List Stp) (s : Stp) (hl : ∀ s ∈ l, s.Ok) (hs : s.Ok) (hn : l.length ≤ 900) :
    (putM (laidF f t up each l).2 (f + ((laidF f t up each l).1 + s.on % 16)) (t * s.off + up + each * ((laidF f t up each l).1 + s.on % 16)) s.del).2 = 1 := by
  rw [laid_map f t up each ht u1 u2 e1 e2 l hl (by omega)]
  have hb := laid_base l hl (by omega)
  generalize laidF 0 1 0 0 l = g at *
  obtain ⟨n, M⟩ := g
  obtain ⟨i0, i1, i2, i3⟩ := hb
  simp only at i0 i1 i2 i3 ⊢
  have a1 := hs.a1
  have c1 := hs.c1
  have c2 := hs.c2
  rw [putM_map f t up each M _ _ _ ⟨by omega, by omega⟩ (near_line ht u1 u2 e1 e2 (by omega) (by omega) c1 c2)]
  simp only
  unfold putM
  rw [if_pos (show Near s.off from ⟨by omega, by omega⟩)]
  by_cases z : M = []
  · rw [if_pos z]
  · have := i3.resolve_right z
    rw [if_neg z]
    split
    · rfl
    · rw [if_neg (by omega)]; split <;> rfl
set_option maxRecDepth 20000 in
theorem laid_ok (f t up each : Int) (f1 : -2147483648 ≤ f) (f2 : f ≤ 2147483647) (l : List Stp) : (∀ s ∈ l, s.Ok) → l.length ≤ 1000 →
    MOk (laidF f t up each l).2 l.length ∧ 0 ≤ (laidF f t up each l).1 ∧ (laidF f t up each l).1 ≤ 15 * l.length := by
  refine snoc_ind (P := fun l => (∀ s ∈ l, Stp.Ok s) → l.length ≤ 1000 → MOk (laidF f t up each l).2 l.length ∧ 0 ≤ (laidF f t up each l).1 ∧ (laidF f t up each l).1 ≤ 15 * l.length) ?_ ?_ l
  · intro _ _; exact ⟨mok_nil _, Int.le_refl _, by simp [laidF]⟩
  · intro l s ih hl hn
    have hs := hl s (by simp)
    rw [List.length_append, List.length_singleton] at hn ⊢
    obtain ⟨i1, i2, i3⟩ := ih (fun a ha => hl a (by simp [ha])) (by omega)
    have a1 := hs.a1
    rw [laidF_snoc]
    unfold laidS
    simp only
    exact ⟨putM_ok i1 _ _ _ (by omega) (by omega), by omega, by omega⟩
end Go.Proofs.Ytfojgjannhhbaaa
