/- allan's slots as a list: what the ring and the totals hold of them; plain. -/
import Derived.Test.YtfojgjannhhbaaaGrid3
import Derived.Test.YtfojgjannhhbaaaGrid6
namespace Go.Proofs.Ytfojgjannhhbaaa
open Go.RowKit

set_option maxRecDepth 20000 in
theorem snoc_ind {α : Type} {P : List α → Prop} (h0 : P []) (h1 : ∀ L s, P L → P (L ++ [s])) (L : List α) : P L := by
  rw [← List.reverse_reverse L]
  generalize L.reverse = M
  induction M with
  | nil => exact h0
  | cons x xs ih => rw [List.reverse_cons]; exact h1 _ _ ih
/-- slots that rise -/
def Rises (M : List Slot) : Prop := M.Pairwise (fun a b => a.num < b.num)
structure Fine (s : Slot) : Prop where
  some : s.some = true
  n1 : -9223372036854775808 ≤ s.num
  n2 : s.num ≤ 9223372036854775807
  near : Near s.off
def lk (L : List Slot) (y : Int) : Option Slot := L.find? (fun a => a.num == y)
set_option maxRecDepth 20000 in
theorem lk_some {L : List Slot} {y : Int} {a : Slot} (h : lk L y = some a) : a ∈ L ∧ a.num = y := by
  unfold lk at h
  exact ⟨List.mem_of_find?_eq_some h, by have := List.find?_some h; simpa using this⟩
set_option maxRecDepth 20000 in
theorem lk_none {L : List Slot} {y : Int} (h : lk L y = none) : ∀ a ∈ L, a.num ≠ y := by
  unfold lk at h
  intro a ha e
  have := List.find?_eq_none.1 h a ha
  simp [e] at this
set_option maxRecDepth 20000 in
theorem rises_uniq {L : List Slot} (h : Rises L) {a b : Slot} (ha : a ∈ L) (hb : b ∈ L) (e : a.num = b.num) : a = b := by
  unfold Rises at h
  induction h with
  | nil => cases ha
  | cons hx _ ih =>
    rcases List.mem_cons.1 ha with rfl | ha' <;> rcases List.mem_cons.1 hb with rfl | hb'
    · rfl
    · have := hx b hb'; omega
    · have := hx a ha'; omega
    · exact ih ha' hb'

/-- a slot more -/
def push (R o : Nat) (g : (Nat → Slot) × Tot) (s : Slot) : (Nat → Slot) × Tot := (updF g.1 (idx R s.num) s, withK R g.1 s g.2 o)
def held (R o : Nat) (L : List Slot) : (Nat → Slot) × Tot := L.foldl (push R o) (fun _ => slot0, tot0)
set_option maxRecDepth 20000 in
theorem held_snoc (R o : Nat) (L : List Slot) (s : Slot) : held R o (L ++ [s]) = push R o (held R o L) s := by unfold held; rw [List.foldl_append]; rfl
/-- what a place of the ring holds: the last slot there -/
structure RingOk (R : Nat) (L : List Slot) (f : Nat → Slot) : Prop where
  in_ : ∀ i, (f i).some = true → f i ∈ L ∧ idx R (f i).num = i
  out : ∀ s ∈ L, (f (idx R s.num)).some = true ∧ s.num ≤ (f (idx R s.num)).num
  zero : ∀ i, (f i).some = false → f i = slot0
set_option maxRecDepth 20000 in
theorem ringOk {R o : Nat} (L : List Slot) : (∀ s ∈ L, Fine s) → Rises L → RingOk R L (held R o L).1 := by
  refine snoc_ind (P := fun L => (∀ s ∈ L, Fine s) → Rises L → RingOk R L (held R o L).1) ?_ ?_ L
  · intro _ _
    exact ⟨fun i h => by simp [held, slot0] at h, fun s h => (by cases h), fun i _ => rfl⟩
  · intro L s ih hF hR
    have hR' : Rises L := (List.pairwise_append.1 hR).1
    have hlast : ∀ a ∈ L, a.num < s.num := fun a ha => (List.pairwise_append.1 hR).2.2 a ha s (by simp)
    have ih := ih (fun a ha => hF a (by simp [ha])) hR'
    have hs := hF s (by simp)
    rw [held_snoc]
    unfold push
    simp only
    generalize (held R o L).1 = f at *
    refine ⟨fun i h => ?_, fun a ha => ?_, fun i h => ?_⟩
    · by_cases e : i = idx R s.num
      · subst e; rw [updF_same]; exact ⟨by simp, rfl⟩
      · rw [updF_ne _ _ e] at h ⊢
        exact ⟨by simp [(ih.in_ i h).1], (ih.in_ i h).2⟩
    · by_cases e : idx R a.num = idx R s.num
      · rw [e, updF_same]
        refine ⟨hs.some, ?_⟩
        rcases List.mem_append.1 ha with h | h
        · have := hlast a h; omega
        · have : a = s := by simpa using h
          rw [this]; exact Int.le_refl _
      · rw [updF_ne _ _ e]
        rcases List.mem_append.1 ha with h | h
        · exact ih.out a h
        · have : a = s := by simpa using h
          rw [this] at e; exact absurd rfl e
    · by_cases e : i = idx R s.num
      · subst e; rw [updF_same] at h; rw [hs.some] at h; cases h
      · rw [updF_ne _ _ e] at h ⊢; exact ih.zero i h
set_option maxRecDepth 20000 in
theorem idx_eq {R : Nat} (hR : 0 < R) {x y : Int} (h : idx R x = idx R y) : ∃ q : Int, y = x + R * q := by
  unfold idx at h
  have h1 := Int.emod_nonneg x (show (R : Int) ≠ 0 by omega)
  have h2 := Int.emod_nonneg y (show (R : Int) ≠ 0 by omega)
  have e1 := Int.mul_ediv_add_emod x R
  have e2 := Int.mul_ediv_add_emod y R
  refine ⟨y / R - x / R, ?_⟩
  rw [Int.mul_sub]
  omega
set_option maxRecDepth 20000 in
theorem idx_far {R : Nat} (hR : 0 < R) {x y : Int} (h : idx R x = idx R y) (hlt : x < y) : x + R ≤ y := by
  obtain ⟨q, rfl⟩ := idx_eq hR h
  have : 0 < q := by
    rcases Int.lt_or_le 0 q with c | c
    · exact c
    · have := Int.mul_nonpos_of_nonneg_of_nonpos (show (0 : Int) ≤ R by omega) c; omega
  have : (R : Int) * 1 ≤ R * q := Int.mul_le_mul_of_nonneg_left (by omega) (by omega)
  omega
set_option maxRecDepth 20000 in
/-- what is found of a number that is m ahead of one behind all -/
theorem fnd_lk {R o : Nat} {L : List Slot} (hR : 0 < R) (hF : ∀ s ∈ L, Fine s) (hr : Rises L) (n m : Int) (n1 : -9223372036854775808 ≤ n) (n2 : n ≤ 9223372036854775807) (hn : ∀ a ∈ L, a.num < n) (m1 : 1 ≤ m) (m2 : m < R) (m3 : m ≤ 1024) :
    (∀ a, lk L (n - m) = some a → fnd R (held R o L).1 (wrap64 (n - m)) = (a.off, true)) ∧ (lk L (n - m) = none → (fnd R (held R o L).1 (wrap64 (n - m))).2 = false) := by
  have ok := ringOk (R := R) (o := o) L hF hr
  generalize (held R o L).1 = f at *
  unfold fnd
  constructor
  · intro a ha
    obtain ⟨h1, h2⟩ := lk_some ha
    have fa := hF a h1
    have hw : wrap64 (n - m) = a.num := by rw [← h2]; unfold wrap64; have := fa.n1; have := fa.n2; omega
    rw [hw]
    obtain ⟨o1, o2⟩ := ok.out a h1
    obtain ⟨i1, i2⟩ := ok.in_ _ o1
    have e : f (idx R a.num) = a := by
      rcases Int.lt_or_le a.num (f (idx R a.num)).num with c | c
      · have := idx_far hR i2.symm c
        have := hn _ i1
        omega
      · exact rises_uniq hr i1 h1 (by omega)
    rw [e, fa.some]
    simp
  · intro h
    have hne := lk_none h
    rw [Bool.and_eq_false_iff]
    by_cases c : (f (idx R (wrap64 (n - m)))).some = true
    · right
      obtain ⟨i1, i2⟩ := ok.in_ _ c
      have a1 := hn _ i1
      have a2 := hne _ i1
      rw [beq_eq_false_iff_ne]
      intro e
      rw [e] at a1 a2
      unfold wrap64 at a1 a2
      omega
    · left; simpa using c

/-- what a slot brings, those ahead of it known -/
def con (k : Nat) (pre : List Slot) (s : Slot) : Int × Int :=
  match lk pre (s.num - 2 ^ k), lk pre (s.num - 2 * 2 ^ k) with
  | some a, some b => (1, (s.off - 2 * a.off + b.off) * (s.off - 2 * a.off + b.off))
  | _, _ => (0, 0)
def sumN (k : Nat) (L : List Slot) : Nat → Int × Int
  | 0 => (0, 0)
  | n + 1 => ((sumN k L n).1 + (con k (L.take n) (L.getD n slot0)).1, (sumN k L n).2 + (con k (L.take n) (L.getD n slot0)).2)
set_option maxRecDepth 20000 in
theorem sumN_append (k : Nat) (L r : List Slot) (n : Nat) (h : n ≤ L.length) : sumN k (L ++ r) n = sumN k L n := by
  induction n with
  | zero => rfl
  | succ n ih =>
    unfold sumN
    rw [ih (by omega), List.take_append_of_le_length (by omega)]
    have : (L ++ r).getD n slot0 = L.getD n slot0 := by simp [List.getD, List.getElem?_append_left (show n < L.length by omega)]
    rw [this]
set_option maxRecDepth 20000 in
theorem sumN_snoc (k : Nat) (L : List Slot) (s : Slot) : sumN k (L ++ [s]) (L.length + 1) = ((sumN k L L.length).1 + (con k L s).1, (sumN k L L.length).2 + (con k L s).2) := by
  show ((sumN k (L ++ [s]) L.length).1 + _, (sumN k (L ++ [s]) L.length).2 + _) = _
  rw [sumN_append k L [s] _ (Nat.le_refl _), List.take_left']
  · simp [List.getD]
  · rfl
set_option maxRecDepth 20000 in
theorem two_pow_le {k o : Nat} (h : k < o) : 2 * (2 : Int) ^ k ≤ 2 ^ o := by
  have h1 : (2 : Nat) ^ (k + 1) ≤ 2 ^ o := Nat.pow_le_pow_right (by decide) h
  have e1 : (2 : Int) ^ o = ((2 ^ o : Nat) : Int) := by simp
  have e2 : (2 : Int) ^ (k + 1) = ((2 ^ (k + 1) : Nat) : Int) := by simp
  rw [← Int.mul_comm, ← Int.pow_succ, e1, e2]
  omega
set_option maxRecDepth 20000 in
theorem two_pow_pos (k : Nat) : (1 : Int) ≤ 2 ^ k := by
  have : (0 : Int) < 2 ^ k := Int.pow_pos (by decide)
  omega
set_option maxRecDepth 20000 in
theorem withS_con {R o : Nat} {L : List Slot} (ho : o ≤ 10) (hRo : R = 2 ^ o + 1) (hF : ∀ s ∈ L, Fine s) (hr : Rises L) (s : Slot) (hs : Fine s) (hn : ∀ a ∈ L, a.num < s.num) (t : Tot) (k : Nat) (hk : k < o) :
    withS R (held R o L).1 s t k k = ((t k).1 + (con k L s).1, (t k).2 + (con k L s).2) := by
  have p1 := two_pow_pos k
  have p2 := two_pow_le hk
  have p3 : (2 : Int) ^ o ≤ 1024 := by
    have h1 : (2 : Nat) ^ o ≤ 2 ^ 10 := Nat.pow_le_pow_right (by decide) ho
    rw [show (2 : Int) ^ o = ((2 ^ o : Nat) : Int) by simp]; omega
  have hR' : (R : Int) = 2 ^ o + 1 := by rw [hRo]; simp
  obtain ⟨A1, A2⟩ := fnd_lk (R := R) (o := o) (by omega) hF hr s.num (2 ^ k) hs.n1 hs.n2 hn (by omega) (by omega) (by omega)
  obtain ⟨B1, B2⟩ := fnd_lk (R := R) (o := o) (by omega) hF hr s.num (2 * 2 ^ k) hs.n1 hs.n2 hn (by omega) (by omega) (by omega)
  unfold withS con
  rw [hs.some, Bool.true_and]
  cases ha : lk L (s.num - 2 ^ k) with
  | none => rw [A2 ha]; simp
  | some a =>
    rw [A1 a ha]
    cases hb : lk L (s.num - 2 * 2 ^ k) with
    | none => rw [B2 hb]; simp
    | some b =>
      rw [B1 b hb]
      simp [updF_same]
set_option maxRecDepth 20000 in
theorem withK_con {R o : Nat} {L : List Slot} (ho : o ≤ 10) (hRo : R = 2 ^ o + 1) (hF : ∀ s ∈ L, Fine s) (hr : Rises L) (s : Slot) (hs : Fine s) (hn : ∀ a ∈ L, a.num < s.num) (t : Tot) (n : Nat) (hno : n ≤ o) (k : Nat) :
    withK R (held R o L).1 s t n k = if k < n then ((t k).1 + (con k L s).1, (t k).2 + (con k L s).2) else t k := by
  induction n with
  | zero => rw [if_neg (by omega)]; rfl
  | succ n ih =>
    rw [withK_succ]
    by_cases e : k = n
    · subst e
      rw [withS_con ho hRo hF hr s hs hn _ k (by omega), ih (by omega), if_neg (by omega), if_pos (by omega)]
    · rw [withS_ne _ _ _ _ e, ih (by omega)]
      by_cases c : k < n
      · rw [if_pos c, if_pos (by omega)]
      · rw [if_neg c, if_neg (by omega)]
set_option maxRecDepth 20000 in
/-- the totals are those of all slots -/
theorem held_tot {R o : Nat} (L : List Slot) (ho : o ≤ 10) (hRo : R = 2 ^ o + 1) (k : Nat) : (∀ s ∈ L, Fine s) → Rises L → (held R o L).2 k = if k < o then sumN k L L.length else (0, 0) := by
  refine snoc_ind (P := fun L => (∀ s ∈ L, Fine s) → Rises L → (held R o L).2 k = if k < o then sumN k L L.length else (0, 0)) ?_ ?_ L
  · intro _ _
    simp [held, tot0, sumN]
  · intro L s ih hF hr
    have hr' : Rises L := (List.pairwise_append.1 hr).1
    have hlast : ∀ a ∈ L, a.num < s.num := fun a ha => (List.pairwise_append.1 hr).2.2 a ha s (by simp)
    have hF' : ∀ a ∈ L, Fine a := fun a ha => hF a (by simp [ha])
    have ih := ih hF' hr'
    rw [held_snoc]
    unfold push
    simp only
    rw [withK_con ho hRo hF' hr' s (hF s (by simp)) hlast _ o (Nat.le_refl _), ih]
    by_cases c : k < o
    · rw [if_pos c, if_pos c, if_pos c, List.length_append, List.length_singleton, sumN_snoc]
    · rw [if_neg c, if_neg c, if_neg c]
set_option maxRecDepth 20000 in
/-- bounds of what is summed -/
theorem con_bd (k : Nat) (pre : List Slot) (s : Slot) (hF : ∀ a ∈ pre, Fine a) (hs : Near s.off) : 0 ≤ (con k pre s).1 ∧ (con k pre s).1 ≤ 1 ∧ 0 ≤ (con k pre s).2 ∧ (con k pre s).2 ≤ 316912650057057350374175801344 := by
  unfold con
  cases ha : lk pre (s.num - 2 ^ k) with
  | none => simp
  | some a =>
    cases hb : lk pre (s.num - 2 * 2 ^ k) with
    | none => simp
    | some b =>
      obtain ⟨a1, a2⟩ := (hF a (lk_some ha).1).near
      obtain ⟨b1, b2⟩ := (hF b (lk_some hb).1).near
      obtain ⟨s1, s2⟩ := hs
      exact ⟨by simp, by simp, sq_nn' _, sq_bd' (B := 562949953421312) (by omega) (by omega)⟩
set_option maxRecDepth 20000 in
theorem sumN_bd (k : Nat) (L : List Slot) (hF : ∀ a ∈ L, Fine a) (n : Nat) (hn : n ≤ L.length) : 0 ≤ (sumN k L n).1 ∧ (sumN k L n).1 ≤ n ∧ 0 ≤ (sumN k L n).2 ∧ (sumN k L n).2 ≤ n * 316912650057057350374175801344 := by
  induction n with
  | zero => simp [sumN]
  | succ n ih =>
    obtain ⟨i1, i2, i3, i4⟩ := ih (by omega)
    have hg : L.getD n slot0 ∈ L := by simp [List.getD, List.getElem?_eq_getElem (show n < L.length by omega)]
    obtain ⟨c1, c2, c3, c4⟩ := con_bd k (L.take n) (L.getD n slot0) (fun a ha => hF a (List.mem_of_mem_take ha)) (hF _ hg).near
    unfold sumN
    simp only
    refine ⟨by omega, by omega, by omega, ?_⟩
    rw [show (((n + 1 : Nat)) : Int) = (n : Int) + 1 by simp, Int.add_mul]
    omega
end Go.Proofs.Ytfojgjannhhbaaa
