/- law33, plain: intervals in another order, moved, and one more. -/
import Derived.Test.YtdgmcgfkammioaaLeastP
namespace Go.Proofs.Ytdgmcgfkammioaa

set_option maxRecDepth 20000 in
theorem had_perm {l l' : List Iv} (h : l.Perm l') (p : Int) : had l p = had l' p := h.countP_eq _
set_option maxRecDepth 20000 in
theorem isAgr_perm {l l' : List Iv} (h : l.Perm l') {m : Nat} {o : Option Iv} (k : IsAgr l m o) : IsAgr l' m o := by
  cases o with
  | none =>
    intro x hx
    rw [← had_perm h]
    exact k x (h.mem_iff.2 hx)
  | some i =>
    obtain ⟨⟨⟨x, hx, ex⟩, k1, k2⟩, ⟨⟨y, hy, ey⟩, k3, k4⟩⟩ := k
    refine ⟨⟨⟨x, h.mem_iff.1 hx, ex⟩, by rw [← had_perm h]; exact k1, fun z hz q => k2 z (h.mem_iff.2 hz) (by rw [had_perm h]; exact q)⟩, ⟨⟨y, h.mem_iff.1 hy, ey⟩, by rw [← had_perm h]; exact k3, fun z hz q => k4 z (h.mem_iff.2 hz) (by rw [had_perm h]; exact q)⟩⟩
set_option maxRecDepth 20000 in
theorem isFind_perm {l l' : List Iv} (h : l.Perm l') {o : Option (Iv × Nat)} (k : IsFind l o) : IsFind l' o := by
  have hl := h.length_eq
  cases o with
  | none => exact fun f hf => by rw [← hl] at hf ⊢; exact isAgr_perm h (k f hf)
  | some x => exact ⟨by rw [← hl]; exact k.1, by rw [← hl]; exact isAgr_perm h k.2.1, fun f hf => by rw [← hl]; exact isAgr_perm h (k.2.2 f hf)⟩
def shI (b : Int) (x : Iv) : Iv := ⟨x.lo + b, x.hi + b⟩
set_option maxRecDepth 20000 in
theorem had_sh (l : List Iv) (b p : Int) : had (l.map (shI b)) (p + b) = had l p := by
  unfold had
  rw [List.countP_map]
  refine List.countP_congr fun x _ => ?_
  simp [shI]
set_option maxRecDepth 20000 in
theorem isAgr_sh {l : List Iv} {m : Nat} {o : Option Iv} (b : Int) (k : IsAgr l m o) : IsAgr (l.map (shI b)) m (o.map (shI b)) := by
  cases o with
  | none =>
    intro x hx
    obtain ⟨y, hy, rfl⟩ := List.mem_map.1 hx
    show had (l.map (shI b)) (y.lo + b) < m
    rw [had_sh]
    exact k y hy
  | some i =>
    obtain ⟨⟨⟨x, hx, ex⟩, k1, k2⟩, ⟨⟨y, hy, ey⟩, k3, k4⟩⟩ := k
    refine ⟨⟨⟨shI b x, List.mem_map_of_mem hx, by simp [shI, ex]⟩, ?_, ?_⟩, ⟨⟨shI b y, List.mem_map_of_mem hy, by simp [shI, ey]⟩, ?_, ?_⟩⟩
    · show m ≤ had (l.map (shI b)) (i.lo + b)
      rw [had_sh]; exact k1
    · intro z hz q
      obtain ⟨u, hu, rfl⟩ := List.mem_map.1 hz
      have q' : m ≤ had (l.map (shI b)) (u.lo + b) := q
      rw [had_sh] at q'
      have := k2 u hu q'
      show i.lo + b ≤ u.lo + b
      omega
    · show m ≤ had (l.map (shI b)) (i.hi + b)
      rw [had_sh]; exact k3
    · intro z hz q
      obtain ⟨u, hu, rfl⟩ := List.mem_map.1 hz
      have q' : m ≤ had (l.map (shI b)) (u.hi + b) := q
      rw [had_sh] at q'
      have := k4 u hu q'
      show u.hi + b ≤ i.hi + b
      omega
set_option maxRecDepth 20000 in
theorem isFind_sh {l : List Iv} {o : Option (Iv × Nat)} (b : Int) (k : IsFind l o) : IsFind (l.map (shI b)) (o.map fun x => (shI b x.1, x.2)) := by
  cases o with
  | none => exact fun f hf => by rw [List.length_map] at hf ⊢; exact isAgr_sh b (k f hf)
  | some x => exact ⟨by rw [List.length_map]; exact k.1, by rw [List.length_map]; exact isAgr_sh b k.2.1, fun f hf => by rw [List.length_map]; exact isAgr_sh b (k.2.2 f hf)⟩
set_option maxRecDepth 20000 in
theorem may_sh {l : List Iv} (b : Int) (h : MayL l) : MayL (l.map (shI b)) := fun x hx => by
  obtain ⟨y, hy, rfl⟩ := List.mem_map.1 hx
  have := h y hy
  show y.lo + b ≤ y.hi + b
  omega
set_option maxRecDepth 20000 in
theorem may_perm {l l' : List Iv} (h : l.Perm l') (k : MayL l) : MayL l' := fun x hx => k x (h.mem_iff.2 hx)
/-- in another order, and moved -/
def movedL (l : List Iv) (b : Int) (O : List Nat) : List Iv := O.map fun i => shI b (l.getD i ⟨0, 0⟩)
set_option maxRecDepth 20000 in
theorem range_getD (l : List Iv) : (List.range l.length).map (fun i => l.getD i ⟨0, 0⟩) = l := by
  refine List.ext_getElem (by simp) fun i h1 h2 => ?_
  simp [List.getD, List.getElem?_eq_getElem h2]
set_option maxRecDepth 20000 in
theorem moved_perm {l : List Iv} {O : List Nat} (b : Int) (h : O.Perm (List.range l.length)) : (movedL l b O).Perm (l.map (shI b)) := by
  have h1 := h.map fun i => shI b (l.getD i ⟨0, 0⟩)
  have h2 : (List.range l.length).map (fun i => shI b (l.getD i ⟨0, 0⟩)) = l.map (shI b) := by
    conv => rhs; rw [← range_getD l, List.map_map]
    rfl
  rw [h2] at h1
  exact h1
set_option maxRecDepth 20000 in
theorem find_moved {l : List Iv} {O : List Nat} (b : Int) (h : O.Perm (List.range l.length)) {o : Option (Iv × Nat)} (k : IsFind l o) : IsFind (movedL l b O) (o.map fun x => (shI b x.1, x.2)) :=
  isFind_perm (moved_perm b h).symm (isFind_sh b k)
set_option maxRecDepth 20000 in
/-- one more that has all of it -/
theorem had_one (l : List Iv) (i : Iv) (p : Int) : had (l ++ [i]) p = had l p + if i.lo ≤ p ∧ p ≤ i.hi then 1 else 0 := by
  unfold had
  rw [List.countP_append]
  by_cases c : i.lo ≤ p ∧ p ≤ i.hi
  · rw [if_pos c]; simp [c.1, c.2]
  · rw [if_neg c]
    simp only [List.countP_cons, List.countP_nil, Nat.zero_add]
    rw [if_neg (by simp; omega)]
set_option maxRecDepth 20000 in
theorem find_one {l : List Iv} {i : Iv} {f : Nat} (h : IsFind l (some (i, f))) : IsFind (l ++ [i]) (some (i, f)) := by
  obtain ⟨h1, h2, h3⟩ := h
  have hm : 0 < l.length - f := by omega
  have hle := agr_le hm h2
  refine ⟨by rw [List.length_append]; simp; omega, ?_, fun f' hf' => ?_⟩
  · rw [List.length_append, List.length_singleton, show l.length + 1 - f = l.length - f + 1 by omega]
    refine isAgr_of (by omega) ?_ ?_ fun p hp => ?_
    · rw [had_one, if_pos ⟨Int.le_refl _, hle⟩]; have := h2.1.2.1; omega
    · rw [had_one, if_pos ⟨hle, Int.le_refl _⟩]; have := h2.2.2.1; omega
    · rw [had_one] at hp
      by_cases c : i.lo ≤ p ∧ p ≤ i.hi
      · exact c
      · rw [if_neg c] at hp
        exact agr_within hm h2 (by omega)
  · have h4 := h3 f' hf'
    rw [List.length_append, List.length_singleton, show l.length + 1 - f' = l.length - f' + 1 by omega]
    intro x hx
    have h5 := agr_none (show 0 < l.length - f' by omega) h4 x.lo
    rw [had_one]
    split <;> omega
set_option maxRecDepth 20000 in
theorem true_one {l : List Iv} {i : Iv} (h : i.lo ≤ i.hi) : (trueL (l ++ [i]) i).length = (trueL l i).length + 1 := by
  unfold trueL
  rw [trueL_count, trueL_count, List.countP_append]
  simp [meets, h]
/-- who they are, in the first order -/
def whoL (O : List Nat) (xs : List Nat) : List Nat := xs.map fun k => O.getD k 0
set_option maxRecDepth 20000 in
theorem who_perm {l : List Iv} {O : List Nat} (b : Int) (h : O.Perm (List.range l.length)) (i : Iv) : (whoL O (trueL (movedL l b O) (shI b i))).Perm (trueL l i) := by
  have hl : (movedL l b O).length = O.length := by unfold movedL; rw [List.length_map]
  have e1 : trueL (movedL l b O) (shI b i) = (List.range O.length).filter fun k => (fun j => l[j]?.any (meets i)) (O.getD k 0) := by
    unfold trueL
    rw [hl]
    refine List.filter_congr fun k hk => ?_
    have hk' := List.mem_range.1 hk
    have hj : O[k] < l.length := List.mem_range.1 (h.mem_iff.1 (List.getElem_mem hk'))
    unfold movedL
    rw [List.getElem?_map, List.getElem?_eq_getElem hk']
    simp only [Option.map_some, Option.any_some, List.getD, List.getElem?_eq_getElem hk', Option.getD_some, List.getElem?_eq_getElem hj]
    unfold meets shI
    simp
  have e2 : O = (List.range O.length).map fun k => O.getD k 0 := by
    refine List.ext_getElem (by simp) fun k h1 h2 => ?_
    simp [List.getD, List.getElem?_eq_getElem h1]
  have e3 : whoL O (trueL (movedL l b O) (shI b i)) = O.filter fun j => l[j]?.any (meets i) := by
    rw [e1]
    unfold whoL
    conv => rhs; rw [e2]
    rw [List.filter_map]
    rfl
  rw [e3]
  unfold trueL
  exact h.filter _
set_option maxRecDepth 20000 in
theorem sorted_uniq {xs ys : List Int} (h : xs.Perm ys) (hx : xs.Pairwise (· ≤ ·)) (hy : ys.Pairwise (· ≤ ·)) : xs = ys := by
  induction xs generalizing ys with
  | nil => exact h.nil_eq
  | cons x xs ih =>
    cases ys with
    | nil => exact absurd h.length_eq (by simp)
    | cons y ys =>
      rw [List.pairwise_cons] at hx hy
      have e : x = y := by
        have h1 : y ∈ x :: xs := h.mem_iff.2 List.mem_cons_self
        have h2 : x ∈ y :: ys := h.mem_iff.1 List.mem_cons_self
        rcases List.mem_cons.1 h1 with a | a
        · exact a.symm
        · rcases List.mem_cons.1 h2 with c | c
          · exact c
          · have := hx.1 y a
            have := hy.1 x c
            omega
      subst e
      rw [ih ((List.perm_cons x).1 h) hx.2 hy.2]
set_option maxRecDepth 20000 in
theorem sort_who {l : List Iv} {O : List Nat} (b : Int) (h : O.Perm (List.range l.length)) (i : Iv) : sortL (natI (whoL O (trueL (movedL l b O) (shI b i)))) = natI (trueL l i) := by
  have t : ∀ a b c : Int, decide (a ≤ b) = true → decide (b ≤ c) = true → decide (a ≤ c) = true := fun a b c h k => by simp at h k ⊢; omega
  have o : ∀ a b : Int, (decide (a ≤ b) || decide (b ≤ a)) = true := fun a b => by simp; omega
  refine sorted_uniq ?_ ?_ ?_
  · refine (List.mergeSort_perm _ _).trans ?_
    unfold natI
    exact (who_perm b h i).map _
  · exact (List.pairwise_mergeSort t o _).imp fun k => by simpa using k
  · unfold natI trueL
    rw [List.pairwise_map]
    refine List.Pairwise.filter _ ?_
    exact List.pairwise_lt_range.imp fun h => by omega
end Go.Proofs.Ytdgmcgfkammioaa
