/- Sums of numbers hang not on order, nor on how they are parted; plain. -/
import Derived.Test.YtmaddbonkpfdgaaAccP
namespace Go.Proofs.Ytmaddbonkpfdgaa
open Go.RowKit

theorem minI_comm (a b : Int) : minI a b = minI b a := by unfold minI; split <;> split <;> omega
theorem maxI_comm (a b : Int) : maxI a b = maxI b a := by unfold maxI; split <;> split <;> omega
theorem minI_assoc (a b c : Int) : minI (minI a b) c = minI a (minI b c) := by
  have h1 : minI a b ≤ a ∧ minI a b ≤ b ∧ (minI a b = a ∨ minI a b = b) := by unfold minI; split <;> omega
  have h2 : minI b c ≤ b ∧ minI b c ≤ c ∧ (minI b c = b ∨ minI b c = c) := by unfold minI; split <;> omega
  generalize minI a b = x at *
  generalize minI b c = y at *
  unfold minI; split <;> split <;> omega
theorem maxI_assoc (a b c : Int) : maxI (maxI a b) c = maxI a (maxI b c) := by
  have h1 : a ≤ maxI a b ∧ b ≤ maxI a b ∧ (maxI a b = a ∨ maxI a b = b) := by unfold maxI; split <;> omega
  have h2 : b ≤ maxI b c ∧ c ≤ maxI b c ∧ (maxI b c = b ∨ maxI b c = c) := by unfold maxI; split <;> omega
  generalize maxI a b = x at *
  generalize maxI b c = y at *
  unfold maxI; split <;> split <;> omega
theorem joinS_st0 {S : St} {m : Int} (h : Good S m) : joinS S st0 = S := by
  unfold joinS
  by_cases c : S.c = 0
  · obtain ⟨z1, z2, z3, z4⟩ := h.z c
    obtain ⟨c', w, lo, hi, s, q⟩ := S
    simp only at c z1 z2 z3 z4
    subst c z1 z2 z3 z4
    rw [if_pos rfl]
    show St.mk 0 (0 + w) 0 0 0 0 = _
    rw [Int.zero_add]
  · rw [if_neg c, if_pos (show st0.c = 0 from rfl)]
    obtain ⟨c', w, lo, hi, s, q⟩ := S
    show St.mk c' (w + 0) lo hi s q = _
    rw [Int.add_zero]
theorem joinS_comm {S T : St} {m k : Int} (h : Good S m) (h' : Good T k) : joinS S T = joinS T S := by
  have hz := h.z
  have hz' := h'.z
  obtain ⟨c, w, lo, hi, s, q⟩ := S
  obtain ⟨c', w', lo', hi', s', q'⟩ := T
  simp only at hz hz'
  unfold joinS
  simp only
  by_cases a : c = 0 <;> by_cases b : c' = 0
  · obtain ⟨z1, z2, z3, z4⟩ := hz a
    obtain ⟨y1, y2, y3, y4⟩ := hz' b
    subst a b z1 z2 z3 z4 y1 y2 y3 y4
    simp only [if_true]
    rw [Int.add_comm]
  · rw [if_pos a, if_neg b, if_pos a]
  · rw [if_neg a, if_pos b, if_pos b]
  · rw [if_neg a, if_neg b, if_neg b, if_neg a, minI_comm, maxI_comm, Int.add_comm c, Int.add_comm w, Int.add_comm s, Int.add_comm q]
theorem joinS_addN {S T : St} {m k : Int} (h : Good S m) (h' : Good T k) (n : Int) : joinS S (addN T n) = addN (joinS S T) n := by
  have hc := h.c0
  have hc' := h'.c0
  have hz' := h'.z
  unfold addN
  by_cases t : Tame n
  · rw [if_pos t, if_pos t]
    obtain ⟨c, w, lo, hi, s, q⟩ := S
    obtain ⟨c', w', lo', hi', s', q'⟩ := T
    simp only at hc hc' hz'
    unfold joinS single
    simp only
    by_cases a : c = 0 <;> by_cases b : c' = 0
    · subst a b
      simp
      try omega
    · subst a
      rw [if_neg b]
      simp only [if_true]
      rw [if_neg (show ¬ (1 : Int) = 0 by decide), if_neg b]
      simp
      try omega
    · subst b
      simp only [if_true]
      rw [if_neg a, if_neg (show ¬ (1 : Int) = 0 by decide), if_neg a]
      simp
      omega
    · rw [if_neg b, if_neg (show ¬ (1 : Int) = 0 by decide), if_neg a, if_neg b]
      simp only
      rw [if_neg a, if_neg (show ¬ c' + 1 = 0 by omega), if_neg (show ¬ c + c' = 0 by omega)]
      simp only [minI_assoc, maxI_assoc]
      simp
      omega
  · rw [if_neg t, if_neg t]
    obtain ⟨c, w, lo, hi, s, q⟩ := S
    obtain ⟨c', w', lo', hi', s', q'⟩ := T
    unfold joinS
    simp only
    by_cases a : c = 0 <;> by_cases b : c' = 0
    · rw [if_pos a, if_pos a]; simp; omega
    · rw [if_pos a, if_pos a]; simp; omega
    · rw [if_neg a, if_pos b, if_neg a, if_pos b]; simp; omega
    · rw [if_neg a, if_neg b, if_neg a, if_neg b]; simp; omega
theorem join_fold (l : List Int) : ∀ {S T : St} {m k : Int}, Good S m → Good T k → joinS S (l.foldl addN T) = l.foldl addN (joinS S T) := by
  induction l with
  | nil => intros; rfl
  | cons x xs ih =>
    intro S T m k h h'
    rw [List.foldl_cons, List.foldl_cons, ih h (h'.add x), joinS_addN h h']
theorem sumL_append (l r : List Int) : joinS (sumL l) (sumL r) = sumL (l ++ r) := by
  have h := join_fold r (good_sum l) good0
  rw [joinS_st0 (good_sum l)] at h
  exact h.trans (by unfold sumL; rw [List.foldl_append])
theorem sumL_parts (l : List Int) (k : Nat) : joinS (sumL (l.take k)) (sumL (l.drop k)) = sumL l ∧ joinS (sumL (l.drop k)) (sumL (l.take k)) = sumL l := by
  have h : joinS (sumL (l.take k)) (sumL (l.drop k)) = sumL l := by rw [sumL_append, List.take_append_drop]
  exact ⟨h, by rw [joinS_comm (good_sum _) (good_sum _), h]⟩
theorem sumL_perm {l r : List Int} (h : l.Perm r) : sumL l = sumL r := by
  induction h with
  | nil => rfl
  | cons x _ ih =>
    have e (l : List Int) : sumL (x :: l) = joinS (sumL [x]) (sumL l) := by rw [sumL_append]; rfl
    rw [e, ih, ← e]
  | swap x y l =>
    have e (a b : Int) : sumL (a :: b :: l) = joinS (joinS (sumL [a]) (sumL [b])) (sumL l) := by rw [sumL_append, sumL_append]; rfl
    rw [e, e, joinS_comm (good_sum [x]) (good_sum [y])]
  | trans _ _ ih ih' => rw [ih, ih']
/-- a rotation, so far -/
def turnL (l : List Int) (t k : Nat) : List Int := (List.range k).map fun i => l.getD ((i + t) % l.length) 0
theorem turnL_snoc (l : List Int) (t k : Nat) : turnL l t (k + 1) = turnL l t k ++ [l.getD ((k + t) % l.length) 0] := by
  unfold turnL; rw [List.range_succ, List.map_append]; rfl
theorem turnL_len (l : List Int) (t k : Nat) : (turnL l t k).length = k := by unfold turnL; simp
theorem turnL_eq (l : List Int) (t : Nat) (ht : t ≤ l.length) : turnL l t l.length = l.drop t ++ l.take t := by
  refine List.ext_getElem (by rw [turnL_len]; simp; omega) fun i h1 h2 => ?_
  rw [turnL_len] at h1
  have g : (turnL l t l.length)[i] = l.getD ((i + t) % l.length) 0 := by
    simp only [turnL, List.getElem_map, List.getElem_range]
  rw [g]
  by_cases c : i + t < l.length
  · rw [List.getElem_append_left (by simp; omega), List.getElem_drop, Nat.mod_eq_of_lt c]
    simp only [List.getD, List.getElem?_eq_getElem c, Option.getD_some]
    congr 1; omega
  · have e : (i + t) % l.length = i + t - l.length := by
      rw [Nat.mod_eq_sub_mod (by omega), Nat.mod_eq_of_lt (by omega)]
    rw [List.getElem_append_right (by simp; omega), List.getElem_take, e]
    have d : i + t - l.length < l.length := by omega
    simp only [List.getD, List.getElem?_eq_getElem d, Option.getD_some, List.length_drop]
    congr 1; omega
theorem turnL_mod (l : List Int) (t k : Nat) : turnL l t k = turnL l (t % l.length) k := by
  unfold turnL
  congr 1
  funext i
  rw [Nat.add_mod_mod]
theorem turnL_perm (l : List Int) (t : Nat) : (turnL l t l.length).Perm l := by
  by_cases z : l.length = 0
  · have : l = [] := List.eq_nil_of_length_eq_zero z
    subst this
    exact List.Perm.refl _
  · rw [turnL_mod, turnL_eq l _ (Nat.le_of_lt (Nat.mod_lt _ (by omega)))]
    exact List.perm_append_comm.trans (by rw [List.take_append_drop])
theorem swap_perm (l : List Int) (i j : Nat) (hi : i < l.length) (hj : j < l.length) : ((l.set i (l.getD j 0)).set j (l.getD i 0)).Perm l := by
  simp only [List.getD, List.getElem?_eq_getElem hi, List.getElem?_eq_getElem hj, Option.getD_some]
  rw [List.perm_iff_count]
  intro a
  by_cases e : i = j
  · subst e
    simp
  · rw [List.count_set (by simpa using hj), List.count_set hi, List.getElem_set_ne e]
    have p1 : 0 < l.count l[i] := List.count_pos_iff.2 (List.getElem_mem hi)
    have p2 : 0 < l.count l[j] := List.count_pos_iff.2 (List.getElem_mem hj)
    by_cases x : l[i] == a <;> by_cases y : l[j] == a <;> simp only [x, y, if_true, Bool.false_eq_true, if_false] <;> (try simp only [beq_iff_eq] at x y) <;> (try subst x) <;> (try omega)
end Go.Proofs.Ytmaddbonkpfdgaa
