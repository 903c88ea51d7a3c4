/- allan's grid in memory: slots in a ring, totals of ten octaves. -/
import Derived.Test.YtfojgjannhhbaaaBlk
import Derived.Deep.MidRow
namespace Go.Proofs.Ytfojgjannhhbaaa
open Go.RowKit

/-! ### rows of chunks -/
set_option maxRecDepth 20000 in
theorem chunk_len {α : Type} (n c : Nat) (f : Nat → List α) (hf : ∀ i, (f i).length = c) : ((List.range n).flatMap f).length = n * c := by
  rw [List.length_flatMap]
  simp only [hf]
  rw [List.map_const', List.sum_replicate_nat]; simp
set_option maxRecDepth 20000 in
theorem chunk_get {α : Type} (n c : Nat) (f : Nat → List α) (hf : ∀ i, (f i).length = c) (i j : Nat) (hi : i < n) (hj : j < c) : ((List.range n).flatMap f)[i * c + j]? = (f i)[j]? := by
  induction n with
  | zero => omega
  | succ n ih =>
    rw [List.range_succ, List.flatMap_append]
    have hl := chunk_len n c f hf
    by_cases e : i < n
    · have : i * c + j < n * c := by
        have : (i + 1) * c ≤ n * c := Nat.mul_le_mul_right c e
        rw [Nat.add_mul] at this; omega
      rw [List.getElem?_append_left (by omega), ih e]
    · obtain rfl : i = n := by omega
      rw [List.getElem?_append_right (by omega), hl, show i * c + j - i * c = j by omega]
      simp
def updF {α : Type} (f : Nat → α) (i : Nat) (x : α) : Nat → α := fun j => if j = i then x else f j
set_option maxRecDepth 20000 in
theorem updF_same {α : Type} (f : Nat → α) (i : Nat) (x : α) : updF f i x i = x := if_pos rfl
set_option maxRecDepth 20000 in
theorem updF_ne {α : Type} (f : Nat → α) {i j : Nat} (x : α) (h : j ≠ i) : updF f i x j = f j := if_neg h
set_option maxRecDepth 20000 in
/-- two rows of chunks are one if all their cells are -/
theorem chunk_ext {α : Type} (n c : Nat) (f : Nat → List α) (hf : ∀ i, (f i).length = c) (l : List α) (hl : l.length = n * c) (hc : 0 < c) (h : ∀ i j, i < n → j < c → l[i * c + j]? = (f i)[j]?) : l = (List.range n).flatMap f := by
  refine List.ext_getElem? fun k => ?_
  by_cases hk : k < n * c
  · have h1 : k / c < n := Nat.div_lt_of_lt_mul (by rw [Nat.mul_comm]; exact hk)
    have h2 : k % c < c := Nat.mod_lt _ hc
    have e : k = k / c * c + k % c := by rw [Nat.mul_comm]; exact (Nat.div_add_mod k c).symm
    rw [e, h _ _ h1 h2, chunk_get n c f hf _ _ h1 h2]
  · rw [List.getElem?_eq_none (by omega), List.getElem?_eq_none (by rw [chunk_len n c f hf]; omega)]

/-! ### slots -/
structure Slot where
  some : Bool
  num : Int
  off : Int
  del : Int
abbrev slotL (s : Slot) : List Value := [.bool s.some, .int .i64 s.num, .int .i64 s.off, .int .i64 s.del]
abbrev slotC (s : Slot) : Array Value := #[.bool s.some, .int .i64 s.num, .int .i64 s.off, .int .i64 s.del]
def slot0 : Slot := ⟨false, 0, 0, 0⟩
def ringC (R : Nat) (f : Nat → Slot) : Array Value := ((List.range R).flatMap fun i => slotL (f i)).toArray
set_option maxRecDepth 20000 in
theorem ringC_size (R : Nat) (f : Nat → Slot) : (ringC R f).size = R * 4 := by
  unfold ringC; rw [List.size_toArray, chunk_len _ 4 _ (fun _ => rfl)]
set_option maxRecDepth 20000 in
theorem ringC_get (R : Nat) (f : Nat → Slot) (i j : Nat) (hi : i < R) (hj : j < 4) : (ringC R f)[i * 4 + j]? = (slotL (f i))[j]? := by
  unfold ringC; rw [List.getElem?_toArray, chunk_get _ 4 _ (fun _ => rfl) i j hi hj]
set_option maxRecDepth 20000 in
theorem ringC_set (R : Nat) (f : Nat → Slot) (i : Nat) (hi : i < R) (s : Slot) :
    ((((ringC R f).setIfInBounds (i * 4) (.bool s.some)).setIfInBounds (i * 4 + 1) (.int .i64 s.num)).setIfInBounds (i * 4 + 2) (.int .i64 s.off)).setIfInBounds (i * 4 + 3) (.int .i64 s.del) = ringC R (updF f i s) := by
  have hs := ringC_size R f
  refine Array.ext' ?_
  unfold ringC at hs ⊢
  refine chunk_ext R 4 _ (fun _ => rfl) _ (by simp only [Array.toList_setIfInBounds, List.length_set]; simpa using hs) (by omega) fun t j ht hj => ?_
  have hlen : ((List.range R).flatMap fun i => slotL (f i)).length = R * 4 := chunk_len _ 4 _ (fun _ => rfl)
  simp only [Array.toList_setIfInBounds, List.getElem?_set, List.length_set, hlen]
  by_cases e : t = i
  · subst e
    rw [updF_same]
    rcases (show j = 0 ∨ j = 1 ∨ j = 2 ∨ j = 3 by omega) with rfl | rfl | rfl | rfl
    · rw [if_neg (by omega), if_neg (by omega), if_neg (by omega), if_pos (by omega), if_pos (by omega)]; rfl
    · rw [if_neg (by omega), if_neg (by omega), if_pos (by omega), if_pos (by omega)]; rfl
    · rw [if_neg (by omega), if_pos (by omega), if_pos (by omega)]; rfl
    · rw [if_pos (by omega), if_pos (by omega)]; rfl
  · rw [updF_ne _ _ e, if_neg (by omega), if_neg (by omega), if_neg (by omega), if_neg (by omega), chunk_get _ 4 _ (fun _ => rfl) t j ht hj]

/-! ### totals -/
abbrev Tot := Nat → Int × Int
abbrev totP (x : Int × Int) : List Value := [.int .i64 x.1, .int .i64 (hiW x.2), .int .u64 (loW x.2)]
def totL (t : Tot) : List Value := (List.range 10).flatMap fun k => totP (t k)
def totC (t : Tot) : Array Value := (totL t).toArray
def tot0 : Tot := fun _ => (0, 0)
set_option maxRecDepth 20000 in
theorem totL_len (t : Tot) : (totL t).length = 30 := chunk_len 10 3 _ (fun _ => rfl)
set_option maxRecDepth 20000 in
theorem totC_size (t : Tot) : (totC t).size = 30 := by unfold totC; rw [List.size_toArray, totL_len]
set_option maxRecDepth 20000 in
theorem totC_get (t : Tot) (k j : Nat) (hk : k < 10) (hj : j < 3) : (totC t)[k * 3 + j]? = (totP (t k))[j]? := by
  unfold totC totL; rw [List.getElem?_toArray, chunk_get _ 3 _ (fun _ => rfl) k j hk hj]
set_option maxRecDepth 20000 in
theorem totC_g0 (t : Tot) (k : Nat) (hk : k < 10) : (totC t)[k * 3]? = some (.int .i64 (t k).1) := totC_get t k 0 hk (by omega)
set_option maxRecDepth 20000 in
theorem totC_g1 (t : Tot) (k : Nat) (hk : k < 10) : (totC t)[k * 3 + 1]? = some (.int .i64 (hiW (t k).2)) := totC_get t k 1 hk (by omega)
set_option maxRecDepth 20000 in
theorem totC_g2 (t : Tot) (k : Nat) (hk : k < 10) : (totC t)[k * 3 + 2]? = some (.int .u64 (loW (t k).2)) := totC_get t k 2 hk (by omega)
set_option maxRecDepth 20000 in
theorem totC_set (t : Tot) (k : Nat) (hk : k < 10) (c s : Int) :
    (((totC t).setIfInBounds (k * 3) (.int .i64 c)).setIfInBounds (k * 3 + 1) (.int .i64 (hiW s))).setIfInBounds (k * 3 + 2) (.int .u64 (loW s)) = totC (updF t k (c, s)) := by
  refine Array.ext' ?_
  unfold totC
  refine chunk_ext 10 3 (fun k' => totP (updF t k (c, s) k')) (fun _ => rfl) _ (by simp only [Array.toList_setIfInBounds, List.length_set, totL_len]) (by omega) fun i j hi hj => ?_
  have hlen := totL_len t
  simp only [Array.toList_setIfInBounds, List.getElem?_set, List.length_set, hlen]
  by_cases e : i = k
  · subst e
    rw [updF_same]
    rcases (show j = 0 ∨ j = 1 ∨ j = 2 by omega) with rfl | rfl | rfl
    · rw [if_neg (by omega), if_neg (by omega), if_pos (by omega), if_pos (by omega)]; rfl
    · rw [if_neg (by omega), if_pos (by omega), if_pos (by omega)]; rfl
    · rw [if_pos (by omega), if_pos (by omega)]; rfl
  · rw [updF_ne _ _ e, if_neg (by omega), if_neg (by omega), if_neg (by omega)]
    exact chunk_get 10 3 (fun k => totP (t k)) (fun _ => rfl) i j hi hj
set_option maxRecDepth 20000 in
theorem totC_one (t : Tot) : (totC t).all (·.oneCell') = true := by
  rw [Array.all_eq_true_iff_forall_mem]
  intro v hv
  simp only [totC, totL, List.mem_toArray, List.mem_flatMap, totP, List.mem_cons, List.not_mem_nil, or_false] at hv
  obtain ⟨k, _, rfl | rfl | rfl⟩ := hv <;> rfl
set_option maxRecDepth 20000 in
theorem foldTot : #[Value.int .i64 0, .int .i64 0, .int .u64 0, .int .i64 0, .int .i64 0, .int .u64 0, .int .i64 0, .int .i64 0, .int .u64 0, .int .i64 0, .int .i64 0, .int .u64 0, .int .i64 0, .int .i64 0, .int .u64 0,
    .int .i64 0, .int .i64 0, .int .u64 0, .int .i64 0, .int .i64 0, .int .u64 0, .int .i64 0, .int .i64 0, .int .u64 0, .int .i64 0, .int .i64 0, .int .u64 0, .int .i64 0, .int .i64 0, .int .u64 0] = totC tot0 := by rfl

/-! ### the grid -/
def gridC (w o : Int) (r R C : Nat) (nw : Slot) (t : Tot) : Array Value :=
  #[.int .i64 w, .int .i64 o, .slice (some ⟨r, 0, none⟩) R C, .bool nw.some, .int .i64 nw.num, .int .i64 nw.off, .int .i64 nw.del] ++ totC t
set_option maxRecDepth 20000 in
theorem gridC_size (w o : Int) (r R C : Nat) (nw : Slot) (t : Tot) : (gridC w o r R C nw t).size = 37 := by unfold gridC; rw [Array.size_append, totC_size]; rfl
set_option maxRecDepth 20000 in
theorem gridC_lo (w o : Int) (r R C : Nat) (nw : Slot) (t : Tot) (i : Nat) (hi : i < 7) : (gridC w o r R C nw t)[i]? = #[.int .i64 w, .int .i64 o, .slice (some ⟨r, 0, none⟩) R C, .bool nw.some, .int .i64 nw.num, .int .i64 nw.off, .int .i64 nw.del][i]? := by
  unfold gridC; rw [Array.getElem?_append_left (by simpa using hi)]
set_option maxRecDepth 20000 in
theorem gridC_hi (w o : Int) (r R C : Nat) (nw : Slot) (t : Tot) (i : Nat) : (gridC w o r R C nw t)[7 + i]? = (totC t)[i]? := by
  unfold gridC; rw [Array.getElem?_append_right (by simp)]; congr 1; simp
set_option maxRecDepth 20000 in
theorem gridC_nw (w o : Int) (r R C : Nat) (nw s : Slot) (t : Tot) :
    ((((gridC w o r R C nw t).setIfInBounds 3 (.bool s.some)).setIfInBounds 4 (.int .i64 s.num)).setIfInBounds 5 (.int .i64 s.off)).setIfInBounds 6 (.int .i64 s.del) = gridC w o r R C s t := by
  refine Array.ext_getElem? fun i => ?_
  by_cases c : i < 7
  · rw [gridC_lo _ _ _ _ _ s _ i c]
    have hs := gridC_size w o r R C nw t
    simp only [Array.getElem?_setIfInBounds, Array.size_setIfInBounds, hs]
    rcases (show i = 0 ∨ i = 1 ∨ i = 2 ∨ i = 3 ∨ i = 4 ∨ i = 5 ∨ i = 6 by omega) with rfl | rfl | rfl | rfl | rfl | rfl | rfl <;> simp [gridC_lo]
  · obtain ⟨j, rfl⟩ : ∃ j, i = 7 + j := ⟨i - 7, by omega⟩
    rw [gridC_hi, Array.getElem?_setIfInBounds_ne (by omega), Array.getElem?_setIfInBounds_ne (by omega), Array.getElem?_setIfInBounds_ne (by omega), Array.getElem?_setIfInBounds_ne (by omega), gridC_hi]
end Go.Proofs.Ytfojgjannhhbaaa
