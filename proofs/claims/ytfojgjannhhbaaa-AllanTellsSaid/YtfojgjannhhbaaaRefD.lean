/- Sums of pieces with a carry: plain laws. -/
import Derived.Test.YtfojgjannhhbaaaRefB
namespace Go.Proofs.Ytfojgjannhhbaaa
open Go.RowKit

/-- what the first k of any pieces say -/
def pre (s : Nat → Int) : Nat → Int
  | 0 => 0
  | k + 1 => pre s k + s k * 65536 ^ k
set_option maxRecDepth 20000 in
theorem pre_nonneg {s : Nat → Int} (h : ∀ i, 0 ≤ s i) (k : Nat) : 0 ≤ pre s k := by
  induction k with
  | zero => exact Int.le_refl _
  | succ k ih => have := Int.mul_nonneg (h k) (Int.le_of_lt (pow_pos' k)); unfold pre; omega
set_option maxRecDepth 20000 in
theorem pre_add (a b : Nat → Int) (k : Nat) : pre (fun i => a i + b i) k = pre a k + pre b k := by
  induction k with
  | zero => rfl
  | succ k ih => simp only [pre, ih, Int.add_mul]; omega
set_option maxRecDepth 20000 in
theorem pre_congr {a b : Nat → Int} (k : Nat) (h : ∀ i, i < k → a i = b i) : pre a k = pre b k := by
  induction k with
  | zero => rfl
  | succ k ih => simp only [pre]; rw [ih fun i hi => h i (by omega), h k (by omega)]
set_option maxRecDepth 20000 in
theorem pre_mul (c : Int) (a : Nat → Int) (k : Nat) : pre (fun i => c * a i) k = c * pre a k := by
  induction k with
  | zero => simp [pre]
  | succ k ih => simp only [pre, ih, Int.mul_add, Int.mul_assoc]
set_option maxRecDepth 20000 in
theorem pre_lim (n : Int) (k : Nat) : pre (lim n) k = n % 65536 ^ k := by
  induction k with
  | zero => simp [pre]
  | succ k ih =>
    simp only [pre, ih]
    rw [Int.emod_def, Int.emod_def, div_step n k, Int.pow_succ, Int.mul_add]
    have e1 : lim n k * 65536 ^ k = 65536 ^ k * lim n k := Int.mul_comm _ _
    have e2 : (65536 : Int) ^ k * (65536 * (n / (65536 ^ k * 65536))) = 65536 ^ k * 65536 * (n / (65536 ^ k * 65536)) := by rw [Int.mul_assoc]
    rw [e2, e1]
    generalize (65536 : Int) ^ k * 65536 * (n / (65536 ^ k * 65536)) = X
    generalize (65536 : Int) ^ k * lim n k = Y
    omega
set_option maxRecDepth 20000 in
theorem pre_lim_end {n : Int} (h0 : 0 ≤ n) {k : Nat} (h : n < 65536 ^ k) : pre (lim n) k = n := by rw [pre_lim, Int.emod_eq_of_lt h0 h]
set_option maxRecDepth 20000 in
theorem pre_div (s : Nat → Int) (k : Nat) : pre s (k + 1) / 65536 ^ k = s k + pre s k / 65536 ^ k := by
  show (pre s k + s k * 65536 ^ k) / 65536 ^ k = _
  rw [Int.add_mul_ediv_right _ _ (by have := pow_pos' k; omega)]; omega
set_option maxRecDepth 20000 in
theorem pre_here (s : Nat → Int) (k : Nat) : lim (pre s (k + 1)) k = (s k + pre s k / 65536 ^ k) % 65536 := by
  unfold lim; rw [pre_div]
set_option maxRecDepth 20000 in
theorem pre_up (s : Nat → Int) (k : Nat) : pre s (k + 1) / 65536 ^ (k + 1) = (s k + pre s k / 65536 ^ k) / 65536 := by
  rw [← div_pow_succ, pre_div]
set_option maxRecDepth 20000 in
theorem pre_low (s : Nat → Int) {t k : Nat} (h : t < k) : lim (pre s (k + 1)) t = lim (pre s k) t := by
  obtain ⟨j, rfl⟩ : ∃ j, k = t + 1 + j := ⟨k - (t + 1), by omega⟩
  show lim (pre s (t + 1 + j) + s (t + 1 + j) * 65536 ^ (t + 1 + j)) t = _
  unfold lim
  have e : s (t + 1 + j) * 65536 ^ (t + 1 + j) = (s (t + 1 + j) * 65536 ^ j * 65536) * 65536 ^ t := by
    rw [show t + 1 + j = j + 1 + t by omega, Int.pow_add, Int.pow_succ]; simp only [Int.mul_assoc]
  rw [e, Int.add_mul_ediv_right _ _ (by have := pow_pos' t; omega)]
  omega
/-- the pieces when the first k are carried: u are those that lie there still -/
def car (s u : Nat → Int) (k : Nat) : Nat → Int := fun t => if t < k then lim (pre s k) t else u t + if t = k then pre s k / 65536 ^ k else 0
set_option maxRecDepth 20000 in
theorem car_0 (s u : Nat → Int) : car s u 0 = u := by
  funext t; unfold car; rw [if_neg (by omega)]; split <;> simp [pre]
set_option maxRecDepth 20000 in
theorem car_here (s u : Nat → Int) (k : Nat) : car s u k k = u k + pre s k / 65536 ^ k := by
  unfold car; rw [if_neg (by omega), if_pos rfl]
set_option maxRecDepth 20000 in
theorem car_next (s u : Nat → Int) (k : Nat) : car s u k (k + 1) = u (k + 1) := by
  unfold car; rw [if_neg (by omega), if_neg (by omega)]; omega
set_option maxRecDepth 20000 in
theorem car_succ (s u : Nat → Int) (k : Nat) (x : Int) (hx : x = s k + pre s k / 65536 ^ k) :
    upd (upd (car s u k) (k + 1) (u (k + 1) + x / 65536)) k (x % 65536) = car s u (k + 1) := by
  funext t
  unfold upd car
  by_cases c : t = k
  · subst c; rw [if_pos rfl, if_pos (by omega), pre_here, hx]
  · rw [if_neg c]
    by_cases d : t = k + 1
    · subst d; rw [if_pos rfl, if_neg (by omega), if_pos rfl, pre_up, hx]
    · rw [if_neg d]
      by_cases f : t < k
      · rw [if_pos f, if_pos (by omega), pre_low s f]
      · rw [if_neg f, if_neg (by omega), if_neg (by omega), if_neg (by omega)]
set_option maxRecDepth 20000 in
theorem upd_upd (l : Nat → Int) (i j : Nat) (x y z : Int) (_ : i ≠ j) : upd (upd (upd l i x) j y) i z = upd (upd l j y) i z := by
  funext t
  unfold upd
  by_cases c : t = i
  · rw [if_pos c, if_pos c]
  · rw [if_neg c, if_neg c]
    by_cases d : t = j
    · rw [if_pos d, if_neg c]
    · rw [if_neg d, if_neg c]
set_option maxRecDepth 20000 in
theorem car_end (s u : Nat → Int) (hu : u 19 = s 19) (h0 : ∀ i, 0 ≤ s i) (h : pre s 20 < 65536 ^ 20) (b : Bool) : numC b (car s u 19) = numC b (lim (pre s 20)) :=
  numC_congr fun i hi => by
    by_cases c : i < 19
    · unfold car; rw [if_pos c, pre_low s c]
    · obtain rfl : i = 19 := by omega
      rw [car_here, hu, ← pre_div, lim, Int.emod_eq_of_lt]
      · exact Int.ediv_nonneg (pre_nonneg h0 20) (by decide)
      · exact Int.ediv_lt_of_lt_mul (by decide) (by simpa using h)
/-- the borrow at place k, and the pieces when the first k are those of the difference -/
def brw (m n : Int) (k : Nat) : Int := m / 65536 ^ k - n / 65536 ^ k - (m - n) / 65536 ^ k
set_option maxRecDepth 20000 in
theorem brw_0 (m n : Int) : brw m n 0 = 0 := by simp [brw]
set_option maxRecDepth 20000 in
theorem brw_bd (m n : Int) (k : Nat) : 0 ≤ brw m n k ∧ brw m n k ≤ 1 := by
  unfold brw
  have p := pow_pos' k
  generalize (65536 : Int) ^ k = P at *
  have a1 := Int.mul_ediv_add_emod m P
  have a2 := Int.mul_ediv_add_emod n P
  have a3 := Int.mul_ediv_add_emod (m - n) P
  have h1 := Int.emod_nonneg m (show P ≠ 0 by omega)
  have h2 := Int.emod_lt_of_pos m p
  have h3 := Int.emod_nonneg n (show P ≠ 0 by omega)
  have h4 := Int.emod_lt_of_pos n p
  have h5 := Int.emod_nonneg (m - n) (show P ≠ 0 by omega)
  have h6 := Int.emod_lt_of_pos (m - n) p
  have e : P * (m / P - n / P - (m - n) / P) = P * (m / P) - P * (n / P) - P * ((m - n) / P) := by rw [Int.mul_sub, Int.mul_sub]
  generalize m / P - n / P - (m - n) / P = z at *
  constructor
  · rcases Int.lt_or_le z 0 with c | c
    · have := Int.mul_le_mul_of_nonneg_left (show z ≤ -1 by omega) (show 0 ≤ P by omega); omega
    · exact c
  · rcases Int.lt_or_le 1 z with c | c
    · have := Int.mul_le_mul_of_nonneg_left (show 2 ≤ z by omega) (show 0 ≤ P by omega); omega
    · exact c
set_option maxRecDepth 20000 in
theorem brw_succ (m n : Int) (k : Nat) : lim m k - lim n k - brw m n k = lim (m - n) k - 65536 * brw m n (k + 1) := by
  have h1 := div_step m k
  have h2 := div_step n k
  have h3 := div_step (m - n) k
  unfold brw; omega
def dif (d : Int) (l : Nat → Int) (k : Nat) : Nat → Int := fun t => if t < k then lim d t else l t
set_option maxRecDepth 20000 in
theorem dif_0 (d : Int) (l : Nat → Int) : dif d l 0 = l := by funext t; simp [dif]
set_option maxRecDepth 20000 in
theorem dif_here (d : Int) (l : Nat → Int) (k : Nat) : dif d l k k = l k := by simp [dif]
set_option maxRecDepth 20000 in
theorem dif_succ (d : Int) (l : Nat → Int) (k : Nat) : upd (dif d l k) k (lim d k) = dif d l (k + 1) := by
  funext t
  unfold upd dif
  by_cases c : t = k
  · subst c; rw [if_pos rfl, if_pos (by omega)]
  · by_cases e : t < k
    · rw [if_neg c, if_pos e, if_pos (by omega)]
    · rw [if_neg c, if_neg e, if_neg (by omega)]
set_option maxRecDepth 20000 in
theorem dif_end (d : Int) (l : Nat → Int) (b : Bool) : numC b (dif d l 20) = numC b (lim d) := numC_congr fun i hi => by simp [dif, hi]
end Go.Proofs.Ytfojgjannhhbaaa
