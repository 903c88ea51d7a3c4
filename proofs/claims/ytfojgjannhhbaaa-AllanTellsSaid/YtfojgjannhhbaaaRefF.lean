/- horologeref01: Mul: what it returns, in integers. -/
import Derived.Test.YtfojgjannhhbaaaRefE
namespace Go.Proofs.Ytfojgjannhhbaaa
open Go.RowKit

/-- pieces put i places up, a times as great -/
def shl (a : Int) (i : Nat) (l : Nat → Int) : Nat → Int := fun t => if i ≤ t then a * l (t - i) else 0
set_option maxRecDepth 20000 in
theorem pre_shl0 (a : Int) (i : Nat) (l : Nat → Int) (k : Nat) (h : k ≤ i) : pre (shl a i l) k = 0 := by
  induction k with
  | zero => rfl
  | succ k ih => simp only [pre, ih (by omega), shl]; rw [if_neg (by omega)]; omega
set_option maxRecDepth 20000 in
theorem pre_shl (a : Int) (i : Nat) (l : Nat → Int) (j : Nat) : pre (shl a i l) (i + j) = a * 65536 ^ i * pre l j := by
  induction j with
  | zero => simp only [Nat.add_zero, pre_shl0 a i l i (Nat.le_refl _), pre]; omega
  | succ j ih =>
    show pre (shl a i l) (i + j) + shl a i l (i + j) * 65536 ^ (i + j) = _
    rw [ih, shl, if_pos (by omega), show i + j - i = j by omega, Int.pow_add]
    simp only [pre, Int.mul_add]
    have : a * l j * (65536 ^ i * 65536 ^ j) = a * 65536 ^ i * (l j * 65536 ^ j) := by
      simp only [Int.mul_assoc, Int.mul_left_comm]
    omega
/-- the pieces of a row of products when j of them are put in -/
def row (T : Int) (a : Int) (i : Nat) (l : Nat → Int) (j : Nat) : Nat → Int := fun t => lim T t + if i ≤ t ∧ t < i + j then a * l (t - i) else 0
set_option maxRecDepth 20000 in
theorem row_0 (T a : Int) (i : Nat) (l : Nat → Int) : row T a i l 0 = lim T := by funext t; unfold row; rw [if_neg (by omega)]; omega
set_option maxRecDepth 20000 in
theorem row_here (T a : Int) (i : Nat) (l : Nat → Int) (j : Nat) : row T a i l j (i + j) = lim T (i + j) := by unfold row; rw [if_neg (by omega)]; omega
set_option maxRecDepth 20000 in
theorem row_succ (T a : Int) (i : Nat) (l : Nat → Int) (j : Nat) : upd (row T a i l j) (i + j) (lim T (i + j) + a * l j) = row T a i l (j + 1) := by
  funext t
  unfold upd row
  by_cases c : t = i + j
  · subst c; rw [if_pos rfl, if_pos (by omega), show i + j - i = j by omega]
  · rw [if_neg c]
    by_cases d : i ≤ t ∧ t < i + j
    · rw [if_pos d, if_pos (by omega)]
    · rw [if_neg d, if_neg (by omega)]
/-- the row when all are in -/
def full (T a : Int) (i : Nat) (l : Nat → Int) : Nat → Int := fun t => lim T t + shl a i l t
set_option maxRecDepth 20000 in
theorem row_end (T a : Int) (i : Nat) (l : Nat → Int) (b : Bool) (h : i ≤ 20) : numC b (row T a i l (20 - i)) = numC b (full T a i l) :=
  numC_congr fun t ht => by
    unfold row full shl
    by_cases c : i ≤ t
    · rw [if_pos (by omega), if_pos c]
    · rw [if_neg (by omega), if_neg c]
set_option maxRecDepth 20000 in
theorem full_bd (T a : Int) (i : Nat) (l : Nat → Int) (a0 : 0 ≤ a) (a1 : a < 65536) (hl : ∀ t, 0 ≤ l t ∧ l t < 65536) (t : Nat) : 0 ≤ full T a i l t ∧ full T a i l t ≤ 4294967295 := by
  have h1 := lim_bd T t
  unfold full shl
  split
  · have h2 := hl (t - i)
    have h3 := Int.mul_nonneg a0 h2.1
    have h4 := Int.mul_le_mul (show a ≤ 65535 by omega) (show l (t - i) ≤ 65535 by omega) h2.1 (by decide)
    omega
  · omega
set_option maxRecDepth 20000 in
theorem pre_bd {s : Nat → Int} (h : ∀ t, 0 ≤ s t ∧ s t ≤ 4294967295) (k : Nat) : 0 ≤ pre s k / 65536 ^ k ∧ pre s k / 65536 ^ k ≤ 65538 := by
  induction k with
  | zero => simp [pre]
  | succ k ih => rw [pre_up]; have := h k; omega
set_option maxRecDepth 20000 in
theorem full_pre (m n : Int) (i : Nat) (m0 : 0 ≤ m) (n0 : 0 ≤ n) (h : m * n < 65536 ^ 20) (hi : i < 20) :
    pre (full (m % 65536 ^ i * n) (lim m i) i (lim n)) 20 = m % 65536 ^ (i + 1) * n ∧ m % 65536 ^ (i + 1) * n < 65536 ^ 20 := by
  have P := pow_pos' i
  have hm : ∀ j : Nat, m % 65536 ^ j * n < 65536 ^ 20 := fun j => by
    have h1 : m % 65536 ^ j ≤ m := by
      have := Int.mul_ediv_add_emod m (65536 ^ j)
      have := Int.mul_nonneg (Int.le_of_lt (pow_pos' j)) (Int.ediv_nonneg m0 (Int.le_of_lt (pow_pos' j)))
      omega
    have := Int.mul_le_mul_of_nonneg_right h1 n0
    omega
  have e : m % 65536 ^ (i + 1) = m % 65536 ^ i + lim m i * 65536 ^ i := by
    have h1 := pre_lim m (i + 1)
    have h2 := pre_lim m i
    simp only [pre] at h1
    omega
  refine ⟨?_, hm _⟩
  have q : pre (full (m % 65536 ^ i * n) (lim m i) i (lim n)) 20 = pre (lim (m % 65536 ^ i * n)) 20 + pre (shl (lim m i) i (lim n)) 20 := pre_add _ _ 20
  rw [q, pre_lim_end (Int.mul_nonneg (Int.emod_nonneg _ (by omega)) n0) (hm i)]
  have q2 := pre_shl (lim m i) i (lim n) (20 - i)
  rw [show i + (20 - i) = 20 by omega] at q2
  rw [q2, pre_lim, e, Int.add_mul]
  congr 1
  by_cases c : lim m i = 0
  · rw [c]; simp
  · have h1 := lim_bd m i
    have h2 : 65536 ^ i ≤ m := by
      rcases Int.lt_or_le m (65536 ^ i) with d | d
      · exfalso; apply c; unfold lim; rw [Int.ediv_eq_zero_of_lt m0 d]; rfl
      · exact d
    have h3 := Int.mul_le_mul_of_nonneg_right h2 n0
    have h4 : (65536 : Int) ^ 20 = 65536 ^ i * 65536 ^ (20 - i) := by rw [← Int.pow_add, show i + (20 - i) = 20 by omega]
    have h5 : n < 65536 ^ (20 - i) := by
      rcases Int.lt_or_le n (65536 ^ (20 - i)) with d | d
      · exact d
      · have := Int.mul_le_mul_of_nonneg_left d (Int.le_of_lt P); omega
    rw [Int.emod_eq_of_lt n0 h5]
end Go.Proofs.Ytfojgjannhhbaaa
