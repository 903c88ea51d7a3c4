/- Bits of a number of pieces, and the search of a quotient bit by bit; plain. -/
import Derived.Test.YtfojgjannhhbaaaRefA
namespace Go.Proofs.Ytfojgjannhhbaaa
open Go.RowKit

set_option maxRecDepth 20000 in
theorem lim_upd (Q D : Int) (c : Nat) (h0 : 0 ≤ lim Q c + D) (h1 : lim Q c + D < 65536) : lim (Q + D * 65536 ^ c) = upd (lim Q) c (lim Q c + D) := by
  funext i
  unfold upd
  by_cases c1 : i = c
  · subst c1
    rw [if_pos rfl]
    unfold lim at *
    rw [Int.add_mul_ediv_right _ _ (by have := pow_pos' i; omega)]
    omega
  · rw [if_neg c1]
    by_cases c2 : i < c
    · obtain ⟨k, rfl⟩ : ∃ k, c = i + (k + 1) := ⟨c - i - 1, by omega⟩
      unfold lim
      rw [Int.pow_add, Int.pow_succ, show D * (65536 ^ i * (65536 ^ k * 65536)) = D * 65536 ^ k * 65536 * 65536 ^ i by rw [Int.mul_assoc D, Int.mul_assoc D, Int.mul_comm _ ((65536 : Int) ^ i)], Int.add_mul_ediv_right _ _ (by have := pow_pos' i; omega), Int.add_mul_emod_self_right]
    · obtain ⟨k, rfl⟩ : ∃ k, i = c + (1 + k) := ⟨i - c - 1, by omega⟩
      have p := pow_pos' c
      unfold lim at *
      rw [Int.pow_add, ← Int.ediv_ediv_of_nonneg (by omega), ← Int.ediv_ediv_of_nonneg (by omega), Int.add_mul_ediv_right _ _ (by omega), Int.pow_add, ← Int.ediv_ediv_of_nonneg (by decide), ← Int.ediv_ediv_of_nonneg (by decide)]
      rw [show (Q / 65536 ^ c + D) / 65536 ^ 1 = Q / 65536 ^ c / 65536 ^ 1 by rw [show (65536 : Int) ^ 1 = 65536 by rfl]; omega]
set_option maxRecDepth 20000 in
/-- a power of two, by its piece -/
theorem pw2 (c e : Nat) : (2 : Int) ^ (16 * c + e) = 2 ^ e * 65536 ^ c := by
  rw [Int.pow_add, Int.pow_mul, Int.mul_comm]; rfl
set_option maxRecDepth 20000 in
theorem cases16 {e : Nat} (h : e < 16) : e = 0 ∨ e = 1 ∨ e = 2 ∨ e = 3 ∨ e = 4 ∨ e = 5 ∨ e = 6 ∨ e = 7 ∨ e = 8 ∨ e = 9 ∨ e = 10 ∨ e = 11 ∨ e = 12 ∨ e = 13 ∨ e = 14 ∨ e = 15 := by omega
set_option maxRecDepth 20000 in
/-- bit by bit: a clear bit is set -/
theorem bit_set (Q t : Int) (c e : Nat) (he : e < 16) (h : Q = t * 2 ^ (16 * c + e + 1)) : 0 ≤ lim Q c ∧ lim Q c + 2 ^ e < 65536 ∧ lim (Q + 2 ^ (16 * c + e)) = upd (lim Q) c (lim Q c + 2 ^ e) := by
  have p := pow_pos' c
  have e1 : Q / 65536 ^ c = t * 2 ^ (e + 1) := by
    rw [h, show 16 * c + e + 1 = 16 * c + (e + 1) by omega, pw2, ← Int.mul_assoc, Int.mul_ediv_cancel _ (by omega)]
  have b : 0 ≤ lim Q c ∧ lim Q c + 2 ^ e < 65536 := by
    unfold lim
    rw [e1]
    rcases cases16 he with rfl | rfl | rfl | rfl | rfl | rfl | rfl | rfl | rfl | rfl | rfl | rfl | rfl | rfl | rfl | rfl <;> simp <;> omega
  refine ⟨b.1, b.2, ?_⟩
  have z : (0 : Int) < 2 ^ e := Int.pow_pos (by decide)
  rw [pw2]
  exact lim_upd Q (2 ^ e) c (by omega) b.2
set_option maxRecDepth 20000 in
/-- the rest of the bits: all ones -/
theorem ones_div (c e : Nat) (t : Int) : (t * 2 ^ (16 * c + e) - 1) / 65536 ^ c = t * 2 ^ e - 1 := by
  have p := pow_pos' c
  rw [pw2, ← Int.mul_assoc]
  have : t * 2 ^ e * 65536 ^ c - 1 = 65536 ^ c - 1 + (t * 2 ^ e - 1) * 65536 ^ c := by rw [Int.sub_mul]; omega
  rw [this, Int.add_mul_ediv_right _ _ (by omega), Int.ediv_eq_zero_of_lt (by omega) (by omega)]
  omega
set_option maxRecDepth 20000 in
/-- a set bit with ones beneath is cleared -/
theorem bit_clear (Q t : Int) (c e : Nat) (he : e < 16) (h : Q = t * 2 ^ (16 * c + e + 1) - 1) : 0 ≤ lim Q c - 2 ^ e ∧ lim Q c < 65536 ∧ lim (Q - 2 ^ (16 * c + e)) = upd (lim Q) c (lim Q c - 2 ^ e) := by
  have e1 : Q / 65536 ^ c = t * 2 ^ (e + 1) - 1 := by
    rw [h, show 16 * c + e + 1 = 16 * c + (e + 1) by omega]; exact ones_div c (e + 1) t
  have b : 0 ≤ lim Q c - 2 ^ e ∧ lim Q c < 65536 := by
    unfold lim
    rw [e1]
    rcases cases16 he with rfl | rfl | rfl | rfl | rfl | rfl | rfl | rfl | rfl | rfl | rfl | rfl | rfl | rfl | rfl | rfl <;> simp <;> omega
  refine ⟨b.1, b.2, ?_⟩
  have z : (0 : Int) < 2 ^ e := Int.pow_pos (by decide)
  have := lim_upd Q (-2 ^ e) c (by omega) (by omega)
  rw [pw2, Int.sub_eq_add_neg, ← Int.neg_mul, this]
  rfl
set_option maxRecDepth 20000 in
/-- all ones, one bit more -/
theorem bit_more (c e : Nat) (he : e < 16) : 0 ≤ lim (2 ^ (16 * c + e) - 1) c ∧ lim (2 ^ (16 * c + e) - 1) c + 2 ^ e < 65536 ∧ lim (2 ^ (16 * c + e + 1) - 1) = upd (lim (2 ^ (16 * c + e) - 1)) c (lim (2 ^ (16 * c + e) - 1) c + 2 ^ e) := by
  have e1 := ones_div c e 1
  rw [Int.one_mul, Int.one_mul] at e1
  have b : 0 ≤ lim (2 ^ (16 * c + e) - 1) c ∧ lim (2 ^ (16 * c + e) - 1) c + 2 ^ e < 65536 := by
    unfold lim
    rw [e1]
    rcases cases16 he with rfl | rfl | rfl | rfl | rfl | rfl | rfl | rfl | rfl | rfl | rfl | rfl | rfl | rfl | rfl | rfl <;> decide
  refine ⟨b.1, b.2, ?_⟩
  have z : (0 : Int) < 2 ^ e := Int.pow_pos (by decide)
  have := lim_upd (2 ^ (16 * c + e) - 1) (2 ^ e) c (by omega) b.2
  rw [← pw2] at this
  rw [← this, Int.pow_succ]
  congr 1; omega
def UpR (A n : Int) (j : Nat) (Q : Int) : Prop := (∃ t, Q = t * 2 ^ j) ∧ 0 ≤ Q ∧ Q * n ≤ A ∧ A < (Q + 2 ^ j) * n
set_option maxRecDepth 20000 in
theorem UpR.yes {A n Q : Int} {j : Nat} (h : UpR A n (j + 1) Q) (c : (Q + 2 ^ j) * n ≤ A) : UpR A n j (Q + 2 ^ j) := by
  obtain ⟨⟨t, rfl⟩, h0, h1, h2⟩ := h
  have p : (0 : Int) < 2 ^ j := Int.pow_pos (by decide)
  refine ⟨⟨2 * t + 1, ?_⟩, by omega, c, ?_⟩
  · rw [Int.pow_succ, Int.add_mul, Int.one_mul, ← Int.mul_assoc, Int.mul_assoc 2]; omega
  · rw [Int.pow_succ] at h2 ⊢
    rwa [Int.add_assoc, show (2 : Int) ^ j + 2 ^ j = 2 ^ j * 2 by omega]
set_option maxRecDepth 20000 in
theorem UpR.no {A n Q : Int} {j : Nat} (h : UpR A n (j + 1) Q) (c : A < (Q + 2 ^ j) * n) : UpR A n j Q := by
  obtain ⟨⟨t, rfl⟩, h0, h1, h2⟩ := h
  exact ⟨⟨t * 2, by rw [Int.pow_succ, Int.mul_assoc, Int.mul_comm 2]⟩, h0, h1, c⟩
set_option maxRecDepth 20000 in
theorem UpR.start {A n : Int} (h0 : 0 ≤ A) (h1 : A < 2 ^ 130) (hn : 1 ≤ n) : UpR A n 130 0 :=
  ⟨⟨0, by decide⟩, by decide, by omega, by
    have : (2 : Int) ^ 130 * 1 ≤ 2 ^ 130 * n := Int.mul_le_mul_of_nonneg_left hn (by decide)
    rw [Int.zero_add]; omega⟩
set_option maxRecDepth 20000 in
theorem UpR.last {A n Q : Int} (h : UpR A n 0 Q) (hn : 1 ≤ n) : Q = A / n := by
  obtain ⟨_, h0, h1, h2⟩ := h
  have a := Int.le_ediv_of_mul_le (by omega) h1
  have b := Int.ediv_lt_of_lt_mul (by omega) h2
  rw [show (2 : Int) ^ 0 = 1 by rfl] at b
  omega
set_option maxRecDepth 20000 in
/-- what a round reads and makes -/
theorem UpR.bd {A n Q : Int} {j : Nat} (h : UpR A n (j + 1) Q) (hj : j < 130) (hA : A < 2 ^ 130) (hn : 1 ≤ n) : 0 ≤ Q ∧ Q < 2 ^ 130 ∧ 0 < Q + 2 ^ j ∧ Q + 2 ^ j < 2 ^ 131 := by
  obtain ⟨⟨t, e⟩, h0, h1, h2⟩ := h
  have p : (0 : Int) < 2 ^ j := Int.pow_pos (by decide)
  have q : (2 : Int) ^ j ≤ 2 ^ 129 := by
    obtain ⟨k, hk⟩ : ∃ k, 129 = j + k := ⟨129 - j, by omega⟩
    have : (1 : Int) ≤ 2 ^ k := Int.pow_pos (by decide)
    rw [hk, Int.pow_add]
    have := Int.mul_le_mul_of_nonneg_left this (show (0 : Int) ≤ 2 ^ j by omega)
    omega
  have r : Q * 1 ≤ Q * n := Int.mul_le_mul_of_nonneg_left hn h0
  have s : (2 : Int) ^ 131 = 2 * 2 ^ 130 := by decide
  have s' : (2 : Int) ^ 130 = 2 * 2 ^ 129 := by decide
  omega
def DnR (A n : Int) (j : Nat) (Q : Int) : Prop := (∃ t, 1 ≤ t ∧ Q = t * 2 ^ j - 1) ∧ A ≤ Q * n ∧ (Q - 2 ^ j) * n < A ∧ Q < 2 ^ 130
set_option maxRecDepth 20000 in
theorem DnR.yes {A n Q : Int} {j : Nat} (h : DnR A n (j + 1) Q) (c : A ≤ (Q - 2 ^ j) * n) : DnR A n j (Q - 2 ^ j) := by
  obtain ⟨⟨t, ht, rfl⟩, h1, h2, h3⟩ := h
  have p : (0 : Int) < 2 ^ j := Int.pow_pos (by decide)
  refine ⟨⟨2 * t - 1, by omega, ?_⟩, c, ?_, by omega⟩
  · rw [Int.pow_succ, Int.sub_mul, Int.one_mul, ← Int.mul_assoc, Int.mul_assoc 2]; omega
  · rw [Int.pow_succ] at h2 ⊢
    rwa [Int.sub_sub _ (2 ^ j), show (2 : Int) ^ j + 2 ^ j = 2 ^ j * 2 by omega]
set_option maxRecDepth 20000 in
theorem DnR.no {A n Q : Int} {j : Nat} (h : DnR A n (j + 1) Q) (c : (Q - 2 ^ j) * n < A) : DnR A n j Q := by
  obtain ⟨⟨t, ht, rfl⟩, h1, h2, h3⟩ := h
  exact ⟨⟨t * 2, by omega, by rw [Int.pow_succ, Int.mul_assoc, Int.mul_comm 2]⟩, h1, c, h3⟩
set_option maxRecDepth 20000 in
theorem DnR.start {A n : Int} (h0 : 0 ≤ A) (h1 : A < 2 ^ 130) (hn : 1 ≤ n) : DnR A n 130 (2 ^ 130 - 1) :=
  ⟨⟨1, by decide, by decide⟩, by
    have : ((2 : Int) ^ 130 - 1) * 1 ≤ (2 ^ 130 - 1) * n := Int.mul_le_mul_of_nonneg_left hn (by decide)
    omega, by rw [show (2 : Int) ^ 130 - 1 - 2 ^ 130 = -1 by decide]; omega, by decide⟩
set_option maxRecDepth 20000 in
theorem DnR.last {A n Q : Int} (h : DnR A n 0 Q) (hn : 1 ≤ n) : Q = -(-A / n) := by
  obtain ⟨_, h1, h2, _⟩ := h
  have a : -Q ≤ -A / n := Int.le_ediv_of_mul_le (by omega) (by rw [Int.neg_mul]; omega)
  have b : -A / n < -(Q - 1) := Int.ediv_lt_of_lt_mul (by omega) (by rw [Int.neg_mul]; rw [show (2 : Int) ^ 0 = 1 by rfl] at h2; omega)
  omega
set_option maxRecDepth 20000 in
theorem DnR.bd {A n Q : Int} {j : Nat} (h : DnR A n (j + 1) Q) : 0 ≤ Q ∧ Q < 2 ^ 130 ∧ 0 ≤ Q - 2 ^ j ∧ Q - 2 ^ j < 2 ^ 130 := by
  obtain ⟨⟨t, ht, e⟩, h1, h2, h3⟩ := h
  have p : (0 : Int) < 2 ^ j := Int.pow_pos (by decide)
  have : 1 * (2 : Int) ^ (j + 1) ≤ t * 2 ^ (j + 1) := Int.mul_le_mul_of_nonneg_right ht (by rw [Int.pow_succ]; omega)
  rw [Int.pow_succ] at *
  omega
end Go.Proofs.Ytfojgjannhhbaaa
