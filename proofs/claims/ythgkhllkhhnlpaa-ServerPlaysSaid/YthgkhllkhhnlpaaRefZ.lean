/- Written by gen/bundle36.py: RefA, RefJ, RefB, RefC, RefD, RefE, RefF, RefG, RefK, RefH, RefI, RefR in one text. -/
import Derived.Test.YthgkhllkhhnlpaaBlkS
import Derived.Test.YthgkhllkhhnlpaaWideS
import Derived.BigRegion
/- horologeref01: Num64, Of, Neg, Zero, power: what each returns, in integers. -/
namespace Go.Proofs.Ythgkhllkhhnlpaa
open Go.RowKit

/-- the piece at place i -/
def lim (n : Int) (i : Nat) : Int := n / 65536 ^ i % 65536
abbrev NN (b : Bool) (n : Int) : Value := NV b (lim n)
set_option maxRecDepth 20000 in
theorem lim_bd (n : Int) (i : Nat) : 0 ≤ lim n i ∧ lim n i < 65536 := by unfold lim; omega
set_option maxRecDepth 20000 in
theorem pow_pos' (i : Nat) : (0 : Int) < 65536 ^ i := Int.pow_pos (by decide)
set_option maxRecDepth 20000 in
theorem lim_great {n : Int} {i k : Nat} (h0 : 0 ≤ n) (h : n < 65536 ^ k) (hk : k ≤ i) : lim n i = 0 := by
  unfold lim
  have : (65536 : Int) ^ k ≤ 65536 ^ i := by
    obtain ⟨j, rfl⟩ : ∃ j, i = k + j := ⟨i - k, by omega⟩
    rw [Int.pow_add]
    have h1 := Int.mul_le_mul_of_nonneg_left (show (1 : Int) ≤ 65536 ^ j by have := pow_pos' j; omega) (show (0 : Int) ≤ 65536 ^ k by have := pow_pos' k; omega)
    simpa using h1
  rw [Int.ediv_eq_zero_of_lt h0 (by omega)]; rfl
/-- the first k pieces -/
def cut (n : Int) (k : Nat) (i : Nat) : Int := if i < k then lim n i else 0
set_option maxRecDepth 20000 in
theorem cut_0 (n : Int) : cut n 0 = fun _ => 0 := by funext i; simp [cut]
set_option maxRecDepth 20000 in
theorem cut_succ (n : Int) (k : Nat) : upd (cut n k) k (n / 65536 ^ k % 65536) = cut n (k + 1) := by
  funext i
  unfold upd cut
  by_cases c : i = k
  · subst c; simp [lim]
  · by_cases d : i < k
    · rw [if_neg c, if_pos d, if_pos (by omega)]
    · rw [if_neg c, if_neg d, if_neg (by omega)]
set_option maxRecDepth 20000 in
theorem cut_end {n : Int} (h0 : 0 ≤ n) (h : n < 18446744073709551616) (b : Bool) : numC b (cut n 4) = numC b (lim n) :=
  numC_congr fun i _ => by
    unfold cut
    split
    · rfl
    · rw [lim_great (k := 4) h0 (by simpa using h) (by omega)]
set_option maxRecDepth 20000 in
theorem div_pow_succ (n : Int) (k : Nat) : n / 65536 ^ k / 65536 = n / 65536 ^ (k + 1) := by
  rw [Int.pow_succ, Int.ediv_ediv_of_nonneg (by have := pow_pos' k; omega)]
set_option maxRecDepth 20000 in
theorem div_pow_bd {n : Int} (h0 : 0 ≤ n) (h : n < 18446744073709551616) (k : Nat) : 0 ≤ n / 65536 ^ k ∧ n / 65536 ^ k < 18446744073709551616 := by
  constructor
  · exact Int.ediv_nonneg h0 (by have := pow_pos' k; omega)
  · exact Int.lt_of_le_of_lt (Int.ediv_le_self _ h0) h

set_option maxRecDepth 20000 in
set_option maxHeartbeats 400000 in
theorem num64_any (n : Int) (h0 : 0 ≤ n) (h1 : n < 18446744073709551616) (w : World) : Calls Try.prog 90 #[.int .u64 n] w fun e w' => e = .returned (NN false n) ∧ Mo w w' := by
  go_enter Try.func90, Try.ntmps90
  go_wp2_with fail
  go_loopw [0, 4] (fun u i wr => ∃ k : Nat, k ≤ 4 ∧ i = .int .i64 k ∧ u = .int .u64 (n / 65536 ^ k) ∧ wr = (w.alloc (.cells (numC false (fun _ => 0)) 156)).alloc (.cells (numC false (cut n k)) 156)) (fun _ i _ => 4 - (intOf i).toNat)
  case atStart => exact ⟨0, by omega, rfl, by simp, by rw [cut_0]⟩
  case round =>
    obtain ⟨k, hk, rfl, rfl, rfl⟩ := hrel
    obtain ⟨d1, d2⟩ := div_pow_bd h0 h1 k
    have HC := Lib.hid (cut_succ n k)
    have HD := Lib.hid (div_pow_succ n k)
    by_cases c : k < 4
    · have c20 : k < 20 := by omega
      go_wp2_with fail
      go_roundw
      case rel => exact ⟨k + 1, by omega, by go_num, by rw [← HD.out], by rw [← HC.out]⟩
      case measure => simp [intOf]; omega
    · obtain rfl : k = 4 := by omega
      have HE := Lib.hid (cut_end h0 h1 false)
      clear HC HD d1 d2
      rw [HE.out]
      go_wp2_with fail
      exact ret_num w.heap.size 156 (numC false (lim n)) Try.results90 rfl rfl ⟨rfl, Mor.out⟩

set_option maxRecDepth 20000 in
set_option maxHeartbeats 400000 in
theorem rof_pos (n : Int) (h0 : 0 ≤ n) (h1 : n ≤ 9223372036854775807) (w : World) : Calls Try.prog 63 #[.int .i64 n] w fun e w' => e = .returned (NN false n) ∧ Mo w w' := by
  have hn : decide (n < 0) = false := by simp; omega
  have h2 : n < 18446744073709551616 := by omega
  go_enter Try.func63, Try.ntmps63
  go_wp2_with fail
  go_loopw [4, 5] (fun u i wr => ∃ k : Nat, k ≤ 4 ∧ i = .int .i64 k ∧ u = .int .u64 (n / 65536 ^ k) ∧ wr = (w.alloc (.cells (numC false (fun _ => 0)) 156)).alloc (.cells (numC false (cut n k)) 156)) (fun _ i _ => 4 - (intOf i).toNat)
  case atStart => exact ⟨0, by omega, rfl, by simp, by rw [cut_0]⟩
  case round =>
    obtain ⟨k, hk, rfl, rfl, rfl⟩ := hrel
    obtain ⟨d1, d2⟩ := div_pow_bd h0 h2 k
    have HC := Lib.hid (cut_succ n k)
    have HD := Lib.hid (div_pow_succ n k)
    by_cases c : k < 4
    · have c20 : k < 20 := by omega
      go_wp2_with fail
      go_roundw
      case rel => exact ⟨k + 1, by omega, by go_num, by rw [← HD.out], by rw [← HC.out]⟩
      case measure => simp [intOf]; omega
    · obtain rfl : k = 4 := by omega
      have HE := Lib.hid (cut_end h0 h2 false)
      clear HC HD d1 d2
      rw [HE.out]
      go_wp2_with fail
      exact ret_num w.heap.size 156 (numC false (lim n)) Try.results63 rfl rfl ⟨rfl, Mor.out⟩
set_option maxRecDepth 20000 in
set_option maxHeartbeats 400000 in
theorem rof_neg (n : Int) (h0 : n < 0) (h1 : -9223372036854775808 ≤ n) (w : World) : Calls Try.prog 63 #[.int .i64 n] w fun e w' => e = .returned (NN true (-n)) ∧ Mo w w' := by
  have hn : decide (n < 0) = true := by simpa using h0
  obtain ⟨m, hm⟩ : ∃ m, -n = m := ⟨_, rfl⟩
  have hu : IntKind.u64.wrap (-IntKind.u64.wrap n) = m := by rw [IntKind.wrap_u64, IntKind.wrap_u64]; omega
  have m0 : 0 ≤ m := by omega
  have m1 : m < 18446744073709551616 := by omega
  rw [hm]
  clear hm
  go_enter Try.func63, Try.ntmps63
  go_wp2_with fail
  go_loopw [4, 5] (fun u i wr => ∃ k : Nat, k ≤ 4 ∧ i = .int .i64 k ∧ u = .int .u64 (m / 65536 ^ k) ∧ wr = (w.alloc (.cells (numC false (fun _ => 0)) 156)).alloc (.cells (numC true (cut m k)) 156)) (fun _ i _ => 4 - (intOf i).toNat)
  case atStart => exact ⟨0, by omega, rfl, by simp, by rw [cut_0]⟩
  case round =>
    obtain ⟨k, hk, rfl, rfl, rfl⟩ := hrel
    obtain ⟨d1, d2⟩ := div_pow_bd m0 m1 k
    have HC := Lib.hid (cut_succ m k)
    have HD := Lib.hid (div_pow_succ m k)
    by_cases c : k < 4
    · have c20 : k < 20 := by omega
      go_wp2_with fail
      go_roundw
      case rel => exact ⟨k + 1, by omega, by go_num, by rw [← HD.out], by rw [← HC.out]⟩
      case measure => simp [intOf]; omega
    · obtain rfl : k = 4 := by omega
      have HE := Lib.hid (cut_end m0 m1 true)
      clear HC HD d1 d2
      rw [HE.out]
      go_wp2_with fail
      exact ret_num w.heap.size 156 (numC true (lim m)) Try.results63 rfl rfl ⟨rfl, Mor.out⟩
set_option maxRecDepth 20000 in
theorem rof_any (n : Int) (h1 : -9223372036854775808 ≤ n) (h2 : n ≤ 9223372036854775807) (w : World) : Calls Try.prog 63 #[.int .i64 n] w fun e w' => e = .returned (NN (decide (n < 0)) (absI n)) ∧ Mo w w' := by
  by_cases c : n < 0
  · rw [show absI n = -n from if_pos c, decide_eq_true c]; exact rof_neg n c h1 w
  · rw [show absI n = n from if_neg c, decide_eq_false c]; exact rof_pos n (by omega) h2 w

/-- are all pieces nought? -/
def zer (l : Nat → Int) : Bool := (List.range 20).all fun i => decide (l i = 0)
set_option maxRecDepth 20000 in
theorem zer_iff (l : Nat → Int) : zer l = true ↔ ∀ i, i < 20 → l i = 0 := by simp [zer]
set_option maxRecDepth 20000 in
set_option maxHeartbeats 400000 in
theorem zero_any (b : Bool) (l : Nat → Int) (hl : ∀ i, 0 ≤ l i) (w : World) : Calls Try.prog 96 #[NV b l] w fun e w' => e = .returned (.bool (zer l)) ∧ Mo w w' := by
  go_enter Try.func96, Try.ntmps96
  go_wp2_with fail
  go_loop [3] (fun i => ∃ k : Nat, k ≤ 20 ∧ i = .int .i64 k ∧ Hid (∀ j, j < k → l j = 0)) (fun i => 20 - (intOf i).toNat)
  case atStart => exact ⟨0, by omega, rfl, Lib.hid (by intro j h; omega)⟩
  case round =>
    obtain ⟨k, hk, rfl, hz⟩ := hrel
    by_cases c : k < 20
    · by_cases d : 0 < l k
      · have e : zer l = false := by
          rcases h : zer l with _ | _
          · rfl
          · have := (zer_iff l).1 h k c; omega
        have he := Lib.hid e
        clear hl e
        go_wp2_with fail
        go_ret
        exact ⟨by rw [he.out]; rfl, Mor.out⟩
      · have e : l k = 0 := by have := hl k; omega
        have he := Lib.hid e
        clear hl e
        go_wp2_with fail
        go_round
        case rel =>
          refine ⟨k + 1, by omega, by go_num, Lib.hid fun j hj => ?_⟩
          by_cases f : j = k
          · subst f; exact he.out
          · exact hz.out j (by omega)
        case measure => simp [intOf]; omega
    · have e : zer l = true := (zer_iff l).2 fun i hi => hz.out i (by omega)
      have he := Lib.hid e
      clear hl e
      go_wp2_with fail
      go_ret
      exact ⟨by rw [he.out]; rfl, Mor.out⟩
end Go.Proofs.Ythgkhllkhhnlpaa
/- Bits of a number of pieces, and the search of a quotient bit by bit; plain. -/
namespace Go.Proofs.Ythgkhllkhhnlpaa
open Go.RowKit

set_option maxRecDepth 20000 in
theorem lim_upd (Q D : Int) (c : Nat) (h0 : 0 ≤ lim Q c + D) (h1 : lim Q c + D < 65536) : lim (Q + D * 65536 ^ c) = upd (lim Q) c (lim Q c + D) := by
  funext i
  unfold upd
  by_cases c1 : i = c
  · subst c1
    rw [if_pos rfl]
    unfold lim at *
    rw [Int.add_mul_ediv_right _ _ (by have := pow_pos' i; omega)]
    omega
  · rw [if_neg c1]
    by_cases c2 : i < c
    · obtain ⟨k, rfl⟩ : ∃ k, c = i + (k + 1) := ⟨c - i - 1, by omega⟩
      unfold lim
      rw [Int.pow_add, Int.pow_succ, show D * (65536 ^ i * (65536 ^ k * 65536)) = D * 65536 ^ k * 65536 * 65536 ^ i by rw [Int.mul_assoc D, Int.mul_assoc D, Int.mul_comm _ ((65536 : Int) ^ i)], Int.add_mul_ediv_right _ _ (by have := pow_pos' i; omega), Int.add_mul_emod_self_right]
    · obtain ⟨k, rfl⟩ : ∃ k, i = c + (1 + k) := ⟨i - c - 1, by omega⟩
      have p := pow_pos' c
      unfold lim at *
      rw [Int.pow_add, ← Int.ediv_ediv_of_nonneg (by omega), ← Int.ediv_ediv_of_nonneg (by omega), Int.add_mul_ediv_right _ _ (by omega), Int.pow_add, ← Int.ediv_ediv_of_nonneg (by decide), ← Int.ediv_ediv_of_nonneg (by decide)]
      rw [show (Q / 65536 ^ c + D) / 65536 ^ 1 = Q / 65536 ^ c / 65536 ^ 1 by rw [show (65536 : Int) ^ 1 = 65536 by rfl]; omega]
set_option maxRecDepth 20000 in
/-- a power of two, by its piece -/
theorem pw2 (c e : Nat) : (2 : Int) ^ (16 * c + e) = 2 ^ e * 65536 ^ c := by
  rw [Int.pow_add, Int.pow_mul, Int.mul_comm]; rfl
set_option maxRecDepth 20000 in
theorem cases16 {e : Nat} (h : e < 16) : e = 0 ∨ e = 1 ∨ e = 2 ∨ e = 3 ∨ e = 4 ∨ e = 5 ∨ e = 6 ∨ e = 7 ∨ e = 8 ∨ e = 9 ∨ e = 10 ∨ e = 11 ∨ e = 12 ∨ e = 13 ∨ e = 14 ∨ e = 15 := by omega
set_option maxRecDepth 20000 in
/-- bit by bit: a clear bit is set -/
theorem bit_set (Q t : Int) (c e : Nat) (he : e < 16) (h : Q = t * 2 ^ (16 * c + e + 1)) : 0 ≤ lim Q c ∧ lim Q c + 2 ^ e < 65536 ∧ lim (Q + 2 ^ (16 * c + e)) = upd (lim Q) c (lim Q c + 2 ^ e) := by
  have p := pow_pos' c
  have e1 : Q / 65536 ^ c = t * 2 ^ (e + 1) := by
    rw [h, show 16 * c + e + 1 = 16 * c + (e + 1) by omega, pw2, ← Int.mul_assoc, Int.mul_ediv_cancel _ (by omega)]
  have b : 0 ≤ lim Q c ∧ lim Q c + 2 ^ e < 65536 := by
    unfold lim
    rw [e1]
    rcases cases16 he with rfl | rfl | rfl | rfl | rfl | rfl | rfl | rfl | rfl | rfl | rfl | rfl | rfl | rfl | rfl | rfl <;> simp <;> omega
  refine ⟨b.1, b.2, ?_⟩
  have z : (0 : Int) < 2 ^ e := Int.pow_pos (by decide)
  rw [pw2]
  exact lim_upd Q (2 ^ e) c (by omega) b.2
set_option maxRecDepth 20000 in
/-- the rest of the bits: all ones -/
theorem ones_div (c e : Nat) (t : Int) : (t * 2 ^ (16 * c + e) - 1) / 65536 ^ c = t * 2 ^ e - 1 := by
  have p := pow_pos' c
  rw [pw2, ← Int.mul_assoc]
  have : t * 2 ^ e * 65536 ^ c - 1 = 65536 ^ c - 1 + (t * 2 ^ e - 1) * 65536 ^ c := by rw [Int.sub_mul]; omega
  rw [this, Int.add_mul_ediv_right _ _ (by omega), Int.ediv_eq_zero_of_lt (by omega) (by omega)]
  omega
set_option maxRecDepth 20000 in
/-- a set bit with ones beneath is cleared -/
theorem bit_clear (Q t : Int) (c e : Nat) (he : e < 16) (h : Q = t * 2 ^ (16 * c + e + 1) - 1) : 0 ≤ lim Q c - 2 ^ e ∧ lim Q c < 65536 ∧ lim (Q - 2 ^ (16 * c + e)) = upd (lim Q) c (lim Q c - 2 ^ e) := by
  have e1 : Q / 65536 ^ c = t * 2 ^ (e + 1) - 1 := by
    rw [h, show 16 * c + e + 1 = 16 * c + (e + 1) by omega]; exact ones_div c (e + 1) t
  have b : 0 ≤ lim Q c - 2 ^ e ∧ lim Q c < 65536 := by
    unfold lim
    rw [e1]
    rcases cases16 he with rfl | rfl | rfl | rfl | rfl | rfl | rfl | rfl | rfl | rfl | rfl | rfl | rfl | rfl | rfl | rfl <;> simp <;> omega
  refine ⟨b.1, b.2, ?_⟩
  have z : (0 : Int) < 2 ^ e := Int.pow_pos (by decide)
  have := lim_upd Q (-2 ^ e) c (by omega) (by omega)
  rw [pw2, Int.sub_eq_add_neg, ← Int.neg_mul, this]
  rfl
set_option maxRecDepth 20000 in
/-- all ones, one bit more -/
theorem bit_more (c e : Nat) (he : e < 16) : 0 ≤ lim (2 ^ (16 * c + e) - 1) c ∧ lim (2 ^ (16 * c + e) - 1) c + 2 ^ e < 65536 ∧ lim (2 ^ (16 * c + e + 1) - 1) = upd (lim (2 ^ (16 * c + e) - 1)) c (lim (2 ^ (16 * c + e) - 1) c + 2 ^ e) := by
  have e1 := ones_div c e 1
  rw [Int.one_mul, Int.one_mul] at e1
  have b : 0 ≤ lim (2 ^ (16 * c + e) - 1) c ∧ lim (2 ^ (16 * c + e) - 1) c + 2 ^ e < 65536 := by
    unfold lim
    rw [e1]
    rcases cases16 he with rfl | rfl | rfl | rfl | rfl | rfl | rfl | rfl | rfl | rfl | rfl | rfl | rfl | rfl | rfl | rfl <;> decide
  refine ⟨b.1, b.2, ?_⟩
  have z : (0 : Int) < 2 ^ e := Int.pow_pos (by decide)
  have := lim_upd (2 ^ (16 * c + e) - 1) (2 ^ e) c (by omega) b.2
  rw [← pw2] at this
  rw [← this, Int.pow_succ]
  congr 1; omega
def UpR (A n : Int) (j : Nat) (Q : Int) : Prop := (∃ t, Q = t * 2 ^ j) ∧ 0 ≤ Q ∧ Q * n ≤ A ∧ A < (Q + 2 ^ j) * n
set_option maxRecDepth 20000 in
theorem UpR.yes {A n Q : Int} {j : Nat} (h : UpR A n (j + 1) Q) (c : (Q + 2 ^ j) * n ≤ A) : UpR A n j (Q + 2 ^ j) := by
  obtain ⟨⟨t, rfl⟩, h0, h1, h2⟩ := h
  have p : (0 : Int) < 2 ^ j := Int.pow_pos (by decide)
  refine ⟨⟨2 * t + 1, ?_⟩, by omega, c, ?_⟩
  · rw [Int.pow_succ, Int.add_mul, Int.one_mul, ← Int.mul_assoc, Int.mul_assoc 2]; omega
  · rw [Int.pow_succ] at h2 ⊢
    rwa [Int.add_assoc, show (2 : Int) ^ j + 2 ^ j = 2 ^ j * 2 by omega]
set_option maxRecDepth 20000 in
theorem UpR.no {A n Q : Int} {j : Nat} (h : UpR A n (j + 1) Q) (c : A < (Q + 2 ^ j) * n) : UpR A n j Q := by
  obtain ⟨⟨t, rfl⟩, h0, h1, h2⟩ := h
  exact ⟨⟨t * 2, by rw [Int.pow_succ, Int.mul_assoc, Int.mul_comm 2]⟩, h0, h1, c⟩
set_option maxRecDepth 20000 in
theorem UpR.start {A n : Int} (h0 : 0 ≤ A) (h1 : A < 2 ^ 130) (hn : 1 ≤ n) : UpR A n 130 0 :=
  ⟨⟨0, by decide⟩, by decide, by omega, by
    have : (2 : Int) ^ 130 * 1 ≤ 2 ^ 130 * n := Int.mul_le_mul_of_nonneg_left hn (by decide)
    rw [Int.zero_add]; omega⟩
set_option maxRecDepth 20000 in
theorem UpR.last {A n Q : Int} (h : UpR A n 0 Q) (hn : 1 ≤ n) : Q = A / n := by
  obtain ⟨_, h0, h1, h2⟩ := h
  have a := Int.le_ediv_of_mul_le (by omega) h1
  have b := Int.ediv_lt_of_lt_mul (by omega) h2
  rw [show (2 : Int) ^ 0 = 1 by rfl] at b
  omega
set_option maxRecDepth 20000 in
/-- what a round reads and makes -/
theorem UpR.bd {A n Q : Int} {j : Nat} (h : UpR A n (j + 1) Q) (hj : j < 130) (hA : A < 2 ^ 130) (hn : 1 ≤ n) : 0 ≤ Q ∧ Q < 2 ^ 130 ∧ 0 < Q + 2 ^ j ∧ Q + 2 ^ j < 2 ^ 131 := by
  obtain ⟨⟨t, e⟩, h0, h1, h2⟩ := h
  have p : (0 : Int) < 2 ^ j := Int.pow_pos (by decide)
  have q : (2 : Int) ^ j ≤ 2 ^ 129 := by
    obtain ⟨k, hk⟩ : ∃ k, 129 = j + k := ⟨129 - j, by omega⟩
    have : (1 : Int) ≤ 2 ^ k := Int.pow_pos (by decide)
    rw [hk, Int.pow_add]
    have := Int.mul_le_mul_of_nonneg_left this (show (0 : Int) ≤ 2 ^ j by omega)
    omega
  have r : Q * 1 ≤ Q * n := Int.mul_le_mul_of_nonneg_left hn h0
  have s : (2 : Int) ^ 131 = 2 * 2 ^ 130 := by decide
  have s' : (2 : Int) ^ 130 = 2 * 2 ^ 129 := by decide
  omega
def DnR (A n : Int) (j : Nat) (Q : Int) : Prop := (∃ t, 1 ≤ t ∧ Q = t * 2 ^ j - 1) ∧ A ≤ Q * n ∧ (Q - 2 ^ j) * n < A ∧ Q < 2 ^ 130
set_option maxRecDepth 20000 in
theorem DnR.yes {A n Q : Int} {j : Nat} (h : DnR A n (j + 1) Q) (c : A ≤ (Q - 2 ^ j) * n) : DnR A n j (Q - 2 ^ j) := by
  obtain ⟨⟨t, ht, rfl⟩, h1, h2, h3⟩ := h
  have p : (0 : Int) < 2 ^ j := Int.pow_pos (by decide)
  refine ⟨⟨2 * t - 1, by omega, ?_⟩, c, ?_, by omega⟩
  · rw [Int.pow_succ, Int.sub_mul, Int.one_mul, ← Int.mul_assoc, Int.mul_assoc 2]; omega
  · rw [Int.pow_succ] at h2 ⊢
    rwa [Int.sub_sub _ (2 ^ j), show (2 : Int) ^ j + 2 ^ j = 2 ^ j * 2 by omega]
set_option maxRecDepth 20000 in
theorem DnR.no {A n Q : Int} {j : Nat} (h : DnR A n (j + 1) Q) (c : (Q - 2 ^ j) * n < A) : DnR A n j Q := by
  obtain ⟨⟨t, ht, rfl⟩, h1, h2, h3⟩ := h
  exact ⟨⟨t * 2, by omega, by rw [Int.pow_succ, Int.mul_assoc, Int.mul_comm 2]⟩, h1, c, h3⟩
set_option maxRecDepth 20000 in
theorem DnR.start {A n : Int} (h0 : 0 ≤ A) (h1 : A < 2 ^ 130) (hn : 1 ≤ n) : DnR A n 130 (2 ^ 130 - 1) :=
  ⟨⟨1, by decide, by decide⟩, by
    have : ((2 : Int) ^ 130 - 1) * 1 ≤ (2 ^ 130 - 1) * n := Int.mul_le_mul_of_nonneg_left hn (by decide)
    omega, by rw [show (2 : Int) ^ 130 - 1 - 2 ^ 130 = -1 by decide]; omega, by decide⟩
set_option maxRecDepth 20000 in
theorem DnR.last {A n Q : Int} (h : DnR A n 0 Q) (hn : 1 ≤ n) : Q = -(-A / n) := by
  obtain ⟨_, h1, h2, _⟩ := h
  have a : -Q ≤ -A / n := Int.le_ediv_of_mul_le (by omega) (by rw [Int.neg_mul]; omega)
  have b : -A / n < -(Q - 1) := Int.ediv_lt_of_lt_mul (by omega) (by rw [Int.neg_mul]; rw [show (2 : Int) ^ 0 = 1 by rfl] at h2; omega)
  omega
set_option maxRecDepth 20000 in
theorem DnR.bd {A n Q : Int} {j : Nat} (h : DnR A n (j + 1) Q) : 0 ≤ Q ∧ Q < 2 ^ 130 ∧ 0 ≤ Q - 2 ^ j ∧ Q - 2 ^ j < 2 ^ 130 := by
  obtain ⟨⟨t, ht, e⟩, h1, h2, h3⟩ := h
  have p : (0 : Int) < 2 ^ j := Int.pow_pos (by decide)
  have : 1 * (2 : Int) ^ (j + 1) ≤ t * 2 ^ (j + 1) := Int.mul_le_mul_of_nonneg_right ht (by rw [Int.pow_succ]; omega)
  rw [Int.pow_succ] at *
  omega
end Go.Proofs.Ythgkhllkhhnlpaa
/- horologeref01: Size, Cmp, Zero, power: what each returns, in integers. -/
namespace Go.Proofs.Ythgkhllkhhnlpaa
open Go.RowKit

set_option maxRecDepth 20000 in
theorem div_step (n : Int) (k : Nat) : n / 65536 ^ k = 65536 * (n / 65536 ^ (k + 1)) + lim n k := by
  have := div_pow_succ n k
  unfold lim
  omega
set_option maxRecDepth 20000 in
theorem lt_of_div {a b : Int} {P : Int} (hP : 0 < P) (h : a / P < b / P) : a < b := by
  rcases Int.lt_or_le a b with c | c
  · exact c
  · have := Int.ediv_le_ediv hP c; omega
set_option maxRecDepth 20000 in
theorem pow_eq_0 {n : Int} (h0 : 0 ≤ n) (h : n < 65536 ^ 20) : n / 65536 ^ 20 = 0 := Int.ediv_eq_zero_of_lt h0 h

set_option maxRecDepth 10000 in
set_option maxHeartbeats 400000 in
theorem rsize_any (b c : Bool) (m n : Int) (m0 : 0 ≤ m) (m1 : m < 65536 ^ 20) (n0 : 0 ≤ n) (n1 : n < 65536 ^ 20) (w : World) :
    Calls Try.prog 87 #[NN b m, NN c n] w fun e w' => e = .returned (.int .i64 (cmpI m n)) ∧ Mo w w' := by
  have hz := Lib.hid (show m / 65536 ^ 20 = n / 65536 ^ 20 by rw [pow_eq_0 m0 m1, pow_eq_0 n0 n1])
  have bm := lim_bd m
  have bn := lim_bd n
  have DM := Lib.hid (div_step m)
  have DN := Lib.hid (div_step n)
  unfold NN
  generalize hl : lim m = l at *
  generalize hk : lim n = k at *
  clear hl hk m0 m1 n0 n1
  go_enter Try.func87, Try.ntmps87
  go_wp2_with fail
  go_loopw [5] (fun i wr => ∃ (j : Nat) (x : Int), j ≤ 20 ∧ x = (j : Int) - 1 ∧ i = .int .i64 x ∧ Hid (m / 65536 ^ j = n / 65536 ^ j) ∧ ∃ J d, wr = more ((w.alloc (.cells (numC b l) 156)).alloc (.cells (numC c k) 156)) J d) (fun i _ => (intOf i + 1).toNat)
  case atStart => exact ⟨20, 19, by omega, by omega, rfl, hz, Mo.refl _⟩
  case round =>
    clear hz
    obtain ⟨j, x, hj, hx, rfl, hz, J, d, rfl⟩ := hrel
    cases j with
    | zero =>
      obtain rfl : x = -1 := by omega
      clear hx
      have e := Lib.hid (show cmpI m n = 0 by
        have := hz.out
        simp only [Int.pow_zero, Int.ediv_one] at this
        subst this; simp [cmpI])
      clear bm bn
      go_wp2_with fail
      go_ret
      exact ⟨by rw [e.out]; rfl, Mor.out⟩
    | succ i =>
      obtain rfl : x = (i : Int) := by omega
      clear hx
      have hi : i < 20 := by omega
      have b1 := bm i
      have b2 := bn i
      have d1 := DM.out i
      have d2 := DN.out i
      rw [hz.out] at d1
      have P := pow_pos' i
      rcases Int.lt_trichotomy (l i) (k i) with c | c | c
      · have e := Lib.hid (show cmpI m n = -1 from if_pos (lt_of_div P (by omega)))
        clear bm bn d1 d2
        go_upto_region 4 with (fail)
        refine wp_region_mo' (by kernel_rfl) (by kernel_rfl) ?_
        repeat (go_big_quiet_step (fail))
        refine wpQuiet_nil ?_
        intro _ hw'
        obtain ⟨⟨J2, d2⟩, hw''⟩ := hw'
        subst hw''
        go_wp2_with fail
        go_ret
        exact ⟨by rw [e.out]; rfl, Mor.out⟩
      · have hz' : Hid (m / 65536 ^ i = n / 65536 ^ i) := Lib.hid (by rw [d1, d2, c])
        have c1 : ¬ l i < k i := by omega
        have c2 : ¬ k i < l i := by omega
        clear bm bn d1 d2 c
        go_upto_region 4 with (fail)
        refine wp_region_mo' (by kernel_rfl) (by kernel_rfl) ?_
        repeat (go_big_quiet_step (fail))
        refine wpQuiet_nil ?_
        intro _ hw'
        obtain ⟨⟨J2, d2⟩, hw''⟩ := hw'
        subst hw''
        go_wp2_with fail
        go_upto_region 6 with (fail)
        refine wp_region_mo' (by kernel_rfl) (by kernel_rfl) ?_
        repeat (go_big_quiet_step (fail))
        refine wpQuiet_nil ?_
        intro _ hw'
        obtain ⟨⟨J2, d2⟩, hw''⟩ := hw'
        subst hw''
        go_wp2_with fail
        go_roundw
        case rel => exact ⟨i, _, by omega, rfl, by go_num, hz', _, _, rfl⟩
        case measure => simp [intOf]
      · have e := Lib.hid (show cmpI m n = 1 by
          have : n < m := lt_of_div P (by omega)
          rw [cmpI, if_neg (by omega), if_pos this])
        have c1 : ¬ l i < k i := by omega
        clear bm bn d1 d2
        go_upto_region 4 with (fail)
        refine wp_region_mo' (by kernel_rfl) (by kernel_rfl) ?_
        repeat (go_big_quiet_step (fail))
        refine wpQuiet_nil ?_
        intro _ hw'
        obtain ⟨⟨J2, d2⟩, hw''⟩ := hw'
        subst hw''
        go_wp2_with fail
        go_upto_region 6 with (fail)
        refine wp_region_mo' (by kernel_rfl) (by kernel_rfl) ?_
        repeat (go_big_quiet_step (fail))
        refine wpQuiet_nil ?_
        intro _ hw'
        obtain ⟨⟨J2, d2⟩, hw''⟩ := hw'
        subst hw''
        go_wp2_with fail
        go_ret
        exact ⟨by rw [e.out]; rfl, Mor.out⟩

set_option maxRecDepth 20000 in
theorem zer_lim {n : Int} (h0 : 0 ≤ n) (h1 : n < 65536 ^ 20) : zer (lim n) = decide (n = 0) := by
  by_cases c : n = 0
  · subst c; rw [decide_eq_true rfl]; exact (zer_iff _).2 fun i _ => by simp [lim]
  · rw [decide_eq_false c]
    rcases h : zer (lim n) with _ | _
    · rfl
    · exfalso
      have hz := (zer_iff _).1 h
      have : ∀ j : Nat, j ≤ 20 → n / 65536 ^ (20 - j) = 0 := by
        intro j
        induction j with
        | zero => intro _; exact pow_eq_0 h0 h1
        | succ j ih =>
          intro hj
          have e := div_step n (20 - (j + 1))
          rw [show 20 - (j + 1) + 1 = 20 - j by omega, ih (by omega), hz _ (by omega)] at e
          omega
      have := this 20 (by omega)
      simp at this
      exact c this
set_option maxRecDepth 20000 in
theorem rzero_any (b : Bool) (n : Int) (h0 : 0 ≤ n) (h1 : n < 65536 ^ 20) (w : World) :
    Calls Try.prog 96 #[NN b n] w fun e w' => e = .returned (.bool (decide (n = 0))) ∧ Mo w w' := by
  rw [← zer_lim h0 h1]; exact zero_any b (lim n) (fun i => (lim_bd n i).1) w
/-- the number that sign and size say -/
def val (b : Bool) (n : Int) : Int := if b then -n else n

set_option maxRecDepth 20000 in
set_option maxHeartbeats 400000 in
theorem rpower_any (n : Nat) (h : n ≤ 62) (w : World) : Calls Try.prog 89 #[.int .i64 n] w fun e w' => e = .returned (.int .u64 (2 ^ n)) ∧ Mo w w' := by
  go_enter Try.func89, Try.ntmps89
  go_wp2_with fail
  go_loop [3, 4] (fun p i => ∃ k : Nat, k ≤ n ∧ i = .int .i64 k ∧ p = .int .u64 (2 ^ k)) (fun _ i => n - (intOf i).toNat)
  case atStart => exact ⟨0, by omega, rfl, rfl⟩
  case round =>
    obtain ⟨k, hk, rfl, rfl⟩ := hrel
    by_cases c : k < n
    · have b1 : (2 : Int) ^ k ≤ 2 ^ 61 := by have := Nat.pow_le_pow_right (n := 2) (by decide) (show k ≤ 61 by omega); exact_mod_cast this
      have b0 : (0 : Int) < 2 ^ k := Int.pow_pos (by decide)
      have hp := Lib.hid (Int.pow_succ 2 k)
      generalize (2 : Int) ^ k = p at *
      have b2 : p ≤ 2305843009213693952 := b1
      clear b1
      go_wp2_with fail
      go_round
      case rel => exact ⟨k + 1, by omega, by go_num, by rw [hp.out, Int.mul_comm]⟩
      case measure => simp [intOf]; omega
    · obtain rfl : k = n := by omega
      go_wp2_with fail
      go_ret
      exact ⟨rfl, Mor.out⟩
end Go.Proofs.Ythgkhllkhhnlpaa
/- horologeref01: Cmp: what it returns, in integers. -/
namespace Go.Proofs.Ythgkhllkhhnlpaa
open Go.RowKit

set_option maxRecDepth 10000 in
set_option maxHeartbeats 1000000 in
theorem rcmp_any (b c : Bool) (m n : Int) (m0 : 0 ≤ m) (m1 : m < 65536 ^ 20) (n0 : 0 ≤ n) (n1 : n < 65536 ^ 20) (w : World) :
    Calls Try.prog 88 #[NN b m, NN c n] w fun e w' => e = .returned (.int .i64 (cmpI (val b m) (val c n))) ∧ Mo w w' := by
  have ZM := Lib.hid (fun w => rzero_any true m m0 m1 w)
  have ZN := Lib.hid (fun w => rzero_any true n n0 n1 w)
  have S0 := Lib.hid (fun w => rsize_any false false m n m0 m1 n0 n1 w)
  have S1 := Lib.hid (fun w => rsize_any false true m n m0 m1 n0 n1 w)
  have S2 := Lib.hid (fun w => rsize_any true false m n m0 m1 n0 n1 w)
  have S3 := Lib.hid (fun w => rsize_any true true n m n0 n1 m0 m1 w)
  have Hm := Lib.hid m0
  have Hn := Lib.hid n0
  clear m0 m1 n0 n1
  go_enter Try.func88, Try.ntmps88
  cases b <;> cases c
  · go_wp2_with fail
    refine (S0.out _).mono ?_
    rintro e w1 ⟨rfl, J, d, rfl⟩
    go_wp2_with fail
    go_ret
    exact ⟨rfl, Mor.out⟩
  · go_wp2_with fail
    refine (ZN.out _).mono ?_
    rintro e w1 ⟨rfl, J, d, rfl⟩
    by_cases z : n = 0
    · subst z
      go_wp2_with fail
      refine (S0.out _).mono ?_
      rintro e w1 ⟨rfl, J, d, rfl⟩
      go_wp2_with fail
      go_ret
      exact ⟨rfl, Mor.out⟩
    · have hz := decide_eq_false z
      rw [hz]
      have e := Lib.hid (show cmpI (val false m) (val true n) = 1 by
        have := Hm.out; have := Hn.out
        simp only [val, cmpI]; simp; omega)
      go_wp2_with fail
      go_ret
      exact ⟨by rw [e.out]; rfl, Mor.out⟩
  · go_wp2_with fail
    refine (ZM.out _).mono ?_
    rintro e w1 ⟨rfl, J, d, rfl⟩
    by_cases z : m = 0
    · subst z
      go_wp2_with fail
      refine (S0.out _).mono ?_
      rintro e w1 ⟨rfl, J, d, rfl⟩
      go_wp2_with fail
      go_ret
      exact ⟨rfl, Mor.out⟩
    · have hz := decide_eq_false z
      rw [hz]
      have e := Lib.hid (show cmpI (val true m) (val false n) = -1 by
        have := Hm.out; have := Hn.out
        simp only [val, cmpI]; simp; omega)
      go_wp2_with fail
      go_ret
      exact ⟨by rw [e.out]; rfl, Mor.out⟩
  · go_wp2_with fail
    refine (ZM.out _).mono ?_
    rintro e w1 ⟨rfl, J, d, rfl⟩
    by_cases z : m = 0
    · subst z
      go_wp2_with fail
      refine (ZN.out _).mono ?_
      rintro e w1 ⟨rfl, J, d, rfl⟩
      by_cases z : n = 0
      · subst z
        go_wp2_with fail
        refine (S0.out _).mono ?_
        rintro e w1 ⟨rfl, J, d, rfl⟩
        go_wp2_with fail
        go_ret
        exact ⟨rfl, Mor.out⟩
      · have hz := decide_eq_false z
        rw [hz]
        have e := Lib.hid (show cmpI (val true 0) (val true n) = 1 by
          have := Hn.out
          simp only [val, cmpI]; simp; omega)
        go_wp2_with fail
        go_ret
        exact ⟨by rw [e.out]; rfl, Mor.out⟩
    · have hz := decide_eq_false z
      rw [hz]
      go_wp2_with fail
      refine (ZN.out _).mono ?_
      rintro e w1 ⟨rfl, J, d, rfl⟩
      by_cases y : n = 0
      · subst y
        have e := Lib.hid (show cmpI (val true m) (val true 0) = -1 by
          have := Hm.out
          simp only [val, cmpI]; simp; omega)
        go_wp2_with fail
        go_ret
        exact ⟨by rw [e.out]; rfl, Mor.out⟩
      · have hy := decide_eq_false y
        rw [hy]
        have e := Lib.hid (show cmpI n m = cmpI (val true m) (val true n) by simp [val, cmpI])
        go_wp2_with fail
        refine (S3.out _).mono ?_
        rintro e w1 ⟨rfl, J, d, rfl⟩
        go_wp2_with fail
        go_ret
        exact ⟨by rw [← e.out]; rfl, Mor.out⟩
end Go.Proofs.Ythgkhllkhhnlpaa
/- Sums of pieces with a carry: plain laws. -/
namespace Go.Proofs.Ythgkhllkhhnlpaa
open Go.RowKit

/-- what the first k of any pieces say -/
def pre (s : Nat → Int) : Nat → Int
  | 0 => 0
  | k + 1 => pre s k + s k * 65536 ^ k
set_option maxRecDepth 20000 in
theorem pre_nonneg {s : Nat → Int} (h : ∀ i, 0 ≤ s i) (k : Nat) : 0 ≤ pre s k := by
  induction k with
  | zero => exact Int.le_refl _
  | succ k ih => have := Int.mul_nonneg (h k) (Int.le_of_lt (pow_pos' k)); unfold pre; omega
set_option maxRecDepth 20000 in
theorem pre_add (a b : Nat → Int) (k : Nat) : pre (fun i => a i + b i) k = pre a k + pre b k := by
  induction k with
  | zero => rfl
  | succ k ih => simp only [pre, ih, Int.add_mul]; omega
set_option maxRecDepth 20000 in
theorem pre_congr {a b : Nat → Int} (k : Nat) (h : ∀ i, i < k → a i = b i) : pre a k = pre b k := by
  induction k with
  | zero => rfl
  | succ k ih => simp only [pre]; rw [ih fun i hi => h i (by omega), h k (by omega)]
set_option maxRecDepth 20000 in
theorem pre_mul (c : Int) (a : Nat → Int) (k : Nat) : pre (fun i => c * a i) k = c * pre a k := by
  induction k with
  | zero => simp [pre]
  | succ k ih => simp only [pre, ih, Int.mul_add, Int.mul_assoc]
set_option maxRecDepth 20000 in
theorem pre_lim (n : Int) (k : Nat) : pre (lim n) k = n % 65536 ^ k := by
  induction k with
  | zero => simp [pre]
  | succ k ih =>
    simp only [pre, ih]
    rw [Int.emod_def, Int.emod_def, div_step n k, Int.pow_succ, Int.mul_add]
    have e1 : lim n k * 65536 ^ k = 65536 ^ k * lim n k := Int.mul_comm _ _
    have e2 : (65536 : Int) ^ k * (65536 * (n / (65536 ^ k * 65536))) = 65536 ^ k * 65536 * (n / (65536 ^ k * 65536)) := by rw [Int.mul_assoc]
    rw [e2, e1]
    generalize (65536 : Int) ^ k * 65536 * (n / (65536 ^ k * 65536)) = X
    generalize (65536 : Int) ^ k * lim n k = Y
    omega
set_option maxRecDepth 20000 in
theorem pre_lim_end {n : Int} (h0 : 0 ≤ n) {k : Nat} (h : n < 65536 ^ k) : pre (lim n) k = n := by rw [pre_lim, Int.emod_eq_of_lt h0 h]
set_option maxRecDepth 20000 in
theorem pre_div (s : Nat → Int) (k : Nat) : pre s (k + 1) / 65536 ^ k = s k + pre s k / 65536 ^ k := by
  show (pre s k + s k * 65536 ^ k) / 65536 ^ k = _
  rw [Int.add_mul_ediv_right _ _ (by have := pow_pos' k; omega)]; omega
set_option maxRecDepth 20000 in
theorem pre_here (s : Nat → Int) (k : Nat) : lim (pre s (k + 1)) k = (s k + pre s k / 65536 ^ k) % 65536 := by
  unfold lim; rw [pre_div]
set_option maxRecDepth 20000 in
theorem pre_up (s : Nat → Int) (k : Nat) : pre s (k + 1) / 65536 ^ (k + 1) = (s k + pre s k / 65536 ^ k) / 65536 := by
  rw [← div_pow_succ, pre_div]
set_option maxRecDepth 20000 in
theorem pre_low (s : Nat → Int) {t k : Nat} (h : t < k) : lim (pre s (k + 1)) t = lim (pre s k) t := by
  obtain ⟨j, rfl⟩ : ∃ j, k = t + 1 + j := ⟨k - (t + 1), by omega⟩
  show lim (pre s (t + 1 + j) + s (t + 1 + j) * 65536 ^ (t + 1 + j)) t = _
  unfold lim
  have e : s (t + 1 + j) * 65536 ^ (t + 1 + j) = (s (t + 1 + j) * 65536 ^ j * 65536) * 65536 ^ t := by
    rw [show t + 1 + j = j + 1 + t by omega, Int.pow_add, Int.pow_succ]; simp only [Int.mul_assoc]
  rw [e, Int.add_mul_ediv_right _ _ (by have := pow_pos' t; omega)]
  omega
/-- the pieces when the first k are carried: u are those that lie there still -/
def car (s u : Nat → Int) (k : Nat) : Nat → Int := fun t => if t < k then lim (pre s k) t else u t + if t = k then pre s k / 65536 ^ k else 0
set_option maxRecDepth 20000 in
theorem car_0 (s u : Nat → Int) : car s u 0 = u := by
  funext t; unfold car; rw [if_neg (by omega)]; split <;> simp [pre]
set_option maxRecDepth 20000 in
theorem car_here (s u : Nat → Int) (k : Nat) : car s u k k = u k + pre s k / 65536 ^ k := by
  unfold car; rw [if_neg (by omega), if_pos rfl]
set_option maxRecDepth 20000 in
theorem car_next (s u : Nat → Int) (k : Nat) : car s u k (k + 1) = u (k + 1) := by
  unfold car; rw [if_neg (by omega), if_neg (by omega)]; omega
set_option maxRecDepth 20000 in
theorem car_succ (s u : Nat → Int) (k : Nat) (x : Int) (hx : x = s k + pre s k / 65536 ^ k) :
    upd (upd (car s u k) (k + 1) (u (k + 1) + x / 65536)) k (x % 65536) = car s u (k + 1) := by
  funext t
  unfold upd car
  by_cases c : t = k
  · subst c; rw [if_pos rfl, if_pos (by omega), pre_here, hx]
  · rw [if_neg c]
    by_cases d : t = k + 1
    · subst d; rw [if_pos rfl, if_neg (by omega), if_pos rfl, pre_up, hx]
    · rw [if_neg d]
      by_cases f : t < k
      · rw [if_pos f, if_pos (by omega), pre_low s f]
      · rw [if_neg f, if_neg (by omega), if_neg (by omega), if_neg (by omega)]
set_option maxRecDepth 20000 in
theorem upd_upd (l : Nat → Int) (i j : Nat) (x y z : Int) (_ : i ≠ j) : upd (upd (upd l i x) j y) i z = upd (upd l j y) i z := by
  funext t
  unfold upd
  by_cases c : t = i
  · rw [if_pos c, if_pos c]
  · rw [if_neg c, if_neg c]
    by_cases d : t = j
    · rw [if_pos d, if_neg c]
    · rw [if_neg d, if_neg c]
set_option maxRecDepth 20000 in
theorem car_end (s u : Nat → Int) (hu : u 19 = s 19) (h0 : ∀ i, 0 ≤ s i) (h : pre s 20 < 65536 ^ 20) (b : Bool) : numC b (car s u 19) = numC b (lim (pre s 20)) :=
  numC_congr fun i hi => by
    by_cases c : i < 19
    · unfold car; rw [if_pos c, pre_low s c]
    · obtain rfl : i = 19 := by omega
      rw [car_here, hu, ← pre_div, lim, Int.emod_eq_of_lt]
      · exact Int.ediv_nonneg (pre_nonneg h0 20) (by decide)
      · exact Int.ediv_lt_of_lt_mul (by decide) (by simpa using h)
/-- the borrow at place k, and the pieces when the first k are those of the difference -/
def brw (m n : Int) (k : Nat) : Int := m / 65536 ^ k - n / 65536 ^ k - (m - n) / 65536 ^ k
set_option maxRecDepth 20000 in
theorem brw_0 (m n : Int) : brw m n 0 = 0 := by simp [brw]
set_option maxRecDepth 20000 in
theorem brw_bd (m n : Int) (k : Nat) : 0 ≤ brw m n k ∧ brw m n k ≤ 1 := by
  unfold brw
  have p := pow_pos' k
  generalize (65536 : Int) ^ k = P at *
  have a1 := Int.mul_ediv_add_emod m P
  have a2 := Int.mul_ediv_add_emod n P
  have a3 := Int.mul_ediv_add_emod (m - n) P
  have h1 := Int.emod_nonneg m (show P ≠ 0 by omega)
  have h2 := Int.emod_lt_of_pos m p
  have h3 := Int.emod_nonneg n (show P ≠ 0 by omega)
  have h4 := Int.emod_lt_of_pos n p
  have h5 := Int.emod_nonneg (m - n) (show P ≠ 0 by omega)
  have h6 := Int.emod_lt_of_pos (m - n) p
  have e : P * (m / P - n / P - (m - n) / P) = P * (m / P) - P * (n / P) - P * ((m - n) / P) := by rw [Int.mul_sub, Int.mul_sub]
  generalize m / P - n / P - (m - n) / P = z at *
  constructor
  · rcases Int.lt_or_le z 0 with c | c
    · have := Int.mul_le_mul_of_nonneg_left (show z ≤ -1 by omega) (show 0 ≤ P by omega); omega
    · exact c
  · rcases Int.lt_or_le 1 z with c | c
    · have := Int.mul_le_mul_of_nonneg_left (show 2 ≤ z by omega) (show 0 ≤ P by omega); omega
    · exact c
set_option maxRecDepth 20000 in
theorem brw_succ (m n : Int) (k : Nat) : lim m k - lim n k - brw m n k = lim (m - n) k - 65536 * brw m n (k + 1) := by
  have h1 := div_step m k
  have h2 := div_step n k
  have h3 := div_step (m - n) k
  unfold brw; omega
def dif (d : Int) (l : Nat → Int) (k : Nat) : Nat → Int := fun t => if t < k then lim d t else l t
set_option maxRecDepth 20000 in
theorem dif_0 (d : Int) (l : Nat → Int) : dif d l 0 = l := by funext t; simp [dif]
set_option maxRecDepth 20000 in
theorem dif_here (d : Int) (l : Nat → Int) (k : Nat) : dif d l k k = l k := by simp [dif]
set_option maxRecDepth 20000 in
theorem dif_succ (d : Int) (l : Nat → Int) (k : Nat) : upd (dif d l k) k (lim d k) = dif d l (k + 1) := by
  funext t
  unfold upd dif
  by_cases c : t = k
  · subst c; rw [if_pos rfl, if_pos (by omega)]
  · by_cases e : t < k
    · rw [if_neg c, if_pos e, if_pos (by omega)]
    · rw [if_neg c, if_neg e, if_neg (by omega)]
set_option maxRecDepth 20000 in
theorem dif_end (d : Int) (l : Nat → Int) (b : Bool) : numC b (dif d l 20) = numC b (lim d) := numC_congr fun i hi => by simp [dif, hi]
end Go.Proofs.Ythgkhllkhhnlpaa
/- horologeref01: Add: what it returns, in integers. -/
namespace Go.Proofs.Ythgkhllkhhnlpaa
open Go.RowKit

set_option maxRecDepth 20000 in
theorem upd_here (l : Nat → Int) (k : Nat) (x : Int) : upd l k x k = x := by simp [upd]
set_option maxRecDepth 20000 in
theorem upd_next (l : Nat → Int) (k : Nat) (x : Int) : upd l k x (k + 1) = l (k + 1) := by unfold upd; rw [if_neg (by omega)]
set_option maxRecDepth 20000 in
theorem upd_back (l : Nat → Int) (k : Nat) (x : Int) : upd l (k + 1) x k = l k := by unfold upd; rw [if_neg (by omega)]
attribute [go_sem] upd_here upd_next upd_back
set_option maxRecDepth 10000 in
set_option maxHeartbeats 1000000 in
theorem add_same (b : Bool) (m n : Int) (m0 : 0 ≤ m) (m1 : m < 65536 ^ 19) (n0 : 0 ≤ n) (n1 : n < 65536 ^ 19) (w : World) :
    Calls Try.prog 65 #[NN b m, NN b n] w fun e w' => e = .returned (NN b (m + n)) ∧ Mo w w' := by
  have bm := lim_bd m
  have bn := lim_bd n
  have HE : Hid (numC b (car (fun i => lim m i + lim n i) (lim m) 19) = numC b (lim (m + n))) := Lib.hid (by
    have e : pre (fun i => lim m i + lim n i) 20 = m + n := by
      have p : (65536 : Int) ^ 19 ≤ 65536 ^ 20 := by decide
      rw [pre_add, pre_lim_end m0 (by omega), pre_lim_end n0 (by omega)]
    rw [car_end, e]
    · have := lim_great (i := 19) n0 n1 (by omega)
      simp only [this]; omega
    · intro i; have := (bm i).1; have := (bn i).1; omega
    · have p : (65536 : Int) ^ 19 + 65536 ^ 19 ≤ 65536 ^ 20 := by decide
      rw [e]; omega)
  have CB : ∀ k, 0 ≤ pre (fun i => lim m i + lim n i) k / 65536 ^ k ∧ pre (fun i => lim m i + lim n i) k / 65536 ^ k ≤ 1 := by
    intro k
    rw [pre_add, pre_lim, pre_lim]
    have p := pow_pos' k
    have h1 := Int.emod_nonneg m (show (65536 : Int) ^ k ≠ 0 by omega)
    have h2 := Int.emod_lt_of_pos m p
    have h3 := Int.emod_nonneg n (show (65536 : Int) ^ k ≠ 0 by omega)
    have h4 := Int.emod_lt_of_pos n p
    generalize (65536 : Int) ^ k = P at *
    constructor
    · exact Int.ediv_nonneg (by omega) (by omega)
    · have := Int.ediv_lt_of_lt_mul p (show m % P + n % P < 2 * P by omega); omega
  generalize hs : (fun i => lim m i + lim n i) = s at *
  have Hs : ∀ k, s k = lim m k + lim n k := fun k => by rw [← hs]
  unfold NN
  generalize hl : lim m = l at *
  generalize hk : lim n = q at *
  generalize lim (m + n) = r at *
  clear hs hl hk m0 m1 n0 n1
  go_enter Try.func65, Try.ntmps65
  go_wp2_with fail
  go_loopw [5] (fun i wr => ∃ (k : Nat), k ≤ 19 ∧ i = .int .i64 k ∧ ∃ d, wr = (((w.alloc (.cells (numC b (car s l k)) 156)).alloc (.cells (numC b q) 156)).alloc (.cells (numC false (fun _ => 0)) 156)).drewN d) (fun i _ => 19 - (intOf i).toNat)
  case atStart => exact ⟨0, by omega, rfl, 0, by rw [car_0]; rfl⟩
  case round =>
    obtain ⟨k, hk, rfl, d, rfl⟩ := hrel
    by_cases c : k < 19
    · have c20 : k < 20 := by omega
      have c21 : k + 1 < 20 := by omega
      have C := Lib.hid (car_succ s l k)
      have C1 := Lib.hid (car_here s l k)
      have C2 := Lib.hid (car_next s l k)
      have b1 := bm k
      have b2 := bn k
      have b3 := bm (k + 1)
      have b4 := CB k
      have b5 := Hs k
      clear HE bm bn CB Hs
      generalize car s l k = L at *
      generalize pre s k / 65536 ^ k = p at *
      have b6 := C1.out
      have b7 := C2.out
      have C' := Lib.hid (C.out (l k + p + q k) (by omega))
      have C3 := Lib.hid (fun y z u => upd_upd L k (k + 1) y z u (by omega))
      clear C C1 C2 b5
      go_upto_region 5 with (fail)
      go_region
      go_upto_region 6 with (fail)
      go_region
      go_wp2_with fail
      go_roundw
      case rel => exact ⟨k + 1, by omega, by go_num, _, by rw [C3.out, C'.out]⟩
      case measure => simp [intOf]; omega
    · obtain rfl : k = 19 := by omega
      rw [HE.out]
      clear bm bn CB Hs HE
      go_wp2_with fail
      exact ret_num (w.heap.size + 2) 156 (numC b r) Try.results65 rfl rfl ⟨rfl, Mor.out⟩

set_option maxRecDepth 10000 in
set_option maxHeartbeats 1000000 in
theorem add_lt (b c : Bool) (hb : (b == c) = false) (m n : Int) (m0 : 0 ≤ m) (m1 : m < 65536 ^ 20) (n0 : 0 ≤ n) (n1 : n < 65536 ^ 20) (z : m < n) (w : World) :
    Calls Try.prog 65 #[NN b m, NN c n] w fun e w' => e = .returned (NN c (n - m)) ∧ Mo w w' := by
  have S := Lib.hid (fun w => rsize_any b c m n m0 m1 n0 n1 w)
  have e1 : cmpI m n < 0 := by rw [cmpI, if_pos z]; decide
  generalize cmpI m n = o at *
  clear z m0 m1 n0 n1
  go_enter Try.func65, Try.ntmps65
  go_wp2_with fail
  refine (S.out _).mono ?_
  rintro e w1 ⟨rfl, J, d, rfl⟩
  clear S
  go_wp2_with fail
  have bm := lim_bd n
  have bn := lim_bd m
  have B := brw_bd n m
  have BS := brw_succ n m
  have HD := Lib.hid (dif_succ (n - m) (lim n))
  have HH := Lib.hid (dif_here (n - m) (lim n))
  have HE := Lib.hid (dif_end (n - m) (lim n) c)
  have bd := lim_bd (n - m)
  go_loopw [6, 7, 8] (fun o i _ wr => ∃ (k : Nat), k ≤ 20 ∧ i = .int .i64 k ∧ o = .int .u64 (brw n m k) ∧ ∃ J d, wr = more (((w.alloc (.cells (numC c (dif (n - m) (lim n) k)) 156)).alloc (.cells (numC b (lim m)) 156)).alloc (.cells (numC false (fun _ => 0)) 156)) J d) (fun _ i _ _ => 20 - (intOf i).toNat)
  case atStart => exact ⟨0, by omega, rfl, by rw [brw_0], by rw [dif_0]; exact Mor.out⟩
  case round =>
    obtain ⟨k, hk, rfl, rfl, J, d, rfl⟩ := hrel
    by_cases cc : k < 20
    · have b1 := bm k
      have b2 := bn k
      have b3 := bd k
      have b4 := B k
      have b6 := BS k
      have b7 := B (k + 1)
      have H1 := Lib.hid (HD.out k)
      have H2 := Lib.hid (HH.out k)
      clear bm bn bd B BS HD HH HE
      generalize dif (n - m) (lim n) k = L at *
      generalize hx : lim n k = x at *
      generalize hy : lim m k = y at *
      generalize brw n m k = o at *
      generalize hp : brw n m (k + 1) = o2 at *
      have b8 := H2.out
      have b9 : (x + 65536 - y - o) % 65536 = lim (n - m) k := by omega
      have b10 := Lib.hid (show 1 - (x + 65536 - y - o) / 65536 = o2 by omega)
      have b11 : (x + 65536 - y - o) / 65536 ≤ 1 := by omega
      have hy' := Lib.hid hy
      have hp' := Lib.hid hp
      clear b6 b7 b3 H2 hx hp
      go_upto_region 15 with (fail)
      refine wp_region_mo' (by kernel_rfl) (by kernel_rfl) ?_
      repeat (go_big_quiet_step (fail))
      refine wpQuiet_nil ?_
      intro _ hw'
      obtain ⟨⟨J2, d2⟩, hw''⟩ := hw'
      subst hw''
      go_wp2_with fail
      go_roundw
      case rel => exact ⟨k + 1, by omega, by go_num, by rw [hp'.out, ← b10.out], _, _, by rw [← H1.out]⟩
      case measure => simp [intOf]; omega
    · obtain rfl : k = 20 := by omega
      rw [HE.out]
      clear bm bn bd B BS HD HH HE
      go_wp2_with fail
      exact ret_num (w.heap.size + 2) 156 (numC c (lim (n - m))) Try.results65 rfl rfl ⟨rfl, Mor.out⟩

set_option maxRecDepth 10000 in
set_option maxHeartbeats 1000000 in
theorem add_ge (b c : Bool) (hb : (b == c) = false) (m n : Int) (m0 : 0 ≤ m) (m1 : m < 65536 ^ 20) (n0 : 0 ≤ n) (n1 : n < 65536 ^ 20) (z : ¬ m < n) (w : World) :
    Calls Try.prog 65 #[NN b m, NN c n] w fun e w' => e = .returned (NN b (m - n)) ∧ Mo w w' := by
  have S := Lib.hid (fun w => rsize_any b c m n m0 m1 n0 n1 w)
  have e1 : ¬ cmpI m n < 0 := by unfold cmpI; rw [if_neg z]; split <;> omega
  generalize cmpI m n = o at *
  clear z m0 m1 n0 n1
  go_enter Try.func65, Try.ntmps65
  go_wp2_with fail
  refine (S.out _).mono ?_
  rintro e w1 ⟨rfl, J, d, rfl⟩
  clear S
  go_wp2_with fail
  have bm := lim_bd m
  have bn := lim_bd n
  have B := brw_bd m n
  have BS := brw_succ m n
  have HD := Lib.hid (dif_succ (m - n) (lim m))
  have HH := Lib.hid (dif_here (m - n) (lim m))
  have HE := Lib.hid (dif_end (m - n) (lim m) b)
  have bd := lim_bd (m - n)
  go_loopw [6, 7, 8] (fun o i _ wr => ∃ (k : Nat), k ≤ 20 ∧ i = .int .i64 k ∧ o = .int .u64 (brw m n k) ∧ ∃ J d, wr = more (((w.alloc (.cells (numC b (dif (m - n) (lim m) k)) 156)).alloc (.cells (numC c (lim n)) 156)).alloc (.cells (numC false (fun _ => 0)) 156)) J d) (fun _ i _ _ => 20 - (intOf i).toNat)
  case atStart => exact ⟨0, by omega, rfl, by rw [brw_0], by rw [dif_0]; exact Mor.out⟩
  case round =>
    obtain ⟨k, hk, rfl, rfl, J, d, rfl⟩ := hrel
    by_cases cc : k < 20
    · have b1 := bm k
      have b2 := bn k
      have b3 := bd k
      have b4 := B k
      have b6 := BS k
      have b7 := B (k + 1)
      have H1 := Lib.hid (HD.out k)
      have H2 := Lib.hid (HH.out k)
      clear bm bn bd B BS HD HH HE
      generalize dif (m - n) (lim m) k = L at *
      generalize hx : lim m k = x at *
      generalize hy : lim n k = y at *
      generalize brw m n k = o at *
      generalize hp : brw m n (k + 1) = o2 at *
      have b8 := H2.out
      have b9 : (x + 65536 - y - o) % 65536 = lim (m - n) k := by omega
      have b10 := Lib.hid (show 1 - (x + 65536 - y - o) / 65536 = o2 by omega)
      have b11 : (x + 65536 - y - o) / 65536 ≤ 1 := by omega
      have hy' := Lib.hid hy
      have hp' := Lib.hid hp
      clear b6 b7 b3 H2 hx hp
      go_upto_region 15 with (fail)
      refine wp_region_mo' (by kernel_rfl) (by kernel_rfl) ?_
      repeat (go_big_quiet_step (fail))
      refine wpQuiet_nil ?_
      intro _ hw'
      obtain ⟨⟨J2, d2⟩, hw''⟩ := hw'
      subst hw''
      go_wp2_with fail
      go_roundw
      case rel => exact ⟨k + 1, by omega, by go_num, by rw [hp'.out, ← b10.out], _, _, by rw [← H1.out]⟩
      case measure => simp [intOf]; omega
    · obtain rfl : k = 20 := by omega
      rw [HE.out]
      clear bm bn bd B BS HD HH HE
      go_wp2_with fail
      exact ret_num (w.heap.size + 2) 156 (numC b (lim (m - n))) Try.results65 rfl rfl ⟨rfl, Mor.out⟩

/-- the sign fits the number (nought may have either) -/
def Sg (b : Bool) (x : Int) : Prop := (x < 0 → b = true) ∧ (0 < x → b = false)
set_option maxRecDepth 20000 in
theorem Sg.val {b : Bool} {x : Int} (h : Sg b x) : val b (absI x) = x := by
  obtain ⟨h1, h2⟩ := h
  unfold Go.Proofs.Ythgkhllkhhnlpaa.val absI
  cases b
  · have : ¬ x < 0 := fun c => by have := h1 c; cases this
    simp [this]
  · have : ¬ 0 < x := fun c => by have := h2 c; cases this
    by_cases c : x < 0
    · simp [c]
    · simp [c]; omega
set_option maxRecDepth 20000 in
theorem Sg.dec (x : Int) : Sg (decide (x < 0)) x := ⟨fun h => decide_eq_true h, fun h => decide_eq_false (by omega)⟩
set_option maxRecDepth 20000 in
theorem Sg.pos {x : Int} (h : 0 ≤ x) : Sg false x := ⟨fun c => by omega, fun _ => rfl⟩
set_option maxRecDepth 20000 in
theorem Sg.neg {b : Bool} {x : Int} (h : Sg b x) : Sg (!b) (-x) := ⟨fun c => by rw [h.2 (by omega)]; rfl, fun c => by rw [h.1 (by omega)]; rfl⟩
set_option maxRecDepth 20000 in
theorem absI_nonneg (x : Int) : 0 ≤ absI x := by unfold absI; split <;> omega
set_option maxRecDepth 20000 in
theorem absI_lt {x P : Int} (h1 : -P < x) (h2 : x < P) : absI x < P := by unfold absI; split <;> omega
set_option maxRecDepth 20000 in
theorem absI_neg (x : Int) : absI (-x) = absI x := by unfold absI; split <;> split <;> omega
set_option maxRecDepth 20000 in
theorem absI_pos {x : Int} (h : 0 ≤ x) : absI x = x := by unfold absI; split <;> omega

/-- the sign that a sum gets -/
def addS (b c : Bool) (x y : Int) : Bool := if b = c then b else if absI x < absI y then c else b
set_option maxRecDepth 20000 in
theorem addS_sg {b c : Bool} {x y : Int} (hx : Sg b x) (hy : Sg c y) : Sg (addS b c x y) (x + y) := by
  have vx := hx.val
  have vy := hy.val
  unfold addS
  by_cases e : b = c
  · subst e
    rw [if_pos rfl]
    refine ⟨fun k => ?_, fun k => ?_⟩ <;> cases b <;> simp [Go.Proofs.Ythgkhllkhhnlpaa.val] at vx vy ⊢ <;> unfold absI at * <;> split at vx <;> split at vy <;> omega
  · rw [if_neg e]
    by_cases z : absI x < absI y
    · rw [if_pos z]
      refine ⟨fun k => ?_, fun k => ?_⟩ <;> cases b <;> cases c <;> simp [Go.Proofs.Ythgkhllkhhnlpaa.val] at vx vy e ⊢ <;> unfold absI at * <;> split at vx <;> split at vy <;> omega
    · rw [if_neg z]
      refine ⟨fun k => ?_, fun k => ?_⟩ <;> cases b <;> cases c <;> simp [Go.Proofs.Ythgkhllkhhnlpaa.val] at vx vy e ⊢ <;> unfold absI at * <;> split at vx <;> split at vy <;> omega
set_option maxRecDepth 20000 in
theorem radd_any (b c : Bool) (x y : Int) (hx : Sg b x) (hy : Sg c y) (x1 : absI x < 65536 ^ 19) (y1 : absI y < 65536 ^ 19) (w : World) :
    Calls Try.prog 65 #[NN b (absI x), NN c (absI y)] w fun e w' => e = .returned (NN (addS b c x y) (absI (x + y))) ∧ Mo w w' := by
  have p : (65536 : Int) ^ 19 ≤ 65536 ^ 20 := by decide
  have x0 := absI_nonneg x
  have y0 := absI_nonneg y
  have vx := hx.val
  have vy := hy.val
  unfold addS
  by_cases e : b = c
  · subst e
    have a1 : absI (x + y) = absI x + absI y := by
      cases b <;> simp [Go.Proofs.Ythgkhllkhhnlpaa.val] at vx vy <;> unfold absI at * <;> split <;> split <;> split <;> omega
    rw [a1, if_pos rfl]
    exact add_same b _ _ x0 x1 y0 y1 w
  · have e' : (b == c) = false := by simpa using e
    rw [if_neg e]
    by_cases z : absI x < absI y
    · have a1 : absI (x + y) = absI y - absI x := by
        cases b <;> cases c <;> simp [Go.Proofs.Ythgkhllkhhnlpaa.val] at vx vy e <;> unfold absI at * <;> split <;> split <;> split <;> omega
      rw [a1, if_pos z]
      exact add_lt b c e' _ _ x0 (by omega) y0 (by omega) z w
    · have a1 : absI (x + y) = absI x - absI y := by
        cases b <;> cases c <;> simp [Go.Proofs.Ythgkhllkhhnlpaa.val] at vx vy e <;> unfold absI at * <;> split <;> split <;> split <;> omega
      rw [a1, if_neg z]
      exact add_ge b c e' _ _ x0 (by omega) y0 (by omega) z w
set_option maxRecDepth 20000 in
theorem rcmp_sg (b c : Bool) (x y : Int) (hx : Sg b x) (hy : Sg c y) (x1 : absI x < 65536 ^ 20) (y1 : absI y < 65536 ^ 20) (w : World) :
    Calls Try.prog 88 #[NN b (absI x), NN c (absI y)] w fun e w' => e = .returned (.int .i64 (cmpI x y)) ∧ Mo w w' := by
  have := rcmp_any b c _ _ (absI_nonneg x) x1 (absI_nonneg y) y1 w
  rwa [hx.val, hy.val] at this
end Go.Proofs.Ythgkhllkhhnlpaa
/- horologeref01: Mul: what it returns, in integers. -/
namespace Go.Proofs.Ythgkhllkhhnlpaa
open Go.RowKit

/-- pieces put i places up, a times as great -/
def shl (a : Int) (i : Nat) (l : Nat → Int) : Nat → Int := fun t => if i ≤ t then a * l (t - i) else 0
set_option maxRecDepth 20000 in
theorem pre_shl0 (a : Int) (i : Nat) (l : Nat → Int) (k : Nat) (h : k ≤ i) : pre (shl a i l) k = 0 := by
  induction k with
  | zero => rfl
  | succ k ih => simp only [pre, ih (by omega), shl]; rw [if_neg (by omega)]; omega
set_option maxRecDepth 20000 in
theorem pre_shl (a : Int) (i : Nat) (l : Nat → Int) (j : Nat) : pre (shl a i l) (i + j) = a * 65536 ^ i * pre l j := by
  induction j with
  | zero => simp only [Nat.add_zero, pre_shl0 a i l i (Nat.le_refl _), pre]; omega
  | succ j ih =>
    show pre (shl a i l) (i + j) + shl a i l (i + j) * 65536 ^ (i + j) = _
    rw [ih, shl, if_pos (by omega), show i + j - i = j by omega, Int.pow_add]
    simp only [pre, Int.mul_add]
    have : a * l j * (65536 ^ i * 65536 ^ j) = a * 65536 ^ i * (l j * 65536 ^ j) := by
      simp only [Int.mul_assoc, Int.mul_left_comm]
    omega
/-- the pieces of a row of products when j of them are put in -/
def row (T : Int) (a : Int) (i : Nat) (l : Nat → Int) (j : Nat) : Nat → Int := fun t => lim T t + if i ≤ t ∧ t < i + j then a * l (t - i) else 0
set_option maxRecDepth 20000 in
theorem row_0 (T a : Int) (i : Nat) (l : Nat → Int) : row T a i l 0 = lim T := by funext t; unfold row; rw [if_neg (by omega)]; omega
set_option maxRecDepth 20000 in
theorem row_here (T a : Int) (i : Nat) (l : Nat → Int) (j : Nat) : row T a i l j (i + j) = lim T (i + j) := by unfold row; rw [if_neg (by omega)]; omega
set_option maxRecDepth 20000 in
theorem row_succ (T a : Int) (i : Nat) (l : Nat → Int) (j : Nat) : upd (row T a i l j) (i + j) (lim T (i + j) + a * l j) = row T a i l (j + 1) := by
  funext t
  unfold upd row
  by_cases c : t = i + j
  · subst c; rw [if_pos rfl, if_pos (by omega), show i + j - i = j by omega]
  · rw [if_neg c]
    by_cases d : i ≤ t ∧ t < i + j
    · rw [if_pos d, if_pos (by omega)]
    · rw [if_neg d, if_neg (by omega)]
/-- the row when all are in -/
def full (T a : Int) (i : Nat) (l : Nat → Int) : Nat → Int := fun t => lim T t + shl a i l t
set_option maxRecDepth 20000 in
theorem row_end (T a : Int) (i : Nat) (l : Nat → Int) (b : Bool) (h : i ≤ 20) : numC b (row T a i l (20 - i)) = numC b (full T a i l) :=
  numC_congr fun t ht => by
    unfold row full shl
    by_cases c : i ≤ t
    · rw [if_pos (by omega), if_pos c]
    · rw [if_neg (by omega), if_neg c]
set_option maxRecDepth 20000 in
theorem full_bd (T a : Int) (i : Nat) (l : Nat → Int) (a0 : 0 ≤ a) (a1 : a < 65536) (hl : ∀ t, 0 ≤ l t ∧ l t < 65536) (t : Nat) : 0 ≤ full T a i l t ∧ full T a i l t ≤ 4294967295 := by
  have h1 := lim_bd T t
  unfold full shl
  split
  · have h2 := hl (t - i)
    have h3 := Int.mul_nonneg a0 h2.1
    have h4 := Int.mul_le_mul (show a ≤ 65535 by omega) (show l (t - i) ≤ 65535 by omega) h2.1 (by decide)
    omega
  · omega
set_option maxRecDepth 20000 in
theorem pre_bd {s : Nat → Int} (h : ∀ t, 0 ≤ s t ∧ s t ≤ 4294967295) (k : Nat) : 0 ≤ pre s k / 65536 ^ k ∧ pre s k / 65536 ^ k ≤ 65538 := by
  induction k with
  | zero => simp [pre]
  | succ k ih => rw [pre_up]; have := h k; omega
set_option maxRecDepth 20000 in
theorem full_pre (m n : Int) (i : Nat) (m0 : 0 ≤ m) (n0 : 0 ≤ n) (h : m * n < 65536 ^ 20) (hi : i < 20) :
    pre (full (m % 65536 ^ i * n) (lim m i) i (lim n)) 20 = m % 65536 ^ (i + 1) * n ∧ m % 65536 ^ (i + 1) * n < 65536 ^ 20 := by
  have P := pow_pos' i
  have hm : ∀ j : Nat, m % 65536 ^ j * n < 65536 ^ 20 := fun j => by
    have h1 : m % 65536 ^ j ≤ m := by
      have := Int.mul_ediv_add_emod m (65536 ^ j)
      have := Int.mul_nonneg (Int.le_of_lt (pow_pos' j)) (Int.ediv_nonneg m0 (Int.le_of_lt (pow_pos' j)))
      omega
    have := Int.mul_le_mul_of_nonneg_right h1 n0
    omega
  have e : m % 65536 ^ (i + 1) = m % 65536 ^ i + lim m i * 65536 ^ i := by
    have h1 := pre_lim m (i + 1)
    have h2 := pre_lim m i
    simp only [pre] at h1
    omega
  refine ⟨?_, hm _⟩
  have q : pre (full (m % 65536 ^ i * n) (lim m i) i (lim n)) 20 = pre (lim (m % 65536 ^ i * n)) 20 + pre (shl (lim m i) i (lim n)) 20 := pre_add _ _ 20
  rw [q, pre_lim_end (Int.mul_nonneg (Int.emod_nonneg _ (by omega)) n0) (hm i)]
  have q2 := pre_shl (lim m i) i (lim n) (20 - i)
  rw [show i + (20 - i) = 20 by omega] at q2
  rw [q2, pre_lim, e, Int.add_mul]
  congr 1
  by_cases c : lim m i = 0
  · rw [c]; simp
  · have h1 := lim_bd m i
    have h2 : 65536 ^ i ≤ m := by
      rcases Int.lt_or_le m (65536 ^ i) with d | d
      · exfalso; apply c; unfold lim; rw [Int.ediv_eq_zero_of_lt m0 d]; rfl
      · exact d
    have h3 := Int.mul_le_mul_of_nonneg_right h2 n0
    have h4 : (65536 : Int) ^ 20 = 65536 ^ i * 65536 ^ (20 - i) := by rw [← Int.pow_add, show i + (20 - i) = 20 by omega]
    have h5 : n < 65536 ^ (20 - i) := by
      rcases Int.lt_or_le n (65536 ^ (20 - i)) with d | d
      · exact d
      · have := Int.mul_le_mul_of_nonneg_left d (Int.le_of_lt P); omega
    rw [Int.emod_eq_of_lt n0 h5]
end Go.Proofs.Ythgkhllkhhnlpaa
/- horologeref01: Mul, walked. -/
namespace Go.Proofs.Ythgkhllkhhnlpaa
open Go.RowKit

set_option maxRecDepth 20000 in
theorem lim_0 : lim 0 = fun _ => 0 := by funext i; simp [lim]

set_option maxRecDepth 20000 in
set_option maxHeartbeats 2000000 in
theorem rmul_any (b c : Bool) (m n : Int) (m0 : 0 ≤ m) (m1 : m < 65536 ^ 20) (n0 : 0 ≤ n) (hmn : m * n < 65536 ^ 20) (w : World) :
    Calls Try.prog 69 #[NN b m, NN c n] w fun e w' => e = .returned (NN (b != c) (m * n)) ∧ Mo w w' := by
  have FP := Lib.hid (fun i => full_pre m n i m0 n0 hmn)
  have bm := lim_bd m
  have bn := lim_bd n
  have HE : Hid (m % 65536 ^ 20 * n = m * n) := Lib.hid (by rw [Int.emod_eq_of_lt m0 m1])
  unfold NN
  generalize hl : lim m = l at *
  generalize hk : lim n = q at *
  clear hl hk m0 m1 n0 hmn
  go_enter Try.func69, Try.ntmps69
  go_wp2_with fail
  go_loopw [6, 7, 8] (fun i _ _ wr => ∃ (k : Nat), k ≤ 20 ∧ i = .int .i64 k ∧ ∃ d, wr = ((((w.alloc (.cells (numC b l) 156)).alloc (.cells (numC c q) 156)).alloc (.cells (numC false (fun _ => 0)) 156)).alloc (.cells (numC (b != c) (lim (m % 65536 ^ k * n))) 156)).drewN d) (fun i _ _ _ => 20 - (intOf i).toNat)
  case atStart => exact ⟨0, by omega, rfl, 0, by rw [show m % 65536 ^ 0 * n = 0 by simp [Int.emod_one], lim_0]; rfl⟩
  case round =>
    obtain ⟨i, hk, rfl, d, rfl⟩ := hrel
    by_cases cc : i < 20
    · have FI := Lib.hid (FP.out i)
      have b1 := bm i
      clear FP HE bm
      generalize m % 65536 ^ i * n = T at *
      generalize hT0 : m % 65536 ^ (i + 1) * n = T' at *
      have hT := Lib.hid hT0
      clear hT0
      generalize hli : l i = a at *
      go_wp2_with fail
      go_loopw [7] (fun x wr => ∃ (j : Nat), j ≤ 20 - i ∧ x = .int .i64 j ∧ ∃ d, wr = ((((w.alloc (.cells (numC b l) 156)).alloc (.cells (numC c q) 156)).alloc (.cells (numC false (fun _ => 0)) 156)).alloc (.cells (numC (b != c) (row T a i q j)) 156)).drewN d) (fun x _ => 20 - (intOf x).toNat)
      case atStart => exact ⟨0, by omega, rfl, d, by rw [row_0]⟩
      case round =>
        clear d
        obtain ⟨j, hj, rfl, d, rfl⟩ := hrel
        by_cases ce : i + j < 20
        · have c20 : j < 20 := by omega
          have c21 : ((i : Int) + (j : Int)) < 20 := by omega
          have H1 := Lib.hid (row_succ T a i q j)
          have H2 := Lib.hid (row_here T a i q j)
          have b2 := bn j
          have b3 := lim_bd T (i + j)
          have b4 := Int.mul_nonneg b1.1 b2.1
          have b5 := Int.mul_le_mul (show a ≤ 65535 by omega) (show q j ≤ 65535 by omega) b2.1 (by decide)
          clear bn FI
          generalize row T a i q j = L at *
          generalize lim T (i + j) = y at *
          have b6 := H2.out
          clear H2
          go_upto_region 8 with (fail)
          go_region
          go_wp2_with fail
          go_roundw
          case rel => exact ⟨j + 1, by omega, by go_num, _, by rw [H1.out]⟩
          case measure => simp [intOf]; omega
        · obtain rfl : j = 20 - i := by omega
          have c21 : ¬ ((i : Int) + ((20 - i : Nat) : Int)) < 20 := by omega
          have z1 : 0 ≤ ((20 - i : Nat) : Int) := by omega
          have z2 : ((20 - i : Nat) : Int) ≤ 20 := by omega
          have FB := full_bd T a i q b1.1 b1.2 bn
          have CB := pre_bd FB
          have CE := Lib.hid (car_end (full T a i q) (full T a i q) rfl (fun t => (FB t).1) (by rw [(FI.out cc).1]; exact (FI.out cc).2) (b != c))
          rw [(FI.out cc).1] at CE
          rw [row_end T a i q (b != c) hk]
          clear bn FI b1 hli
          generalize full T a i q = s at *
          generalize ((20 - i : Nat) : Int) = z at *
          go_wp2_with fail
          go_loopw [8] (fun x wr => ∃ (k : Nat), k ≤ 19 ∧ x = .int .i64 k ∧ ∃ d, wr = ((((w.alloc (.cells (numC b l) 156)).alloc (.cells (numC c q) 156)).alloc (.cells (numC false (fun _ => 0)) 156)).alloc (.cells (numC (b != c) (car s s k)) 156)).drewN d) (fun x _ => 19 - (intOf x).toNat)
          case atStart => exact ⟨0, by omega, rfl, d, by rw [car_0]⟩
          case round =>
            clear d
            obtain ⟨k, hk, rfl, d, rfl⟩ := hrel
            by_cases cg : k < 19
            · have c20 : k < 20 := by omega
              have c21 : k + 1 < 20 := by omega
              have C := Lib.hid (car_succ s s k)
              have C1 := Lib.hid (car_here s s k)
              have C2 := Lib.hid (car_next s s k)
              have b1 := FB k
              have b3 := FB (k + 1)
              have b4 := CB k
              clear CE FB CB
              generalize car s s k = L at *
              generalize pre s k / 65536 ^ k = p at *
              have b6 := C1.out
              have b7 := C2.out
              have C' := Lib.hid (C.out (s k + p) rfl)
              clear C C1 C2
              go_upto_region 12 with (fail)
              go_region
              go_wp2_with fail
              go_roundw
              case rel => exact ⟨k + 1, by omega, by go_num, _, by rw [C'.out]⟩
              case measure => simp [intOf]; omega
            · obtain rfl : k = 19 := by omega
              rw [CE.out]
              clear CE FB CB
              go_wp2_with fail
              go_roundw
              case rel => exact ⟨i + 1, by omega, by go_num, _, by rw [hT.out]⟩
              case measure => simp [intOf]; omega
    · obtain rfl : i = 20 := by omega
      rw [HE.out]
      clear bm bn FP HE
      go_wp2_with fail
      exact ret_num (w.heap.size + 2) 156 (numC (b != c) (lim (m * n))) Try.results69 rfl rfl ⟨rfl, Mor.out⟩

set_option maxRecDepth 20000 in
theorem Sg.mul {b c : Bool} {x y : Int} (hx : Sg b x) (hy : Sg c y) : Sg (b != c) (x * y) := by
  have P : ∀ u v : Int, 0 < u → 0 < v → 0 < u * v := fun u v hu hv => Int.mul_pos hu hv
  rcases Int.lt_trichotomy x 0 with h | h | h <;> rcases Int.lt_trichotomy y 0 with k | k | k
  · have := P (-x) (-y) (by omega) (by omega)
    rw [Int.neg_mul_neg] at this
    rw [hx.1 h, hy.1 k]; exact ⟨fun _ => by omega, fun _ => rfl⟩
  · subst k; exact ⟨fun c => by simp at c, fun c => by simp at c⟩
  · have := P (-x) y (by omega) k
    rw [Int.neg_mul] at this
    rw [hx.1 h, hy.2 k]; exact ⟨fun _ => rfl, fun _ => by omega⟩
  · subst h; exact ⟨fun c => by simp at c, fun c => by simp at c⟩
  · subst h; exact ⟨fun c => by simp at c, fun c => by simp at c⟩
  · subst h; exact ⟨fun c => by simp at c, fun c => by simp at c⟩
  · have := P x (-y) h (by omega)
    rw [Int.mul_neg] at this
    rw [hx.2 h, hy.1 k]; exact ⟨fun _ => rfl, fun _ => by omega⟩
  · subst k; exact ⟨fun c => by simp at c, fun c => by simp at c⟩
  · have := P x y h k
    rw [hx.2 h, hy.2 k]; exact ⟨fun _ => by omega, fun _ => rfl⟩
set_option maxRecDepth 20000 in
theorem absI_mul (x y : Int) : absI (x * y) = absI x * absI y := by
  have e : ∀ z : Int, absI z = z.natAbs := fun z => by unfold absI; split <;> omega
  rw [e, e, e, Int.natAbs_mul]; exact Int.natCast_mul _ _
set_option maxRecDepth 20000 in
theorem rmul_sg (b c : Bool) (x y : Int) (x1 : absI x < 65536 ^ 20) (h : absI x * absI y < 65536 ^ 20) (w : World) :
    Calls Try.prog 69 #[NN b (absI x), NN c (absI y)] w fun e w' => e = .returned (NN (b != c) (absI (x * y))) ∧ Mo w w' := by
  rw [absI_mul]
  exact rmul_any b c _ _ (absI_nonneg x) x1 (absI_nonneg y) h w
end Go.Proofs.Ythgkhllkhhnlpaa
/- horologeref01: Floor: what it returns, in integers. -/
namespace Go.Proofs.Ythgkhllkhhnlpaa
open Go.RowKit

set_option maxRecDepth 20000 in
set_option maxHeartbeats 2000000 in
theorem rfloor_pos (A n : Int) (h0 : 0 ≤ A) (h1 : A < 2 ^ 130) (n1 : 1 ≤ n) (n2 : n < 18446744073709551616) (w : World) :
    Calls Try.prog 68 #[NN false A, NN false n] w fun e w' => e = .returned (NN false (A / n)) ∧ Mo w w' := by
  have M : Hid (∀ Q : Int, 0 < Q → Q < 2 ^ 131 → ∀ w, Calls Try.prog 69 #[NN false Q, NN false n] w fun e w' => e = .returned (NN false (Q * n)) ∧ Mo w w') := Lib.hid (fun Q q0 q1 w => by
    have : Q * n ≤ 2 ^ 131 * 18446744073709551616 := Int.mul_le_mul (by omega) (by omega) (by omega) (by omega)
    have p : (2 : Int) ^ 131 * 18446744073709551616 < 65536 ^ 20 := by decide
    exact rmul_any false false Q n (by omega) (by omega) (by omega) (by omega) w)
  have C : Hid (∀ Q : Int, 0 < Q → Q < 2 ^ 131 → ∀ w, Calls Try.prog 88 #[NN false (Q * n), NN false A] w fun e w' => e = .returned (.int .i64 (cmpI (Q * n) A)) ∧ Mo w w') := Lib.hid (fun Q q0 q1 w => by
    have : Q * n ≤ 2 ^ 131 * 18446744073709551616 := Int.mul_le_mul (by omega) (by omega) (by omega) (by omega)
    have p : (2 : Int) ^ 131 * 18446744073709551616 < 65536 ^ 20 := by decide
    have z : 0 ≤ Q * n := Int.mul_nonneg (by omega) (by omega)
    have := rcmp_sg false false (Q * n) A (Sg.pos z) (Sg.pos h0) (by rw [absI_pos z]; omega) (by rw [absI_pos h0]; omega) w
    rwa [absI_pos z, absI_pos h0] at this)
  have P : Hid (∀ e : Nat, e < 16 → ∀ w, Calls Try.prog 89 #[.int .i64 e] w fun x w' => x = .returned (.int .u64 (2 ^ e)) ∧ Mo w w') := Lib.hid (fun e he w => rpower_any e (by omega) w)
  have U0 := Lib.hid (UpR.start h0 h1 n1)
  have U1 := Lib.hid (fun Q (h : UpR A n 0 Q) => h.last n1)
  have U2 := Lib.hid (fun j Q (h : UpR A n (j + 1) Q) (hj : j < 130) => h.bd hj h1 n1)
  have Z := lim_0
  clear h0 h1 n1 n2
  generalize hz : A / n = z at *
  replace hz := Lib.hid hz
  go_enter Try.func68, Try.ntmps68
  go_wp2_with fail
  go_loopw [9] (fun i wr => ∃ (j : Nat) (y Q : Int), j ≤ 130 ∧ y = (j : Int) - 1 ∧ i = .int .i64 y ∧ UpR A n j Q ∧ Mo ((((w.alloc (.cells (numC false (lim A)) 156)).alloc (.cells (numC false (lim n)) 156)).alloc (.cells (numC false (fun _ => 0)) 156)).alloc (.cells (numC false (lim Q)) 156)) wr) (fun i _ => (intOf i + 1).toNat)
  case atStart => exact ⟨130, 129, 0, by omega, by omega, rfl, U0.out, by rw [Z]; exact Mor.out⟩
  case round =>
    obtain ⟨j, y, Q, hj, hy, rfl, hU, J, d, rfl⟩ := hrel
    cases j with
    | zero =>
      obtain rfl : y = -1 := by omega
      have q := U1.out Q hU
      clear hU hy U0 U1 U2 M C P hj
      subst q
      go_wp2_with fail
      exact ret_num (w.heap.size + 2) 156 (numC false (lim Q)) Try.results68 rfl rfl ⟨rfl, Mor.out⟩
    | succ j =>
      obtain ⟨c, e, rfl, he⟩ : ∃ c e : Nat, j = 16 * c + e ∧ e < 16 := ⟨j / 16, j % 16, by omega, by omega⟩
      have c20 : c < 20 := by omega
      have y0 : 0 ≤ y := by omega
      have y1 : y ≤ 129 := by omega
      have yq : Int.tdiv y 16 = (c : Int) := by rw [Int.tdiv_eq_ediv_of_nonneg y0]; omega
      have yr : Int.tmod y 16 = (e : Int) := by rw [Int.tmod_eq_emod_of_nonneg y0]; omega
      have b := U2.out _ Q hU (by omega)
      obtain ⟨t, ht⟩ := hU.1
      have bs := bit_set Q t c e he ht
      have BS := Lib.hid bs.2.2
      have PP := Lib.hid (P.out e he)
      have ME := Lib.hid (M.out (Q + 2 ^ (16 * c + e)) b.2.2.1 b.2.2.2)
      have CE := Lib.hid (C.out (Q + 2 ^ (16 * c + e)) b.2.2.1 b.2.2.2)
      have UY := Lib.hid (fun h => hU.yes h)
      have UN := Lib.hid (fun h => hU.no h)
      have l0 := bs.1
      have l1 := bs.2.1
      have E0 : (0 : Int) < 2 ^ e := Int.pow_pos (by decide)
      have hj' : 16 * c + e ≤ 130 := by omega
      have hy' := Lib.hid hy
      clear b bs hU ht hy U0 U1 U2 M C P hj
      generalize (2 : Int) ^ (16 * c + e) = B at *
      generalize (2 : Int) ^ e = E at *
      generalize hlq : lim Q = lq at *
      replace hlq := Lib.hid hlq
      go_wp2_with fail
      refine wp_region_mo_tail 13 (by kernel_rfl) (by kernel_rfl) ?_
      simp only [List.take_succ_cons, List.take_zero, List.drop_succ_cons, List.drop_zero]
      repeat (go_big_quiet_step (first | (with_reducible exact quiet_mo (PP.out _))))
      refine wpQuiet_nil ?_
      intro _ hw'
      obtain ⟨⟨J2, d2⟩, hw''⟩ := hw'
      subst hw''
      go_wp2_with fail
      rw [← BS.out]
      clear BS PP l0 l1 E0 yq yr c20
      generalize Q + B = R at *
      generalize R * n = S at *
      by_cases cs : S ≤ A
      · have o1 : ¬ 0 < cmpI S A := by
          unfold cmpI
          split
          · decide
          · rw [if_neg (by omega)]; decide
        have UR := Lib.hid (UY.out cs)
        clear UY UN cs
        generalize cmpI S A = o at *
        go_upto_region 21 with (fail)
        refine wp_region_mo' (by kernel_rfl) (by kernel_rfl) ?_
        repeat (go_big_quiet_step (first | (with_reducible exact quiet_mo (ME.out _)) | (with_reducible exact quiet_mo (CE.out _))))
        refine wpQuiet_nil ?_
        intro _ hw'
        obtain ⟨⟨J2, d2⟩, hw''⟩ := hw'
        subst hw''
        go_wp2_with fail
        go_roundw
        case rel => exact ⟨16 * c + e, _, _, by omega, rfl, by rw [hy'.out]; go_num, UR.out, Mor.out⟩
        case measure => simp [intOf]; omega
      · have o1 : 0 < cmpI S A := by
          unfold cmpI
          rw [if_neg (by omega), if_pos (by omega)]; decide
        have UR := Lib.hid (UN.out (by omega))
        clear UY UN cs
        generalize cmpI S A = o at *
        go_upto_region 21 with (fail)
        refine wp_region_mo' (by kernel_rfl) (by kernel_rfl) ?_
        repeat (go_big_quiet_step (first | (with_reducible exact quiet_mo (ME.out _)) | (with_reducible exact quiet_mo (CE.out _))))
        refine wpQuiet_nil ?_
        intro _ hw'
        obtain ⟨⟨J2, d2⟩, hw''⟩ := hw'
        subst hw''
        go_wp2_with fail
        go_roundw
        case rel => exact ⟨16 * c + e, _, Q, by omega, rfl, by rw [hy'.out]; go_num, UR.out, by rw [hlq.out]; exact Mor.out⟩
        case measure => simp [intOf]; omega

set_option maxRecDepth 20000 in
theorem Sg.zn {x : Int} (h : x ≤ 0) : Sg true x := ⟨fun _ => rfl, fun c => by omega⟩
set_option maxRecDepth 20000 in
theorem absI_n {x : Int} (h : 0 ≤ x) : absI (-x) = x := by rw [absI_neg, absI_pos h]
set_option maxRecDepth 20000 in
set_option maxHeartbeats 2000000 in
theorem rfloor_neg (A n : Int) (h0 : 0 ≤ A) (h1 : A < 2 ^ 130) (n1 : 1 ≤ n) (n2 : n < 18446744073709551616) (w : World) :
    Calls Try.prog 68 #[NN true A, NN false n] w fun e w' => e = .returned (NN true (-(-A / n))) ∧ Mo w w' := by
  have M : Hid (∀ Q : Int, 0 ≤ Q → Q < 2 ^ 130 → ∀ w, Calls Try.prog 69 #[NN true Q, NN false n] w fun e w' => e = .returned (NN true (Q * n)) ∧ Mo w w') := Lib.hid (fun Q q0 q1 w => by
    have : Q * n ≤ 2 ^ 130 * 18446744073709551616 := Int.mul_le_mul (by omega) (by omega) (by omega) (by omega)
    have p : (2 : Int) ^ 130 * 18446744073709551616 < 65536 ^ 20 := by decide
    exact rmul_any true false Q n (by omega) (by omega) (by omega) (by omega) w)
  have C : Hid (∀ Q : Int, 0 ≤ Q → Q < 2 ^ 130 → ∀ w, Calls Try.prog 88 #[NN true (Q * n), NN true A] w fun e w' => e = .returned (.int .i64 (cmpI (-(Q * n)) (-A))) ∧ Mo w w') := Lib.hid (fun Q q0 q1 w => by
    have : Q * n ≤ 2 ^ 130 * 18446744073709551616 := Int.mul_le_mul (by omega) (by omega) (by omega) (by omega)
    have p : (2 : Int) ^ 130 * 18446744073709551616 < 65536 ^ 20 := by decide
    have z : 0 ≤ Q * n := Int.mul_nonneg (by omega) (by omega)
    have := rcmp_sg true true (-(Q * n)) (-A) (Sg.zn (by omega)) (Sg.zn (by omega)) (by rw [absI_n z]; omega) (by rw [absI_n h0]; omega) w
    rwa [absI_n z, absI_n h0] at this)
  have P : Hid (∀ e : Nat, e < 16 → ∀ w, Calls Try.prog 89 #[.int .i64 e] w fun x w' => x = .returned (.int .u64 (2 ^ e)) ∧ Mo w w') := Lib.hid (fun e he w => rpower_any e (by omega) w)
  have U0 := Lib.hid (DnR.start h0 h1 n1)
  have U1 := Lib.hid (fun Q (h : DnR A n 0 Q) => h.last n1)
  have U2 := Lib.hid (fun j Q (h : DnR A n (j + 1) Q) => h.bd)
  have Z := Lib.hid lim_0
  clear h0 h1 n1 n2
  generalize hz : -(-A / n) = z at *
  replace hz := Lib.hid hz
  go_enter Try.func68, Try.ntmps68
  go_wp2_with fail
  go_loopw [6] (fun i wr => ∃ k : Nat, k ≤ 130 ∧ i = .int .i64 k ∧ Mo ((((w.alloc (.cells (numC true (lim A)) 156)).alloc (.cells (numC false (lim n)) 156)).alloc (.cells (numC false (fun _ => 0)) 156)).alloc (.cells (numC true (lim (2 ^ k - 1))) 156)) wr) (fun i _ => 130 - (intOf i).toNat)
  case atStart => exact ⟨0, by omega, rfl, by rw [show (2 : Int) ^ 0 - 1 = 0 by decide, Z.out]; exact Mor.out⟩
  case round =>
    obtain ⟨k, hk, rfl, J, d, rfl⟩ := hrel
    by_cases ck : k < 130
    · clear U0 U1 U2 M C Z
      obtain ⟨c, e, hke, he⟩ : ∃ c e : Nat, k = 16 * c + e ∧ e < 16 := ⟨k / 16, k % 16, by omega, by omega⟩
      have c20 : c < 20 := by omega
      have yq : Int.tdiv (k : Int) 16 = (c : Int) := by rw [Int.tdiv_eq_ediv_of_nonneg (by omega)]; omega
      have yr : Int.tmod (k : Int) 16 = (e : Int) := by rw [Int.tmod_eq_emod_of_nonneg (by omega)]; omega
      have bs := bit_more c e he
      rw [← hke] at bs
      have BS := Lib.hid bs.2.2
      have PP := Lib.hid (P.out e he)
      have l0 := bs.1
      have l1 := bs.2.1
      have E0 : (0 : Int) < 2 ^ e := Int.pow_pos (by decide)
      clear bs P hke
      generalize hR : (2 : Int) ^ (k + 1) - 1 = R at *
      replace hR := Lib.hid hR
      generalize (2 : Int) ^ e = E at *
      generalize lim (2 ^ k - 1) = lq at *
      go_upto_region 7 with (fail)
      refine wp_region_mo_tail' 13 (by kernel_rfl) (by kernel_rfl) ?_
      simp only [List.take_succ_cons, List.take_zero, List.drop_succ_cons, List.drop_zero]
      repeat (go_big_quiet_step (first | (with_reducible exact quiet_mo (PP.out _))))
      refine wpQuiet_nil ?_
      intro _ hw'
      obtain ⟨⟨J2, d2⟩, hw''⟩ := hw'
      subst hw''
      go_wp2_with fail
      rw [← BS.out]
      go_roundw
      case rel => exact ⟨k + 1, by omega, by go_num, by rw [hR.out]; exact Mor.out⟩
      case measure => simp [intOf]; omega
    · obtain rfl : k = 130 := by omega
      generalize hq0 : (2 : Int) ^ 130 - 1 = q0 at *
      clear hk ck
      go_wp2_with fail
      go_loopw [7] (fun i wr => ∃ (j : Nat) (y Q : Int), j ≤ 130 ∧ y = (j : Int) - 1 ∧ i = .int .i64 y ∧ DnR A n j Q ∧ Mo ((((w.alloc (.cells (numC true (lim A)) 156)).alloc (.cells (numC false (lim n)) 156)).alloc (.cells (numC false (fun _ => 0)) 156)).alloc (.cells (numC true (lim Q)) 156)) wr) (fun i _ => (intOf i + 1).toNat)
      case atStart => exact ⟨130, 129, q0, by omega, by omega, rfl, U0.out, Mor.out⟩
      case round =>
        clear U0 J d
        obtain ⟨j, y, Q, hj, hy, rfl, hU, J, d, rfl⟩ := hrel
        cases j with
        | zero =>
          obtain rfl : y = -1 := by omega
          have q := U1.out Q hU
          clear hU hy U1 U2 M C P hj
          subst q
          go_wp2_with fail
          exact ret_num (w.heap.size + 2) 156 (numC true (lim Q)) Try.results68 rfl rfl ⟨rfl, Mor.out⟩
        | succ j =>
          obtain ⟨c, e, rfl, he⟩ : ∃ c e : Nat, j = 16 * c + e ∧ e < 16 := ⟨j / 16, j % 16, by omega, by omega⟩
          have c20 : c < 20 := by omega
          have y0 : 0 ≤ y := by omega
          have y1 : y ≤ 129 := by omega
          have yq : Int.tdiv y 16 = (c : Int) := by rw [Int.tdiv_eq_ediv_of_nonneg y0]; omega
          have yr : Int.tmod y 16 = (e : Int) := by rw [Int.tmod_eq_emod_of_nonneg y0]; omega
          have b := U2.out _ Q hU
          obtain ⟨t, ht0, ht⟩ := hU.1
          have bs := bit_clear Q t c e he ht
          have BS := Lib.hid bs.2.2
          have PP := Lib.hid (P.out e he)
          have ME := Lib.hid (M.out (Q - 2 ^ (16 * c + e)) b.2.2.1 b.2.2.2)
          have CE := Lib.hid (C.out (Q - 2 ^ (16 * c + e)) b.2.2.1 b.2.2.2)
          have UY := Lib.hid (fun h => hU.yes h)
          have UN := Lib.hid (fun h => hU.no h)
          have l0 := bs.1
          have l1 := bs.2.1
          have E0 : (0 : Int) < 2 ^ e := Int.pow_pos (by decide)
          have hj' : 16 * c + e ≤ 130 := by omega
          have hy' := Lib.hid hy
          clear b bs hU ht ht0 hy U1 U2 M C P hj hq0
          generalize (2 : Int) ^ (16 * c + e) = B at *
          generalize (2 : Int) ^ e = E at *
          generalize hlq : lim Q = lq at *
          replace hlq := Lib.hid hlq
          go_upto_region 12 with (fail)
          refine wp_region_mo_tail 13 (by kernel_rfl) (by kernel_rfl) ?_
          simp only [List.take_succ_cons, List.take_zero, List.drop_succ_cons, List.drop_zero]
          repeat (go_big_quiet_step (first | (with_reducible exact quiet_mo (PP.out _))))
          refine wpQuiet_nil ?_
          intro _ hw'
          obtain ⟨⟨J2, d2⟩, hw''⟩ := hw'
          subst hw''
          go_wp2_with fail
          rw [← BS.out]
          clear BS PP l0 l1 E0 yq yr c20
          generalize Q - B = R at *
          generalize R * n = S at *
          by_cases cs : A ≤ S
          · have o1 : ¬ 0 < cmpI (-S) (-A) := by
              unfold cmpI
              split
              · decide
              · rw [if_neg (by omega)]; decide
            have UR := Lib.hid (UY.out cs)
            clear UY UN cs
            generalize cmpI (-S) (-A) = o at *
            go_upto_region 13 with (fail)
            refine wp_region_mo' (by kernel_rfl) (by kernel_rfl) ?_
            repeat (go_big_quiet_step (first | (with_reducible exact quiet_mo (ME.out _)) | (with_reducible exact quiet_mo (CE.out _))))
            refine wpQuiet_nil ?_
            intro _ hw'
            obtain ⟨⟨J2, d2⟩, hw''⟩ := hw'
            subst hw''
            go_wp2_with fail
            go_roundw
            case rel => exact ⟨16 * c + e, _, _, by omega, rfl, by rw [hy'.out]; go_num, UR.out, Mor.out⟩
            case measure => simp [intOf]; omega
          · have o1 : 0 < cmpI (-S) (-A) := by
              unfold cmpI
              rw [if_neg (by omega), if_pos (by omega)]; decide
            have UR := Lib.hid (UN.out (by omega))
            clear UY UN cs
            generalize cmpI (-S) (-A) = o at *
            go_upto_region 13 with (fail)
            refine wp_region_mo' (by kernel_rfl) (by kernel_rfl) ?_
            repeat (go_big_quiet_step (first | (with_reducible exact quiet_mo (ME.out _)) | (with_reducible exact quiet_mo (CE.out _))))
            refine wpQuiet_nil ?_
            intro _ hw'
            obtain ⟨⟨J2, d2⟩, hw''⟩ := hw'
            subst hw''
            go_wp2_with fail
            go_roundw
            case rel => exact ⟨16 * c + e, _, Q, by omega, rfl, by rw [hy'.out]; go_num, UR.out, by rw [hlq.out]; exact Mor.out⟩
            case measure => simp [intOf]; omega
set_option maxRecDepth 20000 in
theorem rfloor_any (s : Bool) (x n : Int) (hs : Sg s x) (hx : absI x < 2 ^ 130) (n1 : 0 < n) (n2 : n < 18446744073709551616) (w : World) :
    Calls Try.prog 68 #[NN s (absI x), NN false n] w fun e w' => e = .returned (NN s (absI (x / n))) ∧ Mo w w' := by
  cases s
  · have h : 0 ≤ x := by
      rcases Int.lt_or_le x 0 with c | c
      · have := hs.1 c; cases this
      · exact c
    rw [absI_pos h] at hx ⊢
    rw [absI_pos (Int.ediv_nonneg h (by omega))]
    exact rfloor_pos x n h hx n1 n2 w
  · have h : x ≤ 0 := by
      rcases Int.lt_or_le 0 x with c | c
      · have := hs.2 c; cases this
      · exact c
    have e : absI x = -x := by rw [← absI_neg, absI_pos (by omega)]
    have q : x / n ≤ 0 := by
      have : x / n < 1 := Int.ediv_lt_of_lt_mul n1 (by omega)
      omega
    have e2 : absI (x / n) = -(x / n) := by rw [← absI_neg, absI_pos (by omega)]
    rw [e] at hx ⊢
    have := rfloor_neg (-x) n (by omega) hx n1 n2 w
    rwa [e2, show x / n = -(-x) / n by rw [Int.neg_neg]]
end Go.Proofs.Ythgkhllkhhnlpaa
/- horologeref01: From: what it returns, in integers. -/
namespace Go.Proofs.Ythgkhllkhhnlpaa
open Go.RowKit

set_option maxRecDepth 20000 in
theorem numC_set_5 (b : Bool) (l : Nat → Int) (x : Int) : (numC b l).setIfInBounds 5 (.int .u64 x) = numC b (upd l 4 x) := numC_set b l 4 x (by decide)
set_option maxRecDepth 20000 in
theorem numC_set_8 (b : Bool) (l : Nat → Int) (x : Int) : (numC b l).setIfInBounds 8 (.int .u64 x) = numC b (upd l 7 x) := numC_set b l 7 x (by decide)
set_option maxRecDepth 20000 in
theorem numC_get_5 (b : Bool) (l : Nat → Int) : (numC b l)[5]? = some (.int .u64 (l 4)) := numC_get b l 4 (by decide)
set_option maxRecDepth 20000 in
theorem numC_get_8 (b : Bool) (l : Nat → Int) : (numC b l)[8]? = some (.int .u64 (l 7)) := numC_get b l 7 (by decide)
attribute [go_sem] numC_set_5 numC_set_8 numC_get_5 numC_get_8
/-- the sign that From gives -/
def fromS (a : Int) : Bool := addS (decide (hiW a < 0)) false (hiW a * 18446744073709551616) (loW a)
set_option maxRecDepth 20000 in
theorem lim_top : upd (fun _ => 0) 4 1 = lim 18446744073709551616 := by
  funext i
  unfold upd
  by_cases c : i = 4
  · subst c; rfl
  · rw [if_neg c]
    by_cases d : i < 4
    · have : i = 0 ∨ i = 1 ∨ i = 2 ∨ i = 3 := by omega
      rcases this with rfl | rfl | rfl | rfl <;> rfl
    · rw [lim_great (k := 5) (by decide) (by decide) (by omega)]

set_option maxRecDepth 10000 in
set_option maxHeartbeats 1000000 in
theorem from_any (a : Int) (ha : InW a) (w : World) :
    Calls Try.prog 71 #[WV a] w fun e w' => e = .returned (NN (fromS a) (absI a)) ∧ Mo w w' := by
  obtain ⟨h, hh⟩ : ∃ h, hiW a = h := ⟨_, rfl⟩
  obtain ⟨l, hl⟩ : ∃ l, loW a = l := ⟨_, rfl⟩
  have e : a = h * 18446744073709551616 + l := by unfold hiW loW at *; omega
  have h1 : -9223372036854775808 ≤ h ∧ h ≤ 9223372036854775807 := by unfold InW at ha; unfold hiW at hh; omega
  have l1 : 0 ≤ l ∧ l < 18446744073709551616 := by unfold loW at hl; omega
  have C1 := Lib.hid (fun w => rof_any h h1.1 h1.2 w)
  have C2 : Hid (∀ w, Calls Try.prog 69 #[NN (decide (h < 0)) (absI h), NN false 18446744073709551616] w fun e w' => e = .returned (NN (decide (h < 0)) (absI (h * 18446744073709551616))) ∧ Mo w w') := Lib.hid (fun w => by
    have := rmul_sg (decide (h < 0)) false h 18446744073709551616 (by unfold absI; split <;> omega) (by rw [show absI 18446744073709551616 = 18446744073709551616 by rfl]; unfold absI; split <;> omega) w
    rw [show absI 18446744073709551616 = 18446744073709551616 by rfl] at this
    simpa using this)
  have C3 := Lib.hid (fun w => num64_any l l1.1 l1.2 w)
  have C4 : Hid (∀ w, Calls Try.prog 65 #[NN (decide (h < 0)) (absI (h * 18446744073709551616)), NN false l] w fun e w' => e = .returned (NN (fromS a) (absI a)) ∧ Mo w w') := Lib.hid (fun w => by
    have := radd_any (decide (h < 0)) false (h * 18446744073709551616) l ⟨fun c => decide_eq_true (by omega), fun c => decide_eq_false (by omega)⟩ (Sg.pos l1.1) (by unfold absI; split <;> omega) (by unfold absI; split <;> omega) w
    rw [absI_pos l1.1, ← e] at this
    rwa [fromS, hh, hl])
  have LT := lim_top
  generalize decide (h < 0) = s at *
  clear e ha
  go_enter Try.func71, Try.ntmps71
  go_upto_region 3 with (fail)
  refine wp_region_mo_tail 9 (by kernel_rfl) (by kernel_rfl) ?_
  simp only [List.take_succ_cons, List.take_zero, List.drop_succ_cons, List.drop_zero]
  repeat (go_big_quiet_step (first | (with_reducible exact quiet_mo (C1.out _)) | (with_reducible exact quiet_mo (C2.out _)) | (with_reducible exact quiet_mo (C3.out _)) | (with_reducible exact quiet_mo (C4.out _))))
  refine wpQuiet_nil ?_
  intro _ hw'
  obtain ⟨⟨J2, d2⟩, hw''⟩ := hw'
  subst hw''
  go_wp2_with fail
  exact ret_num (w.heap.size + 1) 156 (numC (fromS a) (lim (absI a))) Try.results71 rfl rfl ⟨rfl, Mor.out⟩
end Go.Proofs.Ythgkhllkhhnlpaa
/- horologeref01: Wide: what it returns, in integers. -/
namespace Go.Proofs.Ythgkhllkhhnlpaa
open Go.RowKit

set_option maxRecDepth 20000 in
theorem fromS_sg (a : Int) : Sg (fromS a) a := by
  have h := addS_sg (b := decide (hiW a < 0)) (c := false) (x := hiW a * 18446744073709551616) (y := loW a) ⟨fun c => decide_eq_true (by omega), fun c => decide_eq_false (by omega)⟩ (Sg.pos (by unfold loW; omega))
  have e : hiW a * 18446744073709551616 + loW a = a := by unfold hiW loW; omega
  rwa [e] at h
def fil (k : Nat) : Nat → Int := fun t => if t < k then 65535 else 0
set_option maxRecDepth 20000 in
theorem fil_0 : fil 0 = fun _ => 0 := by funext t; simp [fil]
set_option maxRecDepth 20000 in
theorem fil_succ (k : Nat) : upd (fil k) k 65535 = fil (k + 1) := by
  funext t
  unfold upd fil
  by_cases c : t = k
  · subst c; rw [if_pos rfl, if_pos (by omega)]
  · by_cases e : t < k
    · rw [if_neg c, if_pos e, if_pos (by omega)]
    · rw [if_neg c, if_neg e, if_neg (by omega)]
set_option maxRecDepth 20000 in
theorem lim_most : upd (fil 8) 7 32767 = lim 170141183460469231731687303715884105727 := by
  funext i
  unfold upd fil
  by_cases c : i = 7
  · subst c; rfl
  · rw [if_neg c]
    by_cases d : i < 7
    · have : i = 0 ∨ i = 1 ∨ i = 2 ∨ i = 3 ∨ i = 4 ∨ i = 5 ∨ i = 6 := by omega
      rcases this with rfl | rfl | rfl | rfl | rfl | rfl | rfl <;> rfl
    · rw [lim_great (k := 8) (by decide) (by decide) (by omega), if_neg (by omega)]
set_option maxRecDepth 20000 in
theorem lim_least : upd (fun _ => 0) 7 32768 = lim 170141183460469231731687303715884105728 := by
  funext i
  unfold upd
  by_cases c : i = 7
  · subst c; rfl
  · rw [if_neg c]
    by_cases d : i < 7
    · have : i = 0 ∨ i = 1 ∨ i = 2 ∨ i = 3 ∨ i = 4 ∨ i = 5 ∨ i = 6 := by omega
      rcases this with rfl | rfl | rfl | rfl | rfl | rfl | rfl <;> rfl
    · rw [lim_great (k := 8) (by decide) (by decide) (by omega)]

/-- the top loop's two numbers, by the number of places left -/
def hiL (n : Int) (j : Nat) : Int := n / 65536 ^ (4 + j)
def loL (n : Int) (j : Nat) : Int := n % 18446744073709551616 / 65536 ^ j
set_option maxRecDepth 20000 in
theorem hiL_succ (n : Int) (j : Nat) : hiL n j = 65536 * hiL n (j + 1) + lim n (j + 4) := by
  have := div_step n (4 + j)
  unfold hiL
  rw [show j + 4 = 4 + j by omega, show 4 + (j + 1) = 4 + j + 1 by omega]; exact this
set_option maxRecDepth 20000 in
theorem loL_succ (n : Int) (j : Nat) (h : j < 4) : loL n j = 65536 * loL n (j + 1) + lim n j := by
  have := div_step (n % 18446744073709551616) j
  have e : lim (n % 18446744073709551616) j = lim n j := by
    have : j = 0 ∨ j = 1 ∨ j = 2 ∨ j = 3 := by omega
    unfold lim
    rcases this with rfl | rfl | rfl | rfl <;> simp <;> omega
  unfold loL
  rw [← e]; exact this
set_option maxRecDepth 20000 in
theorem hiL_bd {n : Int} (h0 : 0 ≤ n) (h1 : n ≤ 170141183460469231731687303715884105728) (j : Nat) : 0 ≤ hiL n j ∧ hiL n j ≤ 9223372036854775808 := by
  unfold hiL
  have p := pow_pos' j
  have e : n / 65536 ^ (4 + j) = n / 18446744073709551616 / 65536 ^ j := by
    rw [Int.pow_add, Int.ediv_ediv_of_nonneg (by decide)]; rfl
  rw [e]
  constructor
  · exact Int.ediv_nonneg (by omega) (by omega)
  · have := Int.ediv_le_self (65536 ^ j) (show 0 ≤ n / 18446744073709551616 by omega); omega
set_option maxRecDepth 20000 in
theorem loL_bd (n : Int) (j : Nat) : 0 ≤ loL n j ∧ loL n j < 18446744073709551616 := by
  unfold loL
  have p := pow_pos' j
  constructor
  · exact Int.ediv_nonneg (by omega) (by omega)
  · have := Int.ediv_le_self (65536 ^ j) (show 0 ≤ n % 18446744073709551616 by omega); omega

set_option maxRecDepth 20000 in
set_option maxHeartbeats 2000000 in
theorem rwide_in (s : Bool) (m o1 o2 : Int) (g1 : ¬ 0 < o1) (g2 : ¬ o2 < 0)
    (C1 : Hid (∀ w, Calls Try.prog 88 #[NN s m, NN false 170141183460469231731687303715884105727] w fun e w' => e = .returned (.int .i64 o1) ∧ Mo w w'))
    (C2 : Hid (∀ w, Calls Try.prog 88 #[NN s m, NN true 170141183460469231731687303715884105728] w fun e w' => e = .returned (.int .i64 o2) ∧ Mo w w'))
    (n0 : (0 : Int) ≤ m) (n1 : (m : Int) ≤ 170141183460469231731687303715884105728) (w : World) (H L : Int)
    (hH : H = wrap64 (if s then (if 0 < loL m 0 then IntKind.u64.wrap (IntKind.u64.wrap (-(hiL m 0)) - 1) else IntKind.u64.wrap (-(hiL m 0))) else hiL m 0))
    (hL : L = if s then IntKind.u64.wrap (-(loL m 0)) else loL m 0) :
    Calls Try.prog 67 #[NN s m] w fun e w' => e = .returned (.agg #[.int .i64 H, .int .u64 L]) ∧ Mo w w' := by
  have LM := lim_most
  have LL := lim_least
  go_enter Try.func67, Try.ntmps67
  go_wp2_with fail
  go_loopw [4] (fun i wr => ∃ k : Nat, k ≤ 8 ∧ i = .int .i64 k ∧ wr = ((w.alloc (.cells (numC s (lim m)) 156)).alloc (.cells #[.int .i64 0, .int .u64 0] 43)).alloc (.cells (numC false (fil k)) 156)) (fun i _ => 8 - (intOf i).toNat)
  case atStart => exact ⟨0, by omega, rfl, by rw [fil_0]⟩
  case round =>
    obtain ⟨k, hk, rfl, rfl⟩ := hrel
    by_cases c : k < 8
    · have c20 : k < 20 := by omega
      have F := Lib.hid (fil_succ k)
      clear LM LL
      go_wp2_with fail
      go_roundw
      case rel => exact ⟨k + 1, by omega, by go_num, by rw [F.out]⟩
      case measure => simp [intOf]; omega
    · obtain rfl : k = 8 := by omega
      go_wp2_with fail
      refine (C1.out _).mono ?_
      rintro e w1 ⟨rfl, J1, d1, rfl⟩
      go_wp2_with fail
      refine (C2.out _).mono ?_
      rintro e w1 ⟨rfl, J2, d2, rfl⟩
      go_wp2_with fail
      have h4 := Lib.hid (show hiL m 4 = 0 by unfold hiL; rw [show (65536 : Int) ^ (4 + 4) = 340282366920938463463374607431768211456 by decide]; omega)
      have l4 := Lib.hid (show loL m 4 = 0 by unfold loL; rw [show (65536 : Int) ^ 4 = 18446744073709551616 by decide]; omega)
      have BH := hiL_bd (n := m) n0 n1
      have BL := loL_bd m
      have SH := hiL_succ m
      have SL := loL_succ m
      have BM := lim_bd m
      clear n0 n1 C1 C2 g1 g2
      go_loop [6, 7, 8] (fun h l i => ∃ (j : Nat) (y : Int), j ≤ 4 ∧ y = (j : Int) - 1 ∧ i = .int .i64 y ∧ h = .int .u64 (hiL m j) ∧ l = .int .u64 (loL m j)) (fun _ _ i => (intOf i + 1).toNat)
      case atStart => exact ⟨4, 3, by omega, by omega, rfl, by rw [h4.out], by rw [l4.out]⟩
      case round =>
        clear h4 l4
        obtain ⟨j, y, hj, hy, rfl, rfl, rfl⟩ := hrel
        cases j with
        | zero =>
          obtain rfl : y = -1 := by omega
          clear hy SH SL BM
          have b0 := BH 0
          have b1 := BL 0
          clear BH BL
          generalize hiL m 0 = hi at *
          generalize loL m 0 = lo at *
          have hHo := Lib.hid hH
          have hLo := Lib.hid hL
          clear hH hL
          cases s
          · go_wp2_with fail
            exact bodyPost_ret (v := .agg #[.int .i64 H, .int .u64 L]) (by simp [results, Try.results67, go_sem, hHo.out, hLo.out]) rfl ⟨rfl, Mor.out⟩
          · by_cases z : 0 < lo
            · go_wp2_with fail
              exact bodyPost_ret (v := .agg #[.int .i64 H, .int .u64 L]) (by simp [results, Try.results67, go_sem, hHo.out, hLo.out, z]) rfl ⟨rfl, Mor.out⟩
            · obtain rfl : lo = 0 := by omega
              go_wp2_with fail
              exact bodyPost_ret (v := .agg #[.int .i64 H, .int .u64 L]) (by simp [results, Try.results67, go_sem, hHo.out, hLo.out]; rfl) rfl ⟨rfl, Mor.out⟩
        | succ j =>
          obtain rfl : y = (j : Int) := by omega
          clear hy
          have j20 : j < 20 := by omega
          have j24 : j + 4 < 20 := by omega
          have a1 := Lib.hid (SH j)
          have a2 := Lib.hid (SL j (by omega))
          have a3 := BH j
          have a4 := BL j
          have a5 := BH (j + 1)
          have a6 := BL (j + 1)
          have a7 := BM j
          have a8 := BM (j + 4)
          have a9 : 65536 * hiL m (j + 1) + lim m (j + 4) ≤ 9223372036854775808 := by rw [← SH j]; exact a3.2
          have a10 : 65536 * loL m (j + 1) + lim m j < 18446744073709551616 := by rw [← SL j (by omega)]; exact a4.2
          clear SH SL BH BL BM
          go_wp2_with fail
          go_round
          case rel => exact ⟨j, _, by omega, rfl, by go_num, by rw [a1.out], by rw [a2.out]⟩
          case measure => simp [intOf]

set_option maxRecDepth 20000 in
set_option maxHeartbeats 2000000 in
theorem rwide_hi (s : Bool) (m o1 o2 : Int) (g1 : 0 < o1) (g2 : ¬ o2 < 0)
    (C1 : Hid (∀ w, Calls Try.prog 88 #[NN s m, NN false 170141183460469231731687303715884105727] w fun e w' => e = .returned (.int .i64 o1) ∧ Mo w w'))
    (C2 : Hid (∀ w, Calls Try.prog 88 #[NN false 170141183460469231731687303715884105727, NN true 170141183460469231731687303715884105728] w fun e w' => e = .returned (.int .i64 o2) ∧ Mo w w'))
    (n0 : (0 : Int) ≤ 170141183460469231731687303715884105727) (n1 : (170141183460469231731687303715884105727 : Int) ≤ 170141183460469231731687303715884105728) (w : World) (H L : Int)
    (hH : H = wrap64 (if false then (if 0 < loL 170141183460469231731687303715884105727 0 then IntKind.u64.wrap (IntKind.u64.wrap (-(hiL 170141183460469231731687303715884105727 0)) - 1) else IntKind.u64.wrap (-(hiL 170141183460469231731687303715884105727 0))) else hiL 170141183460469231731687303715884105727 0))
    (hL : L = if false then IntKind.u64.wrap (-(loL 170141183460469231731687303715884105727 0)) else loL 170141183460469231731687303715884105727 0) :
    Calls Try.prog 67 #[NN s m] w fun e w' => e = .returned (.agg #[.int .i64 H, .int .u64 L]) ∧ Mo w w' := by
  have LM := lim_most
  have LL := lim_least
  go_enter Try.func67, Try.ntmps67
  go_wp2_with fail
  go_loopw [4] (fun i wr => ∃ k : Nat, k ≤ 8 ∧ i = .int .i64 k ∧ wr = ((w.alloc (.cells (numC s (lim m)) 156)).alloc (.cells #[.int .i64 0, .int .u64 0] 43)).alloc (.cells (numC false (fil k)) 156)) (fun i _ => 8 - (intOf i).toNat)
  case atStart => exact ⟨0, by omega, rfl, by rw [fil_0]⟩
  case round =>
    obtain ⟨k, hk, rfl, rfl⟩ := hrel
    by_cases c : k < 8
    · have c20 : k < 20 := by omega
      have F := Lib.hid (fil_succ k)
      clear LM LL
      go_wp2_with fail
      go_roundw
      case rel => exact ⟨k + 1, by omega, by go_num, by rw [F.out]⟩
      case measure => simp [intOf]; omega
    · obtain rfl : k = 8 := by omega
      go_wp2_with fail
      refine (C1.out _).mono ?_
      rintro e w1 ⟨rfl, J1, d1, rfl⟩
      go_wp2_with fail
      refine (C2.out _).mono ?_
      rintro e w1 ⟨rfl, J2, d2, rfl⟩
      go_wp2_with fail
      have h4 := Lib.hid (show hiL 170141183460469231731687303715884105727 4 = 0 by unfold hiL; rw [show (65536 : Int) ^ (4 + 4) = 340282366920938463463374607431768211456 by decide]; omega)
      have l4 := Lib.hid (show loL 170141183460469231731687303715884105727 4 = 0 by unfold loL; rw [show (65536 : Int) ^ 4 = 18446744073709551616 by decide]; omega)
      have BH := hiL_bd (n := 170141183460469231731687303715884105727) n0 n1
      have BL := loL_bd 170141183460469231731687303715884105727
      have SH := hiL_succ 170141183460469231731687303715884105727
      have SL := loL_succ 170141183460469231731687303715884105727
      have BM := lim_bd 170141183460469231731687303715884105727
      clear n0 n1 C1 C2 g1 g2
      go_loop [6, 7, 8] (fun h l i => ∃ (j : Nat) (y : Int), j ≤ 4 ∧ y = (j : Int) - 1 ∧ i = .int .i64 y ∧ h = .int .u64 (hiL 170141183460469231731687303715884105727 j) ∧ l = .int .u64 (loL 170141183460469231731687303715884105727 j)) (fun _ _ i => (intOf i + 1).toNat)
      case atStart => exact ⟨4, 3, by omega, by omega, rfl, by rw [h4.out], by rw [l4.out]⟩
      case round =>
        clear h4 l4
        obtain ⟨j, y, hj, hy, rfl, rfl, rfl⟩ := hrel
        cases j with
        | zero =>
          obtain rfl : y = -1 := by omega
          clear hy SH SL BM
          have b0 := BH 0
          have b1 := BL 0
          clear BH BL
          generalize hiL 170141183460469231731687303715884105727 0 = hi at *
          generalize loL 170141183460469231731687303715884105727 0 = lo at *
          have hHo := Lib.hid hH
          have hLo := Lib.hid hL
          clear hH hL
          go_wp2_with fail
          exact bodyPost_ret (v := .agg #[.int .i64 H, .int .u64 L]) (by simp [results, Try.results67, go_sem, hHo.out, hLo.out]) rfl ⟨rfl, Mor.out⟩
        | succ j =>
          obtain rfl : y = (j : Int) := by omega
          clear hy
          have j20 : j < 20 := by omega
          have j24 : j + 4 < 20 := by omega
          have a1 := Lib.hid (SH j)
          have a2 := Lib.hid (SL j (by omega))
          have a3 := BH j
          have a4 := BL j
          have a5 := BH (j + 1)
          have a6 := BL (j + 1)
          have a7 := BM j
          have a8 := BM (j + 4)
          have a9 : 65536 * hiL 170141183460469231731687303715884105727 (j + 1) + lim 170141183460469231731687303715884105727 (j + 4) ≤ 9223372036854775808 := by rw [← SH j]; exact a3.2
          have a10 : 65536 * loL 170141183460469231731687303715884105727 (j + 1) + lim 170141183460469231731687303715884105727 j < 18446744073709551616 := by rw [← SL j (by omega)]; exact a4.2
          clear SH SL BH BL BM
          go_wp2_with fail
          go_round
          case rel => exact ⟨j, _, by omega, rfl, by go_num, by rw [a1.out], by rw [a2.out]⟩
          case measure => simp [intOf]

set_option maxRecDepth 20000 in
set_option maxHeartbeats 2000000 in
theorem rwide_lo (s : Bool) (m o1 o2 : Int) (g1 : ¬ 0 < o1) (g2 : o2 < 0)
    (C1 : Hid (∀ w, Calls Try.prog 88 #[NN s m, NN false 170141183460469231731687303715884105727] w fun e w' => e = .returned (.int .i64 o1) ∧ Mo w w'))
    (C2 : Hid (∀ w, Calls Try.prog 88 #[NN s m, NN true 170141183460469231731687303715884105728] w fun e w' => e = .returned (.int .i64 o2) ∧ Mo w w'))
    (n0 : (0 : Int) ≤ 170141183460469231731687303715884105728) (n1 : (170141183460469231731687303715884105728 : Int) ≤ 170141183460469231731687303715884105728) (w : World) (H L : Int)
    (hH : H = wrap64 (if true then (if 0 < loL 170141183460469231731687303715884105728 0 then IntKind.u64.wrap (IntKind.u64.wrap (-(hiL 170141183460469231731687303715884105728 0)) - 1) else IntKind.u64.wrap (-(hiL 170141183460469231731687303715884105728 0))) else hiL 170141183460469231731687303715884105728 0))
    (hL : L = if true then IntKind.u64.wrap (-(loL 170141183460469231731687303715884105728 0)) else loL 170141183460469231731687303715884105728 0) :
    Calls Try.prog 67 #[NN s m] w fun e w' => e = .returned (.agg #[.int .i64 H, .int .u64 L]) ∧ Mo w w' := by
  have LM := lim_most
  have LL := lim_least
  go_enter Try.func67, Try.ntmps67
  go_wp2_with fail
  go_loopw [4] (fun i wr => ∃ k : Nat, k ≤ 8 ∧ i = .int .i64 k ∧ wr = ((w.alloc (.cells (numC s (lim m)) 156)).alloc (.cells #[.int .i64 0, .int .u64 0] 43)).alloc (.cells (numC false (fil k)) 156)) (fun i _ => 8 - (intOf i).toNat)
  case atStart => exact ⟨0, by omega, rfl, by rw [fil_0]⟩
  case round =>
    obtain ⟨k, hk, rfl, rfl⟩ := hrel
    by_cases c : k < 8
    · have c20 : k < 20 := by omega
      have F := Lib.hid (fil_succ k)
      clear LM LL
      go_wp2_with fail
      go_roundw
      case rel => exact ⟨k + 1, by omega, by go_num, by rw [F.out]⟩
      case measure => simp [intOf]; omega
    · obtain rfl : k = 8 := by omega
      go_wp2_with fail
      refine (C1.out _).mono ?_
      rintro e w1 ⟨rfl, J1, d1, rfl⟩
      go_wp2_with fail
      refine (C2.out _).mono ?_
      rintro e w1 ⟨rfl, J2, d2, rfl⟩
      go_wp2_with fail
      have h4 := Lib.hid (show hiL 170141183460469231731687303715884105728 4 = 0 by unfold hiL; rw [show (65536 : Int) ^ (4 + 4) = 340282366920938463463374607431768211456 by decide]; omega)
      have l4 := Lib.hid (show loL 170141183460469231731687303715884105728 4 = 0 by unfold loL; rw [show (65536 : Int) ^ 4 = 18446744073709551616 by decide]; omega)
      have BH := hiL_bd (n := 170141183460469231731687303715884105728) n0 n1
      have BL := loL_bd 170141183460469231731687303715884105728
      have SH := hiL_succ 170141183460469231731687303715884105728
      have SL := loL_succ 170141183460469231731687303715884105728
      have BM := lim_bd 170141183460469231731687303715884105728
      clear n0 n1 C1 C2 g1 g2
      go_loop [6, 7, 8] (fun h l i => ∃ (j : Nat) (y : Int), j ≤ 4 ∧ y = (j : Int) - 1 ∧ i = .int .i64 y ∧ h = .int .u64 (hiL 170141183460469231731687303715884105728 j) ∧ l = .int .u64 (loL 170141183460469231731687303715884105728 j)) (fun _ _ i => (intOf i + 1).toNat)
      case atStart => exact ⟨4, 3, by omega, by omega, rfl, by rw [h4.out], by rw [l4.out]⟩
      case round =>
        clear h4 l4
        obtain ⟨j, y, hj, hy, rfl, rfl, rfl⟩ := hrel
        cases j with
        | zero =>
          obtain rfl : y = -1 := by omega
          clear hy SH SL BM
          have b0 := BH 0
          have b1 := BL 0
          clear BH BL
          generalize hiL 170141183460469231731687303715884105728 0 = hi at *
          generalize loL 170141183460469231731687303715884105728 0 = lo at *
          have hHo := Lib.hid hH
          have hLo := Lib.hid hL
          clear hH hL
          by_cases z : 0 < lo
          · go_wp2_with fail
            exact bodyPost_ret (v := .agg #[.int .i64 H, .int .u64 L]) (by simp [results, Try.results67, go_sem, hHo.out, hLo.out, z]) rfl ⟨rfl, Mor.out⟩
          · obtain rfl : lo = 0 := by omega
            go_wp2_with fail
            exact bodyPost_ret (v := .agg #[.int .i64 H, .int .u64 L]) (by simp [results, Try.results67, go_sem, hHo.out, hLo.out]; rfl) rfl ⟨rfl, Mor.out⟩
        | succ j =>
          obtain rfl : y = (j : Int) := by omega
          clear hy
          have j20 : j < 20 := by omega
          have j24 : j + 4 < 20 := by omega
          have a1 := Lib.hid (SH j)
          have a2 := Lib.hid (SL j (by omega))
          have a3 := BH j
          have a4 := BL j
          have a5 := BH (j + 1)
          have a6 := BL (j + 1)
          have a7 := BM j
          have a8 := BM (j + 4)
          have a9 : 65536 * hiL 170141183460469231731687303715884105728 (j + 1) + lim 170141183460469231731687303715884105728 (j + 4) ≤ 9223372036854775808 := by rw [← SH j]; exact a3.2
          have a10 : 65536 * loL 170141183460469231731687303715884105728 (j + 1) + lim 170141183460469231731687303715884105728 j < 18446744073709551616 := by rw [← SL j (by omega)]; exact a4.2
          clear SH SL BH BL BM
          go_wp2_with fail
          go_round
          case rel => exact ⟨j, _, by omega, rfl, by go_num, by rw [a1.out], by rw [a2.out]⟩
          case measure => simp [intOf]

set_option maxRecDepth 20000 in
theorem hiL_0 (n : Int) : hiL n 0 = n / 18446744073709551616 := by unfold hiL; rw [show (65536 : Int) ^ (4 + 0) = 18446744073709551616 by decide]
set_option maxRecDepth 20000 in
theorem loL_0 (n : Int) : loL n 0 = n % 18446744073709551616 := by unfold loL; rw [show (65536 : Int) ^ 0 = 1 by decide, Int.ediv_one]
set_option maxRecDepth 20000 in
theorem rwide_any (s : Bool) (x : Int) (hs : Sg s x) (hx : absI x < 65536 ^ 20) (w : World) :
    Calls Try.prog 67 #[NN s (absI x)] w fun e w' => e = .returned (WV (cl x)) ∧ Mo w w' := by
  have M0 : absI 170141183460469231731687303715884105727 < 65536 ^ 20 := by decide
  have M1 : absI (-170141183460469231731687303715884105728) < 65536 ^ 20 := by decide
  have T : Sg true (-170141183460469231731687303715884105728) := ⟨fun _ => rfl, fun c => by omega⟩
  have P : Sg false 170141183460469231731687303715884105727 := Sg.pos (by decide)
  have aT : absI (-170141183460469231731687303715884105728) = 170141183460469231731687303715884105728 := by decide
  have aP : absI 170141183460469231731687303715884105727 = 170141183460469231731687303715884105727 := by decide
  have C1 := fun w => rcmp_sg s false x _ hs P hx M0 w
  rw [aP] at C1
  by_cases c1 : 170141183460469231731687303715884105727 < x
  · have e : cl x = maxW := by unfold cl; rw [if_neg (by omega), if_pos (by omega)]
    have C2 := fun w => rcmp_sg false true _ _ P T M0 M1 w
    rw [aP, aT] at C2
    rw [e]
    exact rwide_hi s (absI x) _ _ (by unfold cmpI; rw [if_neg (by omega), if_pos c1]; decide) (by decide) (Lib.hid C1) (Lib.hid C2) (by decide) (by decide) w _ _ (by simp only [hiL_0, loL_0, IntKind.wrap_u64]; unfold wrap64; decide) (by simp only [loL_0, IntKind.wrap_u64]; decide)
  · have g1 : ¬ 0 < cmpI x 170141183460469231731687303715884105727 := by
      unfold cmpI
      split <;> (first | decide | (rw [if_neg c1]; decide))
    have C2 := fun w => rcmp_sg s true x _ hs T hx M1 w
    rw [aT] at C2
    by_cases c2 : x < -170141183460469231731687303715884105728
    · have e : cl x = minW := by unfold cl; rw [if_pos c2]
      rw [e]
      exact rwide_lo s (absI x) _ _ g1 (by unfold cmpI; rw [if_pos c2]; decide) (Lib.hid C1) (Lib.hid C2) (by decide) (by decide) w _ _ (by simp only [hiL_0, loL_0, IntKind.wrap_u64]; unfold wrap64; decide) (by simp only [loL_0, IntKind.wrap_u64]; decide)
    · have e : cl x = x := cl_in ⟨by omega, by omega⟩
      rw [e]
      refine rwide_in s (absI x) _ _ g1 ?_ (Lib.hid C1) (Lib.hid C2) (absI_nonneg x) (by unfold absI; split <;> omega) w _ _ ?_ ?_
      · unfold cmpI
        rw [if_neg c2]
        split <;> decide
      · rw [hiL_0, loL_0, IntKind.wrap_u64, IntKind.wrap_u64]
        unfold hiW wrap64 absI
        obtain ⟨s1, s2⟩ := hs
        cases s
        · have : ¬ x < 0 := fun c => by have := s1 c; cases this
          rw [if_neg (by decide), if_neg this]; omega
        · have : ¬ 0 < x := fun c => by have := s2 c; cases this
          rw [if_pos rfl]
          by_cases z : x < 0
          · rw [if_pos z]; split <;> omega
          · obtain rfl : x = 0 := by omega
            rfl
      · rw [loL_0, IntKind.wrap_u64]
        unfold loW absI
        obtain ⟨s1, s2⟩ := hs
        cases s
        · have : ¬ x < 0 := fun c => by have := s1 c; cases this
          rw [if_neg (by decide), if_neg this]
        · have : ¬ 0 < x := fun c => by have := s2 c; cases this
          rw [if_pos rfl]
          by_cases z : x < 0
          · rw [if_pos z]; omega
          · obtain rfl : x = 0 := by omega
            rfl
end Go.Proofs.Ythgkhllkhhnlpaa
/- horologeref26.Root, horologeref02.Clip, horologeref31.Tame: what each returns, in integers. -/
namespace Go.Proofs.Ythgkhllkhhnlpaa
open Go.RowKit

def pw (j : Nat) : Int := if j = 0 then 0 else 2 ^ (j - 1)
set_option maxRecDepth 20000 in
theorem pw_half (j : Nat) : pw (j + 1) / 2 = pw j := by
  unfold pw
  rw [if_neg (by omega)]
  cases j with
  | zero => decide
  | succ i =>
    rw [if_neg (by omega), show i + 1 + 1 - 1 = i + 1 by omega, show i + 1 - 1 = i by omega, Int.pow_succ]
    omega
set_option maxRecDepth 20000 in
theorem pw_pos (j : Nat) : pw (j + 1) ≠ 0 := by
  unfold pw
  rw [if_neg (by omega)]
  have : (0 : Int) < 2 ^ (j + 1 - 1) := Int.pow_pos (by decide)
  omega
set_option maxRecDepth 20000 in
theorem two_pow_lt {c : Nat} (h : c ≤ 63) : (1 : Int) ≤ 2 ^ c ∧ (2 : Int) ^ c ≤ 9223372036854775808 := by
  have h1 : (2 : Nat) ^ c ≤ 2 ^ 63 := Nat.pow_le_pow_right (by decide) h
  have h2 : 0 < (2 : Nat) ^ c := Nat.pow_pos (by decide)
  have e : (2 : Int) ^ c = ((2 ^ c : Nat) : Int) := by simp
  rw [e]
  have : (2 : Nat) ^ 63 = 9223372036854775808 := by decide
  omega
set_option maxRecDepth 20000 in
theorem inW_20 {m : Int} (h : InW m) : m < 65536 ^ 20 := by
  have := h.2
  have : (170141183460469231731687303715884105728 : Int) < 65536 ^ 20 := by decide
  omega
set_option maxRecDepth 20000 in
theorem u64_20 {n : Int} (h : n < 18446744073709551616) : n < 65536 ^ 20 := by
  have : (18446744073709551616 : Int) < 65536 ^ 20 := by decide
  omega
set_option maxRecDepth 20000 in
theorem sq_20 {n : Int} (h : 0 ≤ n) (h' : n < 18446744073709551616) : n * n < 65536 ^ 20 := by
  have : n * n ≤ 18446744073709551616 * 18446744073709551616 := Int.mul_le_mul (by omega) (by omega) h (by omega)
  have : (18446744073709551616 * 18446744073709551616 : Int) < 65536 ^ 20 := by decide
  omega
set_option maxRecDepth 10000 in
set_option maxHeartbeats 2000000 in
theorem rroot_any (m : Int) (hm : InW m) (h0 : 0 ≤ m) (w : World) :
    Calls Try.prog 70 #[NN false m] w fun e w' => e = .returned (.int .u64 (rootV m)) ∧ Mo w w' := by
  have hmb := inW_20 hm
  have N1 := Lib.hid (fun n (a : 0 ≤ n) (b : n < 18446744073709551616) w => num64_any n a b w)
  have M1 := Lib.hid (fun (n : Int) (a : 0 ≤ n) (b : n < 18446744073709551616) w => rmul_any false false n n a (u64_20 b) a (sq_20 a b) w)
  have C1 := Lib.hid (fun (n : Int) (a : 0 ≤ n) (b : n < 18446744073709551616) w => rcmp_any false false (n * n) m (Int.mul_nonneg a a) (sq_20 a b) h0 hmb w)
  have R0 := Lib.hid (rootRel_start hm h0)
  have RV := Lib.hid (rootV_is h0)
  clear hm h0 hmb
  go_enter Try.func70, Try.ntmps70
  go_wp2_with fail
  go_loopw [3, 4] (fun r i wr => ∃ (j : Nat) (x rt : Int), j ≤ 64 ∧ x = (j : Int) - 1 ∧ i = .int .i64 x ∧ r = .int .u64 rt ∧ RootRel m (pw j) rt ∧ ∃ J d, wr = more (w.alloc (.cells (numC false (lim m)) 156)) J d) (fun _ i _ => (intOf i + 1).toNat)
  case atStart => exact ⟨64, 63, 0, by omega, by omega, rfl, rfl, R0.out, Mo.refl _⟩
  case round =>
    obtain ⟨j, x, rt, hj, hx, rfl, rfl, hR, J, d, rfl⟩ := hrel
    clear R0
    cases j with
    | zero =>
      obtain rfl : x = -1 := by omega
      have e := Lib.hid (show rootV m = rt from root_uniq RV.out (rootRel_end hR))
      clear hR hx
      go_wp2_with fail
      go_ret
      exact ⟨by rw [e.out]; rfl, Mor.out⟩
    | succ j =>
      obtain rfl : x = (j : Int) := by omega
      obtain ⟨-, o1, o2, o3⟩ := rootRel_or hR (pw_pos j)
      have NX := Lib.hid (rootRel_next hR (pw_pos j))
      have hb : pw (j + 1) = 2 ^ j := by unfold pw; rw [if_neg (by omega)]; rfl
      rw [pw_half] at NX
      rw [hb] at o1 o3 NX
      clear hR hx hb
      go_wp2_with fail
      go_loop [5, 6] (fun b k => ∃ c : Nat, c ≤ j ∧ k = .int .i64 c ∧ b = .int .u64 (2 ^ c)) (fun _ k => j - (intOf k).toNat)
      case atStart => exact ⟨0, by omega, rfl, rfl⟩
      case round =>
        obtain ⟨c, hc, rfl, rfl⟩ := hrel
        by_cases cj : c < j
        · obtain ⟨b1, b2⟩ := two_pow_lt (show c + 1 ≤ 63 by omega)
          have hs := Lib.hid (Int.pow_succ 2 c)
          rw [Int.pow_succ] at b1 b2
          obtain ⟨y, hy⟩ : ∃ y : Int, 2 ^ c = y := ⟨_, rfl⟩
          rw [hy] at b1 b2 hs ⊢
          clear hy
          go_wp2_with fail
          go_round
          case rel => exact ⟨c + 1, by omega, by go_num, by rw [hs.out]⟩
          case measure => simp [intOf]; omega
        · obtain rfl : c = j := by omega
          generalize (2 : Int) ^ c = bt at *
          have N1' := Lib.hid (N1.out (rt + bt) (by omega) o3)
          have M1' := Lib.hid (M1.out (rt + bt) (by omega) o3)
          have C1' := Lib.hid (C1.out (rt + bt) (by omega) o3)
          simp only [val, Bool.false_eq_true, if_false, bne_self_eq_false] at M1' C1'
          clear N1 M1 C1
          by_cases hle : (rt + bt) * (rt + bt) ≤ m
          · have hR := Lib.hid (NX.out (rt + bt) (.inl ⟨rfl, hle⟩)).1
            obtain ⟨o, ho, ho'⟩ : ∃ o, cmpI ((rt + bt) * (rt + bt)) m = o ∧ decide (o ≤ 0) = true := ⟨_, rfl, by unfold cmpI; simp; split <;> (try split) <;> omega⟩
            rw [ho] at C1'
            clear NX ho hle
            generalize (rt + bt) * (rt + bt) = sq at *
            go_wp2_with fail
            refine (N1'.out _).mono ?_; rintro e w1 ⟨rfl, J1, d1, rfl⟩
            go_wp2_with fail
            refine wp_region_mo (by kernel_rfl) (by kernel_rfl) ?_
            repeat (go_big_quiet_step (first | (with_reducible exact quiet_mo (M1'.out _)) | (with_reducible exact quiet_mo (C1'.out _))))
            refine wpQuiet_nil ?_
            intro _ hw'
            obtain ⟨⟨J9, d9⟩, hw''⟩ := hw'
            subst hw''
            go_wp2_with fail
            go_roundw
            case rel => exact ⟨c, (c : Int) - 1, _, by omega, rfl, rfl, rfl, hR.out, Mor.out⟩
            case measure => simp [intOf]
          · have hR := Lib.hid (NX.out rt (.inr ⟨rfl, by omega⟩)).1
            obtain ⟨o, ho, ho'⟩ : ∃ o, cmpI ((rt + bt) * (rt + bt)) m = o ∧ decide (o ≤ 0) = false := ⟨_, rfl, by unfold cmpI; simp; split <;> (try split) <;> omega⟩
            rw [ho] at C1'
            clear NX ho hle
            generalize (rt + bt) * (rt + bt) = sq at *
            go_wp2_with fail
            refine (N1'.out _).mono ?_; rintro e w1 ⟨rfl, J1, d1, rfl⟩
            go_wp2_with fail
            refine wp_region_mo (by kernel_rfl) (by kernel_rfl) ?_
            repeat (go_big_quiet_step (first | (with_reducible exact quiet_mo (M1'.out _)) | (with_reducible exact quiet_mo (C1'.out _))))
            refine wpQuiet_nil ?_
            intro _ hw'
            obtain ⟨⟨J9, d9⟩, hw''⟩ := hw'
            subst hw''
            go_wp2_with fail
            go_roundw
            case rel => exact ⟨c, (c : Int) - 1, _, by omega, rfl, rfl, rfl, hR.out, Mor.out⟩
            case measure => simp [intOf]

set_option maxRecDepth 20000 in
theorem tame_any (n : Int) (w : World) : Calls Try.prog 64 #[.int .i64 n] w fun e w' => e = .returned (.bool (decide (Tame n))) ∧ w = w' := by
  by_cases h1 : -140737488355328 ≤ n <;> by_cases h2 : n ≤ 140737488355328
  · have e : decide (Tame n) = true := decide_eq_true ⟨h1, h2⟩
    rw [e]
    go_enter Try.func64, Try.ntmps64
    go_wp2_with fail
    go_ret
    exact ⟨rfl, rfl⟩
  all_goals
    have e : decide (Tame n) = false := decide_eq_false (fun h => by have := h.1; have := h.2; omega)
    rw [e]
    go_enter Try.func64, Try.ntmps64
    go_wp2_with fail
    go_ret
    exact ⟨rfl, rfl⟩
set_option maxRecDepth 20000 in
theorem wrap_lo {x : Int} (h1 : -9223372036854775808 ≤ x) (h2 : x ≤ 9223372036854775807) : wrap64 (loW x) = x := by unfold wrap64 loW; omega
set_option maxRecDepth 20000 in
theorem absI_20 {x : Int} (h : InW x) : absI x < 65536 ^ 20 := by
  have := h.1
  have := h.2
  have e : (170141183460469231731687303715884105728 : Int) < 65536 ^ 20 := by decide
  unfold absI; split <;> omega
set_option maxRecDepth 20000 in
theorem sg_dec (x : Int) : Sg (decide (x < 0)) x := ⟨fun h => decide_eq_true h, fun h => decide_eq_false (by omega)⟩
set_option maxRecDepth 10000 in
set_option maxHeartbeats 1000000 in
theorem rclip_in (x : Int) (hx : InW x) (b1 : -9223372036854775808 ≤ x) (b2 : x ≤ 9223372036854775807) (w : World) :
    Calls Try.prog 66 #[WV x] w fun e w' => e = .returned (.int .i64 x) ∧ Mo w w' := by
  have F1 := Lib.hid (fun w => from_any x hx w)
  have O1 := Lib.hid (fun w => rof_any 9223372036854775807 (by decide) (by decide) w)
  have O2 := Lib.hid (fun w => rof_any (-9223372036854775808) (by decide) (by decide) w)
  have C1 := Lib.hid (fun w => rcmp_sg (fromS x) (decide ((9223372036854775807 : Int) < 0)) x 9223372036854775807 (fromS_sg x) (sg_dec _) (absI_20 hx) (by decide) w)
  have C2 := Lib.hid (fun w => rcmp_sg (fromS x) (decide ((-9223372036854775808 : Int) < 0)) x (-9223372036854775808) (fromS_sg x) (sg_dec _) (absI_20 hx) (by decide) w)
  rw [show decide ((9223372036854775807 : Int) < 0) = false by decide, show absI 9223372036854775807 = 9223372036854775807 by decide] at O1 C1
  rw [show decide ((-9223372036854775808 : Int) < 0) = true by decide, show absI (-9223372036854775808) = 9223372036854775808 by decide] at O2 C2
  obtain ⟨o1, e1, e1'⟩ : ∃ o, cmpI x 9223372036854775807 = o ∧ decide (0 < o) = false := ⟨_, rfl, by unfold cmpI; simp; split <;> (try split) <;> omega⟩
  obtain ⟨o2, e2, e2'⟩ : ∃ o, cmpI x (-9223372036854775808) = o ∧ decide (o < 0) = false := ⟨_, rfl, by unfold cmpI; simp; split <;> (try split) <;> omega⟩
  rw [e1] at C1
  rw [e2] at C2
  have BL := lo1 x
  have BL' := lo2 x
  have WL' := Lib.hid (wrap_lo b1 b2)
  clear b1 b2
  generalize fromS x = s at *
  clear e1 e2 hx
  generalize absI x = ax at *
  go_enter Try.func66, Try.ntmps66
  go_wp2_with fail
  refine (F1.out _).mono ?_; rintro e w1 ⟨rfl, J1, d1, rfl⟩
  go_wp2_with fail
  refine wp_region_mo (by kernel_rfl) (by kernel_rfl) ?_
  repeat (go_big_quiet_step (first | (with_reducible exact quiet_mo (O1.out _)) | (with_reducible exact quiet_mo (C1.out _))))
  refine wpQuiet_nil ?_
  intro _ hw'
  obtain ⟨⟨J9, d9⟩, hw''⟩ := hw'
  subst hw''
  go_wp2_with fail
  refine wp_region_mo' (by kernel_rfl) (by kernel_rfl) ?_
  repeat (go_big_quiet_step (first | (with_reducible exact quiet_mo (O2.out _)) | (with_reducible exact quiet_mo (C2.out _))))
  refine wpQuiet_nil ?_
  intro _ hw'
  obtain ⟨⟨J8, d8⟩, hw''⟩ := hw'
  subst hw''
  go_wp2_with fail
  go_ret
  exact ⟨congrArg (fun z => Ending.returned (Value.int .i64 z)) WL'.out, Mor.out⟩
set_option maxRecDepth 10000 in
set_option maxHeartbeats 1000000 in
theorem rclip_hi (x : Int) (hx : InW x) (b1 : 9223372036854775807 < x) (w : World) :
    Calls Try.prog 66 #[WV x] w fun e w' => e = .returned (.int .i64 9223372036854775807) ∧ Mo w w' := by
  have F1 := Lib.hid (fun w => from_any x hx w)
  have O1 := Lib.hid (fun w => rof_any 9223372036854775807 (by decide) (by decide) w)
  have O2 := Lib.hid (fun w => rof_any (-9223372036854775808) (by decide) (by decide) w)
  have C1 := Lib.hid (fun w => rcmp_sg (fromS x) (decide ((9223372036854775807 : Int) < 0)) x 9223372036854775807 (fromS_sg x) (sg_dec _) (absI_20 hx) (by decide) w)
  have C2 := Lib.hid (fun w => rcmp_sg (fromS x) (decide ((-9223372036854775808 : Int) < 0)) x (-9223372036854775808) (fromS_sg x) (sg_dec _) (absI_20 hx) (by decide) w)
  rw [show decide ((9223372036854775807 : Int) < 0) = false by decide, show absI 9223372036854775807 = 9223372036854775807 by decide] at O1 C1
  rw [show decide ((-9223372036854775808 : Int) < 0) = true by decide, show absI (-9223372036854775808) = 9223372036854775808 by decide] at O2 C2
  obtain ⟨o1, e1, e1'⟩ : ∃ o, cmpI x 9223372036854775807 = o ∧ decide (0 < o) = true := ⟨_, rfl, by unfold cmpI; simp; split <;> (try split) <;> omega⟩
  obtain ⟨o2, e2, e2'⟩ : ∃ o, cmpI x (-9223372036854775808) = o ∧ decide (o < 0) = false := ⟨_, rfl, by unfold cmpI; simp; split <;> (try split) <;> omega⟩
  rw [e1] at C1
  rw [e2] at C2
  have BL := lo1 x
  have BL' := lo2 x
  clear b1
  generalize fromS x = s at *
  clear e1 e2 hx
  generalize absI x = ax at *
  go_enter Try.func66, Try.ntmps66
  go_wp2_with fail
  refine (F1.out _).mono ?_; rintro e w1 ⟨rfl, J1, d1, rfl⟩
  go_wp2_with fail
  refine wp_region_mo (by kernel_rfl) (by kernel_rfl) ?_
  repeat (go_big_quiet_step (first | (with_reducible exact quiet_mo (O1.out _)) | (with_reducible exact quiet_mo (C1.out _))))
  refine wpQuiet_nil ?_
  intro _ hw'
  obtain ⟨⟨J9, d9⟩, hw''⟩ := hw'
  subst hw''
  go_wp2_with fail
  go_ret
  exact ⟨rfl, Mor.out⟩
set_option maxRecDepth 10000 in
set_option maxHeartbeats 1000000 in
theorem rclip_lo (x : Int) (hx : InW x) (b1 : x < -9223372036854775808) (w : World) :
    Calls Try.prog 66 #[WV x] w fun e w' => e = .returned (.int .i64 (-9223372036854775808)) ∧ Mo w w' := by
  have F1 := Lib.hid (fun w => from_any x hx w)
  have O1 := Lib.hid (fun w => rof_any 9223372036854775807 (by decide) (by decide) w)
  have O2 := Lib.hid (fun w => rof_any (-9223372036854775808) (by decide) (by decide) w)
  have C1 := Lib.hid (fun w => rcmp_sg (fromS x) (decide ((9223372036854775807 : Int) < 0)) x 9223372036854775807 (fromS_sg x) (sg_dec _) (absI_20 hx) (by decide) w)
  have C2 := Lib.hid (fun w => rcmp_sg (fromS x) (decide ((-9223372036854775808 : Int) < 0)) x (-9223372036854775808) (fromS_sg x) (sg_dec _) (absI_20 hx) (by decide) w)
  rw [show decide ((9223372036854775807 : Int) < 0) = false by decide, show absI 9223372036854775807 = 9223372036854775807 by decide] at O1 C1
  rw [show decide ((-9223372036854775808 : Int) < 0) = true by decide, show absI (-9223372036854775808) = 9223372036854775808 by decide] at O2 C2
  obtain ⟨o1, e1, e1'⟩ : ∃ o, cmpI x 9223372036854775807 = o ∧ decide (0 < o) = false := ⟨_, rfl, by unfold cmpI; simp; split <;> (try split) <;> omega⟩
  obtain ⟨o2, e2, e2'⟩ : ∃ o, cmpI x (-9223372036854775808) = o ∧ decide (o < 0) = true := ⟨_, rfl, by unfold cmpI; simp; split <;> (try split) <;> omega⟩
  rw [e1] at C1
  rw [e2] at C2
  have BL := lo1 x
  have BL' := lo2 x
  clear b1
  generalize fromS x = s at *
  clear e1 e2 hx
  generalize absI x = ax at *
  go_enter Try.func66, Try.ntmps66
  go_wp2_with fail
  refine (F1.out _).mono ?_; rintro e w1 ⟨rfl, J1, d1, rfl⟩
  go_wp2_with fail
  refine wp_region_mo (by kernel_rfl) (by kernel_rfl) ?_
  repeat (go_big_quiet_step (first | (with_reducible exact quiet_mo (O1.out _)) | (with_reducible exact quiet_mo (C1.out _))))
  refine wpQuiet_nil ?_
  intro _ hw'
  obtain ⟨⟨J9, d9⟩, hw''⟩ := hw'
  subst hw''
  go_wp2_with fail
  refine wp_region_mo' (by kernel_rfl) (by kernel_rfl) ?_
  repeat (go_big_quiet_step (first | (with_reducible exact quiet_mo (O2.out _)) | (with_reducible exact quiet_mo (C2.out _))))
  refine wpQuiet_nil ?_
  intro _ hw'
  obtain ⟨⟨J8, d8⟩, hw''⟩ := hw'
  subst hw''
  go_wp2_with fail
  go_ret
  exact ⟨rfl, Mor.out⟩
set_option maxRecDepth 20000 in
theorem rclip_any (x : Int) (hx : InW x) (w : World) :
    Calls Try.prog 66 #[WV x] w fun e w' => e = .returned (.int .i64 (clip x)) ∧ Mo w w' := by
  unfold clip
  by_cases c1 : x < -9223372036854775808
  · rw [if_pos c1]; exact rclip_lo x hx c1 w
  · rw [if_neg c1]
    by_cases c2 : 9223372036854775807 < x
    · rw [if_pos c2]; exact rclip_hi x hx c2 w
    · rw [if_neg c2]; exact rclip_in x hx (by omega) (by omega) w
end Go.Proofs.Ythgkhllkhhnlpaa
