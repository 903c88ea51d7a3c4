/- horologeref01: Num64, Of, Neg, Zero, power: what each returns, in integers. -/
import Derived.Test.YtfojgjannhhbaaaNum
import Derived.Test.YtfojgjannhhbaaaWide
namespace Go.Proofs.Ytfojgjannhhbaaa
open Go.RowKit

/-- the piece at place i -/
def lim (n : Int) (i : Nat) : Int := n / 65536 ^ i % 65536
abbrev NN (b : Bool) (n : Int) : Value := NV b (lim n)
set_option maxRecDepth 20000 in
theorem lim_bd (n : Int) (i : Nat) : 0 ≤ lim n i ∧ lim n i < 65536 := by unfold lim; omega
set_option maxRecDepth 20000 in
theorem pow_pos' (i : Nat) : (0 : Int) < 65536 ^ i := Int.pow_pos (by decide)
set_option maxRecDepth 20000 in
theorem lim_great {n : Int} {i k : Nat} (h0 : 0 ≤ n) (h : n < 65536 ^ k) (hk : k ≤ i) : lim n i = 0 := by
  unfold lim
  have : (65536 : Int) ^ k ≤ 65536 ^ i := by
    obtain ⟨j, rfl⟩ : ∃ j, i = k + j := ⟨i - k, by omega⟩
    rw [Int.pow_add]
    have h1 := Int.mul_le_mul_of_nonneg_left (show (1 : Int) ≤ 65536 ^ j by have := pow_pos' j; omega) (show (0 : Int) ≤ 65536 ^ k by have := pow_pos' k; omega)
    simpa using h1
  rw [Int.ediv_eq_zero_of_lt h0 (by omega)]; rfl
/-- the first k pieces -/
def cut (n : Int) (k : Nat) (i : Nat) : Int := if i < k then lim n i else 0
set_option maxRecDepth 20000 in
theorem cut_0 (n : Int) : cut n 0 = fun _ => 0 := by funext i; simp [cut]
set_option maxRecDepth 20000 in
theorem cut_succ (n : Int) (k : Nat) : upd (cut n k) k (n / 65536 ^ k % 65536) = cut n (k + 1) := by
  funext i
  unfold upd cut
  by_cases c : i = k
  · subst c; simp [lim]
  · by_cases d : i < k
    · rw [if_neg c, if_pos d, if_pos (by omega)]
    · rw [if_neg c, if_neg d, if_neg (by omega)]
set_option maxRecDepth 20000 in
theorem cut_end {n : Int} (h0 : 0 ≤ n) (h : n < 18446744073709551616) (b : Bool) : numC b (cut n 4) = numC b (lim n) :=
  numC_congr fun i _ => by
    unfold cut
    split
    · rfl
    · rw [lim_great (k := 4) h0 (by simpa using h) (by omega)]
set_option maxRecDepth 20000 in
theorem div_pow_succ (n : Int) (k : Nat) : n / 65536 ^ k / 65536 = n / 65536 ^ (k + 1) := by
  rw [Int.pow_succ, Int.ediv_ediv_of_nonneg (by have := pow_pos' k; omega)]
set_option maxRecDepth 20000 in
theorem div_pow_bd {n : Int} (h0 : 0 ≤ n) (h : n < 18446744073709551616) (k : Nat) : 0 ≤ n / 65536 ^ k ∧ n / 65536 ^ k < 18446744073709551616 := by
  constructor
  · exact Int.ediv_nonneg h0 (by have := pow_pos' k; omega)
  · exact Int.lt_of_le_of_lt (Int.ediv_le_self _ h0) h

set_option maxRecDepth 20000 in
set_option maxHeartbeats 400000 in
theorem num64_any (n : Int) (h0 : 0 ≤ n) (h1 : n < 18446744073709551616) (w : World) : Calls Try.prog 48 #[.int .u64 n] w fun e w' => e = .returned (NN false n) ∧ Mo w w' := by
  go_enter Try.func48, Try.ntmps48
  go_wp2_with fail
  go_loopw [0, 4] (fun u i wr => ∃ k : Nat, k ≤ 4 ∧ i = .int .i64 k ∧ u = .int .u64 (n / 65536 ^ k) ∧ wr = (w.alloc (.cells (numC false (fun _ => 0)) 73)).alloc (.cells (numC false (cut n k)) 73)) (fun _ i _ => 4 - (intOf i).toNat)
  case atStart => exact ⟨0, by omega, rfl, by simp, by rw [cut_0]⟩
  case round =>
    obtain ⟨k, hk, rfl, rfl, rfl⟩ := hrel
    obtain ⟨d1, d2⟩ := div_pow_bd h0 h1 k
    have HC := Lib.hid (cut_succ n k)
    have HD := Lib.hid (div_pow_succ n k)
    by_cases c : k < 4
    · have c20 : k < 20 := by omega
      go_wp2_with fail
      go_roundw
      case rel => exact ⟨k + 1, by omega, by go_num, by rw [← HD.out], by rw [← HC.out]⟩
      case measure => simp [intOf]; omega
    · obtain rfl : k = 4 := by omega
      have HE := Lib.hid (cut_end h0 h1 false)
      clear HC HD d1 d2
      rw [HE.out]
      go_wp2_with fail
      exact ret_num w.heap.size 73 (numC false (lim n)) Try.results48 rfl rfl ⟨rfl, Mor.out⟩

set_option maxRecDepth 20000 in
set_option maxHeartbeats 400000 in
theorem rof_pos (n : Int) (h0 : 0 ≤ n) (h1 : n ≤ 9223372036854775807) (w : World) : Calls Try.prog 30 #[.int .i64 n] w fun e w' => e = .returned (NN false n) ∧ Mo w w' := by
  have hn : decide (n < 0) = false := by simp; omega
  have h2 : n < 18446744073709551616 := by omega
  go_enter Try.func30, Try.ntmps30
  go_wp2_with fail
  go_loopw [4, 5] (fun u i wr => ∃ k : Nat, k ≤ 4 ∧ i = .int .i64 k ∧ u = .int .u64 (n / 65536 ^ k) ∧ wr = (w.alloc (.cells (numC false (fun _ => 0)) 73)).alloc (.cells (numC false (cut n k)) 73)) (fun _ i _ => 4 - (intOf i).toNat)
  case atStart => exact ⟨0, by omega, rfl, by simp, by rw [cut_0]⟩
  case round =>
    obtain ⟨k, hk, rfl, rfl, rfl⟩ := hrel
    obtain ⟨d1, d2⟩ := div_pow_bd h0 h2 k
    have HC := Lib.hid (cut_succ n k)
    have HD := Lib.hid (div_pow_succ n k)
    by_cases c : k < 4
    · have c20 : k < 20 := by omega
      go_wp2_with fail
      go_roundw
      case rel => exact ⟨k + 1, by omega, by go_num, by rw [← HD.out], by rw [← HC.out]⟩
      case measure => simp [intOf]; omega
    · obtain rfl : k = 4 := by omega
      have HE := Lib.hid (cut_end h0 h2 false)
      clear HC HD d1 d2
      rw [HE.out]
      go_wp2_with fail
      exact ret_num w.heap.size 73 (numC false (lim n)) Try.results30 rfl rfl ⟨rfl, Mor.out⟩
set_option maxRecDepth 20000 in
set_option maxHeartbeats 400000 in
theorem rof_neg (n : Int) (h0 : n < 0) (h1 : -9223372036854775808 ≤ n) (w : World) : Calls Try.prog 30 #[.int .i64 n] w fun e w' => e = .returned (NN true (-n)) ∧ Mo w w' := by
  have hn : decide (n < 0) = true := by simpa using h0
  obtain ⟨m, hm⟩ : ∃ m, -n = m := ⟨_, rfl⟩
  have hu : IntKind.u64.wrap (-IntKind.u64.wrap n) = m := by rw [IntKind.wrap_u64, IntKind.wrap_u64]; omega
  have m0 : 0 ≤ m := by omega
  have m1 : m < 18446744073709551616 := by omega
  rw [hm]
  clear hm
  go_enter Try.func30, Try.ntmps30
  go_wp2_with fail
  go_loopw [4, 5] (fun u i wr => ∃ k : Nat, k ≤ 4 ∧ i = .int .i64 k ∧ u = .int .u64 (m / 65536 ^ k) ∧ wr = (w.alloc (.cells (numC false (fun _ => 0)) 73)).alloc (.cells (numC true (cut m k)) 73)) (fun _ i _ => 4 - (intOf i).toNat)
  case atStart => exact ⟨0, by omega, rfl, by simp, by rw [cut_0]⟩
  case round =>
    obtain ⟨k, hk, rfl, rfl, rfl⟩ := hrel
    obtain ⟨d1, d2⟩ := div_pow_bd m0 m1 k
    have HC := Lib.hid (cut_succ m k)
    have HD := Lib.hid (div_pow_succ m k)
    by_cases c : k < 4
    · have c20 : k < 20 := by omega
      go_wp2_with fail
      go_roundw
      case rel => exact ⟨k + 1, by omega, by go_num, by rw [← HD.out], by rw [← HC.out]⟩
      case measure => simp [intOf]; omega
    · obtain rfl : k = 4 := by omega
      have HE := Lib.hid (cut_end m0 m1 true)
      clear HC HD d1 d2
      rw [HE.out]
      go_wp2_with fail
      exact ret_num w.heap.size 73 (numC true (lim m)) Try.results30 rfl rfl ⟨rfl, Mor.out⟩
set_option maxRecDepth 20000 in
theorem rof_any (n : Int) (h1 : -9223372036854775808 ≤ n) (h2 : n ≤ 9223372036854775807) (w : World) : Calls Try.prog 30 #[.int .i64 n] w fun e w' => e = .returned (NN (decide (n < 0)) (absI n)) ∧ Mo w w' := by
  by_cases c : n < 0
  · rw [show absI n = -n from if_pos c, decide_eq_true c]; exact rof_neg n c h1 w
  · rw [show absI n = n from if_neg c, decide_eq_false c]; exact rof_pos n (by omega) h2 w

/-- are all pieces nought? -/
def zer (l : Nat → Int) : Bool := (List.range 20).all fun i => decide (l i = 0)
set_option maxRecDepth 20000 in
theorem zer_iff (l : Nat → Int) : zer l = true ↔ ∀ i, i < 20 → l i = 0 := by simp [zer]
set_option maxRecDepth 20000 in
set_option maxHeartbeats 400000 in
theorem zero_any (b : Bool) (l : Nat → Int) (hl : ∀ i, 0 ≤ l i) (w : World) : Calls Try.prog 56 #[NV b l] w fun e w' => e = .returned (.bool (zer l)) ∧ Mo w w' := by
  go_enter Try.func56, Try.ntmps56
  go_wp2_with fail
  go_loop [3] (fun i => ∃ k : Nat, k ≤ 20 ∧ i = .int .i64 k ∧ Hid (∀ j, j < k → l j = 0)) (fun i => 20 - (intOf i).toNat)
  case atStart => exact ⟨0, by omega, rfl, Lib.hid (by intro j h; omega)⟩
  case round =>
    obtain ⟨k, hk, rfl, hz⟩ := hrel
    by_cases c : k < 20
    · by_cases d : 0 < l k
      · have e : zer l = false := by
          rcases h : zer l with _ | _
          · rfl
          · have := (zer_iff l).1 h k c; omega
        have he := Lib.hid e
        clear hl e
        go_wp2_with fail
        go_ret
        exact ⟨by rw [he.out]; rfl, Mor.out⟩
      · have e : l k = 0 := by have := hl k; omega
        have he := Lib.hid e
        clear hl e
        go_wp2_with fail
        go_round
        case rel =>
          refine ⟨k + 1, by omega, by go_num, Lib.hid fun j hj => ?_⟩
          by_cases f : j = k
          · subst f; exact he.out
          · exact hz.out j (by omega)
        case measure => simp [intOf]; omega
    · have e : zer l = true := (zer_iff l).2 fun i hi => hz.out i (by omega)
      have he := Lib.hid e
      clear hl e
      go_wp2_with fail
      go_ret
      exact ⟨by rw [he.out]; rfl, Mor.out⟩
end Go.Proofs.Ytfojgjannhhbaaa
