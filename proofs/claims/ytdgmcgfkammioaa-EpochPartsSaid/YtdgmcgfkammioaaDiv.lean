/- wide.Div gives quotient and rest, downwards. -/
import Derived.Test.YtdgmcgfkammioaaDiv64
namespace Go.Proofs.Ytdgmcgfkammioaa
open Go.RowKit

set_option maxRecDepth 20000 in
theorem div_parts (m n : Int) (h1 : 0 ≤ m) (h2 : m ≤ 170141183460469231731687303715884105728) (h3 : 0 < n) (_h4 : n < 18446744073709551616) :
    hiW m / n = hiW (m / n) ∧ (hiW m % n * 18446744073709551616 + loW m) / n = loW (m / n) ∧ (hiW m % n * 18446744073709551616 + loW m) % n = m % n ∧ 0 ≤ m / n ∧ m / n ≤ 170141183460469231731687303715884105728 := by
  have e := hilo m
  have l1 := lo1 m
  have l2 := lo2 m
  have d1 := Int.mul_ediv_add_emod (hiW m) n
  have d2 := Int.emod_nonneg (hiW m) (show n ≠ 0 by omega)
  have d3 := Int.emod_lt_of_pos (hiW m) h3
  have e2 : m = (hiW m % n * 18446744073709551616 + loW m) + hiW m / n * 18446744073709551616 * n := by
    have : hiW m / n * 18446744073709551616 * n = n * (hiW m / n) * 18446744073709551616 := by
      rw [Int.mul_right_comm, Int.mul_comm (hiW m / n) n]
    omega
  have q0 : 0 ≤ (hiW m % n * 18446744073709551616 + loW m) / n := Int.ediv_nonneg (by omega) (by omega)
  have q1 : (hiW m % n * 18446744073709551616 + loW m) / n < 18446744073709551616 := by rw [Int.ediv_lt_iff_lt_mul h3]; omega
  have e3 : m / n = hiW m / n * 18446744073709551616 + (hiW m % n * 18446744073709551616 + loW m) / n := by
    conv => lhs; rw [e2]
    rw [Int.add_mul_ediv_right _ _ (by omega), Int.add_comm]
  have e4 : (hiW m % n * 18446744073709551616 + loW m) % n = m % n := by
    conv => rhs; rw [e2]
    rw [Int.add_mul_emod_self_right]
  have hh : 0 ≤ hiW m := by unfold hiW; omega
  refine ⟨by rw [e3, hi_mk _ _ q0 q1], by rw [e3, lo_mk _ _ q0 q1], e4, Int.ediv_nonneg h1 (by omega), ?_⟩
  exact Int.le_trans (Int.ediv_le_self _ h1) h2

set_option maxRecDepth 20000 in
set_option maxHeartbeats 400000 in
theorem div_none (a : Int) (w : World) :
    Calls Try.prog 23 #[WV a, .int .u64 0] w fun e w' => e = .returned (.tuple #[WV 0, .int .u64 0, .bool false]) ∧ Mo w w' := by
  have e1 : hiW 0 = 0 := by decide
  have e2 : loW 0 = 0 := by decide
  go_enter Try.func23, Try.ntmps23
  go_wp2_with fail
  exact bodyPost_ret (v := .tuple #[WV 0, .int .u64 0, .bool false]) (by simp [results, Try.results23, go_sem, e1, e2]) rfl ⟨rfl, Mor.out⟩
set_option maxRecDepth 20000 in
theorem div_neg_floor (a n : Int) (_ : a < 0) (h3 : 0 < n) : 
    (-a % n = 0 → a / n = -(-a / n) ∧ a % n = 0) ∧ (0 < -a % n → a / n = -(-a / n) - 1 ∧ a % n = n - -a % n) := by
  have e := Int.mul_ediv_add_emod (-a) n
  have d2 := Int.emod_nonneg (-a) (show n ≠ 0 by omega)
  have d3 := Int.emod_lt_of_pos (-a) h3
  generalize hq : -a / n = q at *
  generalize hr : -a % n = r at *
  constructor
  · intro h0
    have ea : a = 0 + (-q) * n := by rw [Int.neg_mul, Int.mul_comm q n]; omega
    rw [ea, Int.add_mul_ediv_right _ _ (by omega), Int.add_mul_emod_self_right]
    simp
  · intro h0
    have ea : a = (n - r) + (-q - 1) * n := by rw [Int.sub_mul, Int.neg_mul, Int.mul_comm q n]; omega
    rw [ea, Int.add_mul_ediv_right _ _ (by omega), Int.add_mul_emod_self_right, Int.ediv_eq_zero_of_lt (by omega) (by omega), Int.emod_eq_of_lt (by omega) (by omega)]
    omega
set_option maxRecDepth 20000 in
set_option maxHeartbeats 400000 in
theorem div_plus (a n : Int) (ha : InW a) (h : 0 ≤ a) (h3 : 0 < n) (h4 : n < 18446744073709551616) (w : World) :
    Calls Try.prog 23 #[WV a, .int .u64 n] w fun e w' => e = .returned (.tuple #[WV (a / n), .int .u64 (a % n), .bool true]) ∧ Mo w w' := by
  have e : absI a = a := if_neg (by omega)
  obtain ⟨p1, p2, p3, p4, p5⟩ := div_parts a n h (by have := ha.2; omega) h3 h4
  have hn : ¬ hiW a < 0 := by unfold hiW; omega
  have hn' : decide (hiW a < 0) = false := by simp; unfold hiW; omega
  have hin : InW (a / n) := ⟨by omega, by have := Int.ediv_le_self n h; have := ha.2; omega⟩
  have H := fun w => signed_any (a / n) false false w p4 (by omega)
  have es : (if false = true then endW false else sgn (a / n) false) = a / n := by unfold sgn; simp [cl_in hin]
  rw [es] at H
  have HH := Lib.hid H
  have q1 := Int.emod_nonneg (hiW a) (show n ≠ 0 by omega)
  have q2 := Int.emod_lt_of_pos (hiW a) h3
  have q3 := lo1 a
  have q4 := lo2 a
  have hz : (n == 0) = false := by simp; omega
  have hh : 0 ≤ hiW a := by omega
  have hh2 := ha.h2
  have P1 := Lib.hid p1
  have P2 := Lib.hid p2
  have P3 := Lib.hid p3
  have hs := size_any a ha
  rw [e] at hs
  have HS := Lib.hid hs
  clear H es p1 p2 p3 p5 e hs
  go_enter Try.func23, Try.ntmps23
  go_wp2_with fail
  refine (HS.out _).mono ?_; rintro e w1 ⟨rfl, J, d, rfl⟩
  go_wp2_with fail
  refine (div64_any _ _ _ q1 q2 q3 q4 h4 _).mono ?_; rintro e w1 ⟨rfl, J, d, rfl⟩
  rw [P2.out, P3.out]
  go_wp2_with fail
  rw [P1.out]
  refine (HH.out _).mono ?_; rintro e w1 ⟨rfl, J, d, rfl⟩
  go_wp2_with fail
  exact bodyPost_ret (v := .tuple #[WV (a / n), .int .u64 (a % n), .bool true]) (by simp [results, Try.results23, go_sem]) rfl ⟨rfl, Mor.out⟩
set_option maxRecDepth 20000 in
set_option maxHeartbeats 1000000 in
theorem div_minus0 (a n : Int) (ha : InW a) (h : a < 0) (h3 : 0 < n) (h4 : n < 18446744073709551616) (hr : -a % n = 0) (w : World) :
    Calls Try.prog 23 #[WV a, .int .u64 n] w fun e w' => e = .returned (.tuple #[WV (a / n), .int .u64 (a % n), .bool true]) ∧ Mo w w' := by
  have e : absI a = -a := if_pos h
  have ha1 := ha.1
  obtain ⟨p1, p2, p3, p4, p5⟩ := div_parts (-a) n (by omega) (by omega) h3 h4
  obtain ⟨f1, f2⟩ := (div_neg_floor a n h h3).1 hr
  have hn : hiW a < 0 := by unfold hiW; omega
  have hin : InW (-(-a / n)) := ⟨by omega, by omega⟩
  have H := fun w => signed_any (-a / n) true false w p4 (by omega)
  have es : (if false = true then endW true else sgn (-a / n) true) = a / n := by
    rw [f1]; unfold sgn; simp [cl_in hin]
  rw [es] at H
  have HH := Lib.hid H
  have q1 := Int.emod_nonneg (hiW (-a)) (show n ≠ 0 by omega)
  have q2 := Int.emod_lt_of_pos (hiW (-a)) h3
  have q3 := lo1 (-a)
  have q4 := lo2 (-a)
  have hz : (n == 0) = false := by simp; omega
  have hh : 0 ≤ hiW (-a) := by unfold hiW; omega
  have hh2 : hiW (-a) ≤ 9223372036854775808 := by unfold hiW; omega
  have P1 := Lib.hid p1
  have P2 := Lib.hid p2
  have P3 := Lib.hid p3
  have HF := Lib.hid f2
  have HR := Lib.hid hr
  have hs := size_any a ha
  rw [e] at hs
  have HS := Lib.hid hs
  clear H es p1 p2 p3 p5 e hs f1 f2 hr
  go_enter Try.func23, Try.ntmps23
  go_wp2_with fail
  refine (HS.out _).mono ?_; rintro e w1 ⟨rfl, J, d, rfl⟩
  go_wp2_with fail
  refine (div64_any _ _ _ q1 q2 q3 q4 h4 _).mono ?_; rintro e w1 ⟨rfl, J, d, rfl⟩
  rw [P2.out, P3.out, HR.out]
  go_wp2_with fail
  rw [P1.out]
  refine (HH.out _).mono ?_; rintro e w1 ⟨rfl, J, d, rfl⟩
  go_wp2_with fail
  rw [HF.out]
  exact bodyPost_ret (v := .tuple #[WV (a / n), .int .u64 0, .bool true]) (by simp [results, Try.results23, go_sem]) rfl ⟨rfl, Mor.out⟩
set_option maxRecDepth 20000 in
set_option maxHeartbeats 1000000 in
theorem div_minus (a n : Int) (ha : InW a) (h : a < 0) (h3 : 0 < n) (h4 : n < 18446744073709551616) (hr : 0 < -a % n) (w : World) :
    Calls Try.prog 23 #[WV a, .int .u64 n] w fun e w' => e = .returned (.tuple #[WV (a / n), .int .u64 (a % n), .bool true]) ∧ Mo w w' := by
  have e : absI a = -a := if_pos h
  have ha1 := ha.1
  obtain ⟨p1, p2, p3, p4, p5⟩ := div_parts (-a) n (by omega) (by omega) h3 h4
  obtain ⟨f1, f2⟩ := (div_neg_floor a n h h3).2 hr
  have hn : hiW a < 0 := by unfold hiW; omega
  have hin : InW (-(-a / n)) := ⟨by omega, by omega⟩
  have hin2 : InW (a / n) := by
    have := Int.ediv_le_self n (show 0 ≤ -a by omega)
    have hne : -a / n ≠ 170141183460469231731687303715884105728 := by
      intro hc
      have k1 := Int.mul_ediv_add_emod (-a) n
      rw [hc] at k1
      have : n * 170141183460469231731687303715884105728 ≥ 170141183460469231731687303715884105728 := by omega
      omega
    exact ⟨by omega, by omega⟩
  have H := fun w => signed_any (-a / n) true false w p4 (by omega)
  have es : (if false = true then endW true else sgn (-a / n) true) = -(-a / n) := by
    unfold sgn; simp [cl_in hin]
  rw [es] at H
  have HH := Lib.hid H
  have G := fun w => sub_any (-(-a / n)) 1 hin (inW_i64 (by omega) (by omega)) w
  rw [← f1, cl_in hin2] at G
  have HG := Lib.hid G
  have q1 := Int.emod_nonneg (hiW (-a)) (show n ≠ 0 by omega)
  have q2 := Int.emod_lt_of_pos (hiW (-a)) h3
  have q3 := lo1 (-a)
  have q4 := lo2 (-a)
  have hz : (n == 0) = false := by simp; omega
  have hh : 0 ≤ hiW (-a) := by unfold hiW; omega
  have hh2 : hiW (-a) ≤ 9223372036854775808 := by unfold hiW; omega
  have hr2 := Int.emod_lt_of_pos (-a) h3
  have P1 := Lib.hid p1
  have P2 := Lib.hid p2
  have P3 := Lib.hid p3
  have hs := size_any a ha
  rw [e] at hs
  have HS := Lib.hid hs
  obtain ⟨r, hrr⟩ : ∃ r, -a % n = r := ⟨_, rfl⟩
  rw [hrr] at hr hr2 P3 f2
  have HF := Lib.hid f2
  have hwr : IntKind.u64.wrap (n - r) = n - r := by rw [IntKind.wrap_u64]; omega
  clear H es p1 p2 p3 p5 e hs f1 f2 G hrr
  go_enter Try.func23, Try.ntmps23
  go_wp2_with fail
  refine (HS.out _).mono ?_; rintro e w1 ⟨rfl, J, d, rfl⟩
  go_wp2_with fail
  refine (div64_any _ _ _ q1 q2 q3 q4 h4 _).mono ?_; rintro e w1 ⟨rfl, J, d, rfl⟩
  rw [P2.out, P3.out]
  go_wp2_with fail
  rw [P1.out]
  refine (HH.out _).mono ?_; rintro e w1 ⟨rfl, J, d, rfl⟩
  go_wp2_with fail
  go_region_with (first
    | (go_at_call 18; refine (of_any 1 (by omega) (by omega) _).mono ?_; rintro e w1 ⟨rfl, J2, d2, rfl⟩)
    | (go_at_call 36; refine (HG.out _).mono ?_; rintro e w1 ⟨rfl, J3, d3, rfl⟩))
  all_goals go_wp2_with fail
  all_goals rw [HF.out]
  all_goals exact bodyPost_ret (v := .tuple #[WV (a / n), .int .u64 (n - r), .bool true]) (by simp [results, Try.results23, go_sem]) rfl ⟨rfl, Mor.out⟩
set_option maxRecDepth 20000 in
theorem div_any (a n : Int) (ha : InW a) (h3 : 0 < n) (h4 : n < 18446744073709551616) (w : World) :
    Calls Try.prog 23 #[WV a, .int .u64 n] w fun e w' => e = .returned (.tuple #[WV (a / n), .int .u64 (a % n), .bool true]) ∧ Mo w w' := by
  by_cases h : 0 ≤ a
  · exact div_plus a n ha h h3 h4 w
  · have := Int.emod_nonneg (-a) (show n ≠ 0 by omega)
    by_cases hr : -a % n = 0
    · exact div_minus0 a n ha (by omega) h3 h4 hr w
    · exact div_minus a n ha (by omega) h3 h4 (by omega) w
end Go.Proofs.Ytdgmcgfkammioaa
