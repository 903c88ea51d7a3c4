/- What each function of package wide returns, in integers: Mul, Scale, Clip, Root. -/
import Derived.Test.YtdgmcgfkammioaaWide2
import Derived.Lib.Hide
namespace Go.Proofs.Ytdgmcgfkammioaa
open Go.RowKit

set_option maxRecDepth 20000 in
set_option maxHeartbeats 400000 in
theorem one_any (n : Int) (h1 : -9223372036854775808 ≤ n) (h2 : n ≤ 9223372036854775807) (w : World) :
    Calls Try.prog 30 #[.int .i64 n] w fun e w' => e = .returned (.int .u64 (absI n)) ∧ w = w' := by
  by_cases h : n < 0
  · have e : IntKind.u64.wrap (-IntKind.u64.wrap n) = absI n := by
      have e : absI n = -n := if_pos h
      rw [e, IntKind.wrap_u64, IntKind.wrap_u64]; omega
    go_enter Try.func30, Try.ntmps30
    go_wp2
    go_ret
    exact ⟨rfl, rfl⟩
  · have e : absI n = n := if_neg h
    rw [e]
    clear e
    go_enter Try.func30, Try.ntmps30
    go_wp2
    go_ret
    exact ⟨rfl, rfl⟩
set_option maxRecDepth 20000 in
theorem mul_sgn (a b : Int) (h1 : -9223372036854775808 ≤ a) (h2 : a ≤ 9223372036854775807) (h3 : -9223372036854775808 ≤ b) (h4 : b ≤ 9223372036854775807) :
    sgn (absI a * absI b) (decide (a < 0) != decide (b < 0)) = a * b ∧ 0 ≤ absI a * absI b ∧ absI a * absI b ≤ 85070591730234615865843651857942052864 := by
  have key : ∀ x y : Int, 0 ≤ x → x ≤ 9223372036854775808 → 0 ≤ y → y ≤ 9223372036854775808 → 0 ≤ x * y ∧ x * y ≤ 85070591730234615865843651857942052864 := by
    intro x y a b c d
    exact ⟨Int.mul_nonneg a c, Int.le_trans (Int.mul_le_mul b d c (by decide)) (by decide)⟩
  by_cases ha : a < 0 <;> by_cases hb : b < 0
  · have e1 : absI a = -a := if_pos ha
    have e2 : absI b = -b := if_pos hb
    have k := key (-a) (-b) (by omega) (by omega) (by omega) (by omega)
    rw [e1, e2, Int.neg_mul_neg] at *
    refine ⟨?_, k⟩
    simp only [sgn, ha, hb]
    exact cl_in (by unfold InW; omega)
  · have e1 : absI a = -a := if_pos ha
    have e2 : absI b = b := if_neg hb
    have k := key (-a) b (by omega) (by omega) (by omega) (by omega)
    rw [e1, e2] at *
    refine ⟨?_, k⟩
    simp only [sgn, ha, hb, Int.neg_mul] at *
    simp only [decide_true, decide_false, Bool.true_bne, Bool.not_false, if_true, Int.neg_neg]
    exact cl_in (by unfold InW; omega)
  · have e1 : absI a = a := if_neg ha
    have e2 : absI b = -b := if_pos hb
    have k := key a (-b) (by omega) (by omega) (by omega) (by omega)
    rw [e1, e2] at *
    refine ⟨?_, k⟩
    simp only [sgn, ha, hb, Int.mul_neg] at *
    simp only [decide_true, decide_false, Bool.false_bne, if_true, Int.neg_neg]
    exact cl_in (by unfold InW; omega)
  · have e1 : absI a = a := if_neg ha
    have e2 : absI b = b := if_neg hb
    have k := key a b (by omega) (by omega) (by omega) (by omega)
    rw [e1, e2] at *
    refine ⟨?_, k⟩
    simp only [sgn, ha, hb]
    exact cl_in (by unfold InW; omega)
set_option maxRecDepth 20000 in
theorem absI_64 {n : Int} (h1 : -9223372036854775808 ≤ n) (h2 : n ≤ 9223372036854775807) : 0 ≤ absI n ∧ absI n < 18446744073709551616 := by
  unfold absI; split <;> omega
set_option maxRecDepth 20000 in
set_option maxHeartbeats 400000 in
theorem mul_any (a b : Int) (h1 : -9223372036854775808 ≤ a) (h2 : a ≤ 9223372036854775807) (h3 : -9223372036854775808 ≤ b) (h4 : b ≤ 9223372036854775807) (w : World) :
    Calls Try.prog 21 #[.int .i64 a, .int .i64 b] w fun e w' => e = .returned (WV (a * b)) ∧ Mo w w' := by
  obtain ⟨m1, m2, m3⟩ := mul_sgn a b h1 h2 h3 h4
  obtain ⟨a1, a2⟩ := absI_64 h1 h2
  obtain ⟨b1, b2⟩ := absI_64 h3 h4
  have e : (if false = true then endW (decide (a < 0) != decide (b < 0)) else sgn (absI a * absI b) (decide (a < 0) != decide (b < 0))) = a * b := by rw [if_neg (by simp), m1]
  have H := signed_any (absI a * absI b) (decide (a < 0) != decide (b < 0)) false
  rw [e] at H
  have HH := Lib.hid H
  clear m1 e H
  go_enter Try.func21, Try.ntmps21
  go_wp2_with fail
  refine (one_any a h1 h2 _).mono ?_; rintro e w1 ⟨rfl, rfl⟩
  go_wp2_with fail
  refine (one_any b h3 h4 _).mono ?_; rintro e w1 ⟨rfl, rfl⟩
  go_wp2_with fail
  refine (mul64_any _ _ a1 a2 b1 b2 _).mono ?_; rintro e w1 ⟨rfl, rfl⟩
  go_wp2_with fail
  refine (HH.out _ m2 (by omega)).mono ?_; rintro e w1 ⟨rfl, J, d, rfl⟩
  go_wp2_with fail
  exact bodyPost_ret (v := WV (a * b)) (by simp [results, Try.results21, go_sem]) rfl ⟨rfl, Mor.out⟩

/-! ### Clip -/
def clip (x : Int) : Int := if x < -9223372036854775808 then -9223372036854775808 else if 9223372036854775807 < x then 9223372036854775807 else x
set_option maxRecDepth 20000 in
theorem clip_in {a : Int} (h1 : -9223372036854775808 ≤ a) (h2 : a ≤ 9223372036854775807) : clip a = a := by
  unfold clip; rw [if_neg (by omega), if_neg (by omega)]
set_option maxRecDepth 20000 in
set_option maxHeartbeats 400000 in
theorem clip_any (a : Int) (ha : InW a) (w : World) :
    Calls Try.prog 24 #[WV a] w fun e w' => e = .returned (.int .i64 (clip a)) ∧ Mo w w' := by
  by_cases h : -9223372036854775808 ≤ a ∧ a ≤ 9223372036854775807
  · obtain ⟨h1, h2⟩ := h
    have e0 : wrap64 (loW a) = a := by unfold wrap64 loW; omega
    rw [clip_in h1 h2]
    go_enter Try.func24, Try.ntmps24
    go_wp2_with fail
    go_region_held3 (fun w' => w'.cell? ⟨w.heap.size, 0, none⟩ = some (.int .i64 (hiW a)) ∧ w'.cell? ⟨w.heap.size, 1, none⟩ = some (.int .u64 (loW a))) (simp [go_sem])
      (first
      | (go_at_call 18; refine (of_any a h1 h2 _).mono ?_; rintro e w1 ⟨rfl, J, d, rfl⟩))
    go_wp2_with fail
    go_ret
    exact ⟨rfl, Mor.out⟩
  · obtain ⟨n, hn⟩ : ∃ n, wrap64 (loW a) = n := ⟨_, rfl⟩
    have n1 : -9223372036854775808 ≤ n := by rw [← hn]; unfold wrap64; omega
    have n2 : n ≤ 9223372036854775807 := by rw [← hn]; unfold wrap64; omega
    have hne : (hiW a = hiW n) = False := by
      rw [← hn]
      have := ha.1; have := ha.2
      simp only [eq_iff_iff, iff_false]
      unfold hiW wrap64 loW
      omega
    by_cases c : hiW a < 0
    · have e : clip a = -9223372036854775808 := by unfold clip; unfold hiW at c; rw [if_pos (by omega)]
      rw [e]
      clear e
      go_enter Try.func24, Try.ntmps24
      go_wp2_with fail
      go_region_held3 (fun w' => w'.cell? ⟨w.heap.size, 0, none⟩ = some (.int .i64 (hiW a)) ∧ w'.cell? ⟨w.heap.size, 1, none⟩ = some (.int .u64 (loW a))) (simp [go_sem])
        (first
        | (go_at_call 18; refine (of_any n n1 n2 _).mono ?_; rintro e w1 ⟨rfl, J, d, rfl⟩))
      go_wp2_with fail
      go_ret
      exact ⟨rfl, Mor.out⟩
    · have e : clip a = 9223372036854775807 := by unfold clip; unfold hiW at c; rw [if_neg (by omega), if_pos (by omega)]
      rw [e]
      clear e
      go_enter Try.func24, Try.ntmps24
      go_wp2_with fail
      go_region_held3 (fun w' => w'.cell? ⟨w.heap.size, 0, none⟩ = some (.int .i64 (hiW a)) ∧ w'.cell? ⟨w.heap.size, 1, none⟩ = some (.int .u64 (loW a))) (simp [go_sem])
        (first
        | (go_at_call 18; refine (of_any n n1 n2 _).mono ?_; rintro e w1 ⟨rfl, J, d, rfl⟩))
      go_wp2_with fail
      go_ret
      exact ⟨rfl, Mor.out⟩

/-! ### Scale -/
set_option maxRecDepth 20000 in
theorem scale_law (m n : Int) (h1 : 0 ≤ m) (h2 : m ≤ 170141183460469231731687303715884105728) (h3 : 0 ≤ n) (h4 : n ≤ 4294967295) (below : Bool) :
    (if decide (0 < IntKind.u64.wrap (hiW (hiW m * n) + (loW (hiW m * n) + hiW (loW m * n)) / 18446744073709551616)) then endW below
      else sgn ((loW (hiW m * n) + hiW (loW m * n)) % 18446744073709551616 * 18446744073709551616 + loW (loW m * n)) below) = cl (if below then -(m * n) else m * n) := by
  have hm := hilo m
  have l1 := lo1 m
  have l2 := lo2 m
  have d1 := hilo (hiW m * n)
  have d2 := hilo (loW m * n)
  have p1 := lo1 (hiW m * n)
  have p2 := lo2 (hiW m * n)
  have p3 := lo1 (loW m * n)
  have p4 := lo2 (loW m * n)
  have hn0 : 0 ≤ hiW m := by omega
  have hn1 : hiW m ≤ 9223372036854775808 := by omega
  have q1 : 0 ≤ hiW m * n := Int.mul_nonneg hn0 h3
  have q2 : hiW m * n ≤ 9223372036854775808 * 4294967295 := Int.mul_le_mul hn1 h4 h3 (by omega)
  have q3 : 0 ≤ loW m * n := Int.mul_nonneg l1 h3
  have q4 : loW m * n ≤ 18446744073709551615 * 4294967295 := Int.mul_le_mul (by omega) h4 h3 (by omega)
  have e : m * n = hiW m * n * 18446744073709551616 + loW m * n := by rw [← hm]; rw [hm]; conv => lhs; rw [← hm]
                                                                      rw [Int.add_mul]; congr 1; rw [Int.mul_assoc, Int.mul_comm 18446744073709551616 n, ← Int.mul_assoc]
  generalize hiW m * n = A at *
  generalize loW m * n = B at *
  have w1 : IntKind.u64.wrap (hiW A + (loW A + hiW B) / 18446744073709551616) = hiW A + (loW A + hiW B) / 18446744073709551616 := by
    rw [IntKind.wrap_u64]; omega
  rw [w1]
  by_cases c : 0 < hiW A + (loW A + hiW B) / 18446744073709551616
  · rw [decide_eq_true c, if_pos rfl]
    exact endW_le (m * n) below (by omega)
  · rw [decide_eq_false c, if_neg (by simp)]
    show sgn _ below = sgn (m * n) below
    congr 1
    omega
end Go.Proofs.Ytdgmcgfkammioaa
