/- What each function of package wide returns, in integers: size, signed, Mul, Scale. -/
import Derived.Test.YtdgmcgfkammioaaWide
import Derived.Test.YtdgmcgfkammioaaShelf
namespace Go.Proofs.Ytdgmcgfkammioaa
open Go.RowKit

set_option maxRecDepth 20000 in
theorem mul64_any (x y : Int) (h1 : 0 ≤ x) (h2 : x < 18446744073709551616) (h3 : 0 ≤ y) (h4 : y < 18446744073709551616) (w : World) :
    Calls Try.prog 31 #[.int .u64 x, .int .u64 y] w fun e w' => e = .returned (.tuple #[.int .u64 (hiW (x * y)), .int .u64 (loW (x * y))]) ∧ w = w' := by
  obtain ⟨x, rfl⟩ := Int.eq_ofNat_of_zero_le h1
  obtain ⟨y, rfl⟩ := Int.eq_ofNat_of_zero_le h3
  refine (Try.bits_Mul64 x y (by omega) (by omega) w).mono ?_
  rintro e w' ⟨rfl, rfl⟩
  refine ⟨?_, rfl⟩
  unfold hiW loW
  rw [← Int.natCast_mul]
  congr 5

set_option maxRecDepth 20000 in
theorem sub64_00 (y : Int) (hy : 0 ≤ y) (hy' : y < 18446744073709551616) (w : World) : (callFunc 55 #[.int .u64 0, .int .u64 y, .int .u64 0]).run Try.prog w =
    .ok (.value (.tuple #[.int .u64 ((-y) % 18446744073709551616), .int .u64 (bor 0 y)])) w := by
  simpa using sub64 0 y 0 (Int.le_refl 0) hy hy' (Int.le_refl 0) (by decide) w
set_option maxRecDepth 20000 in
theorem sub64_0b (y b : Int) (hy : 0 ≤ y) (hy' : y < 18446744073709551616) (hb0 : 0 ≤ b) (hb : b ≤ 1) (w : World) : (callFunc 55 #[.int .u64 0, .int .u64 y, .int .u64 b]).run Try.prog w =
    .ok (.value (.tuple #[.int .u64 ((-y - b) % 18446744073709551616), .int .u64 (bor 0 (y + b))])) w := by
  simpa using sub64 0 y b (Int.le_refl 0) hy hy' hb0 hb w
set_option maxRecDepth 20000 in
theorem absI_lo (a : Int) (h : hiW a < 0) : (-loW a) % 18446744073709551616 = loW (absI a) := by
  have e : absI a = -a := if_pos (by unfold hiW at h; omega)
  rw [e]; unfold loW; omega
set_option maxRecDepth 20000 in
theorem absI_hi (a : Int) (ha : InW a) (h : hiW a < 0) : (-IntKind.u64.wrap (hiW a) - bor 0 (loW a)) % 18446744073709551616 = hiW (absI a) := by
  have := ha.1; have := ha.2
  unfold hiW at h
  have e : absI a = -a := if_pos (by omega)
  rw [e, IntKind.wrap_u64]; unfold bor loW hiW; split <;> omega
set_option maxRecDepth 20000 in
theorem absI_bd {a : Int} (ha : InW a) : 0 ≤ absI a ∧ absI a ≤ 170141183460469231731687303715884105728 := by
  have := ha.1; have := ha.2
  unfold absI; split <;> omega
set_option maxRecDepth 20000 in
set_option maxHeartbeats 400000 in
theorem size_any (a : Int) (ha : InW a) (w : World) :
    Calls Try.prog 34 #[WV a] w fun e w' => e = .returned (.tuple #[.int .u64 (hiW (absI a)), .int .u64 (loW (absI a))]) ∧ Mo w w' := by
  have a1 := ha.h1
  have a2 := ha.h2
  by_cases h : hiW a < 0
  · have hn : ¬ 0 ≤ hiW a := by omega
    have e1 := absI_lo a h
    have e2 := absI_hi a ha h
    have g1 := lo1 a
    have g2 := lo2 a
    have k0 := bor1 0 (loW a)
    have k1 := bor2 0 (loW a)
    have u2 : 0 ≤ IntKind.u64.wrap (hiW a) := by rw [IntKind.wrap_u64]; omega
    have u3 : IntKind.u64.wrap (hiW a) < 18446744073709551616 := by rw [IntKind.wrap_u64]; omega
    go_enter Try.func34, Try.ntmps34
    go_wp2
    go_quiet (fail)
    go_wp2_with (first | simp only [sub64_00 _ g1 g2] | simp only [sub64_0b _ _ u2 u3 k0 k1])
    go_ret2
    exact ⟨rfl, Mor.out⟩
  · have hn : 0 ≤ hiW a := by omega
    have e : absI a = a := by unfold absI; rw [if_neg (by unfold hiW at hn; omega)]
    rw [e]
    clear e
    go_enter Try.func34, Try.ntmps34
    go_wp2
    go_quiet (fail)
    go_wp2
    go_ret2
    exact ⟨rfl, Mor.out⟩

/-- what signed makes of a size -/
def sgn (m : Int) (below : Bool) : Int := cl (if below then -m else m)
set_option maxRecDepth 20000 in
set_option maxHeartbeats 400000 in
theorem signed_over (h l : Int) (below : Bool) (w : World) :
    Calls Try.prog 32 #[.int .u64 h, .int .u64 l, .bool below, .bool true] w fun e w' => e = .returned (WV (endW below)) ∧ Mo w w' := by
  go_enter Try.func32, Try.ntmps32
  go_wp2_with (go_at_call 51; refine (end_any _ _).mono ?_; rintro e w1 ⟨rfl, J, d, rfl⟩)
  exact bodyPost_ret (v := WV (endW below)) (by simp [results, Try.results32, go_sem]) rfl ⟨rfl, Mor.out⟩
set_option maxRecDepth 20000 in
set_option maxHeartbeats 400000 in
theorem signed_great (h l : Int) (below : Bool) (w : World) (hh : 9223372036854775808 < h) :
    Calls Try.prog 32 #[.int .u64 h, .int .u64 l, .bool below, .bool false] w fun e w' => e = .returned (WV (endW below)) ∧ Mo w w' := by
  go_enter Try.func32, Try.ntmps32
  go_wp2_with (go_at_call 51; refine (end_any _ _).mono ?_; rintro e w1 ⟨rfl, J, d, rfl⟩)
  exact bodyPost_ret (v := WV (endW below)) (by simp [results, Try.results32, go_sem]) rfl ⟨rfl, Mor.out⟩
set_option maxRecDepth 20000 in
set_option maxHeartbeats 400000 in
theorem signed_mid (l : Int) (below : Bool) (w : World) (hh : 0 < l) :
    Calls Try.prog 32 #[.int .u64 9223372036854775808, .int .u64 l, .bool below, .bool false] w fun e w' => e = .returned (WV (endW below)) ∧ Mo w w' := by
  go_enter Try.func32, Try.ntmps32
  go_wp2_with (go_at_call 51; refine (end_any _ _).mono ?_; rintro e w1 ⟨rfl, J, d, rfl⟩)
  exact bodyPost_ret (v := WV (endW below)) (by simp [results, Try.results32, go_sem]) rfl ⟨rfl, Mor.out⟩
set_option maxRecDepth 20000 in
set_option maxHeartbeats 400000 in
theorem signed_edge (w : World) :
    Calls Try.prog 32 #[.int .u64 9223372036854775808, .int .u64 0, .bool false, .bool false] w fun e w' => e = .returned (WV (endW false)) ∧ Mo w w' := by
  go_enter Try.func32, Try.ntmps32
  go_wp2_with (go_at_call 51; refine (end_any _ _).mono ?_; rintro e w1 ⟨rfl, J, d, rfl⟩)
  exact bodyPost_ret (v := WV (endW false)) (by simp [results, Try.results32, go_sem]) rfl ⟨rfl, Mor.out⟩
set_option maxRecDepth 20000 in
set_option maxHeartbeats 400000 in
theorem signed_least (w : World) :
    Calls Try.prog 32 #[.int .u64 9223372036854775808, .int .u64 0, .bool true, .bool false] w fun e w' => e = .returned (WV minW) ∧ Mo w w' := by
  have e1 : hiW minW = -9223372036854775808 := by decide
  have e2 : loW minW = 0 := by decide
  have e0 : wrap64 9223372036854775808 = -9223372036854775808 := by unfold wrap64; omega
  go_enter Try.func32, Try.ntmps32
  go_wp2_with fail
  go_region_held3 (fun w' => w'.cell? ⟨w.heap.size + 1, 0, none⟩ = some (.int .i64 (-9223372036854775808)) ∧ w'.cell? ⟨w.heap.size + 1, 1, none⟩ = some (.int .u64 0)) (simp [go_sem])
    (first
    | (go_at_call 52; refine (least_any _).mono ?_; rintro e w1 ⟨rfl, J, d, rfl⟩))
  go_wp2_with fail
  exact bodyPost_ret (v := WV minW) (by simp [results, Try.results32, go_sem, e1, e2]) rfl ⟨rfl, Mor.out⟩
set_option maxRecDepth 20000 in
set_option maxHeartbeats 400000 in
theorem signed_plus (h l : Int) (w : World) (h1 : 0 ≤ h) (h2 : h < 9223372036854775808) :
    Calls Try.prog 32 #[.int .u64 h, .int .u64 l, .bool false, .bool false] w fun e w' => e = .returned (.agg #[.int .i64 h, .int .u64 l]) ∧ Mo w w' := by
  go_enter Try.func32, Try.ntmps32
  go_wp2_with fail
  go_quiet (fail)
  go_wp2_with fail
  exact bodyPost_ret (v := .agg #[.int .i64 h, .int .u64 l]) (by simp [results, Try.results32, go_sem]) rfl ⟨rfl, Mor.out⟩
set_option maxRecDepth 20000 in
set_option maxHeartbeats 400000 in
theorem signed_minus (m : Int) (w : World) (h1 : 0 ≤ hiW m) (h2 : hiW m < 9223372036854775808) (hm : InW m) :
    Calls Try.prog 32 #[.int .u64 (hiW m), .int .u64 (loW m), .bool true, .bool false] w fun e w' => e = .returned (WV (cl (-m))) ∧ Mo w w' := by
  have e1 : hiW minW = -9223372036854775808 := by decide
  have e2 : loW minW = 0 := by decide
  have hne : (hiW m = -9223372036854775808) = False := by simp; omega
  go_enter Try.func32, Try.ntmps32
  go_wp2_with fail
  go_region_held3 (fun w' => w'.cell? ⟨w.heap.size + 1, 0, none⟩ = some (.int .i64 (hiW m)) ∧ w'.cell? ⟨w.heap.size + 1, 1, none⟩ = some (.int .u64 (loW m))) (simp [go_sem])
    (first
    | (go_at_call 52; refine (least_any _).mono ?_; rintro e w1 ⟨rfl, J, d, rfl⟩))
  go_wp2_with (go_at_call 53; refine (neg_any m hm _).mono ?_; rintro e w1 ⟨rfl, J2, d2, rfl⟩)
  exact bodyPost_ret (v := WV (cl (-m))) (by simp [results, Try.results32, go_sem]) rfl ⟨rfl, Mor.out⟩

set_option maxRecDepth 20000 in
theorem endW_le (m : Int) (below : Bool) (h : 170141183460469231731687303715884105728 < m) : endW below = sgn m below := by
  unfold endW sgn cl minW maxW; cases below <;> simp <;> omega
set_option maxRecDepth 20000 in
theorem signed_any (m : Int) (below over : Bool) (w : World) (h1 : 0 ≤ m) (h2 : m < 340282366920938463463374607431768211456) :
    Calls Try.prog 32 #[.int .u64 (hiW m), .int .u64 (loW m), .bool below, .bool over] w fun e w' => e = .returned (WV (if over then endW below else sgn m below)) ∧ Mo w w' := by
  cases over
  · rw [if_neg (by simp)]
    have hd := hilo m
    have l1 := lo1 m
    have l2 := lo2 m
    by_cases c : 9223372036854775808 < hiW m
    · rw [← endW_le m below (by omega)]
      exact signed_great _ _ _ _ c
    · by_cases c2 : hiW m = 9223372036854775808
      · by_cases c3 : 0 < loW m
        · rw [← endW_le m below (by omega), c2]
          exact signed_mid _ _ _ c3
        · have c4 : loW m = 0 := by omega
          rw [c2, c4]
          have hm : m = 170141183460469231731687303715884105728 := by omega
          cases below
          · have e : sgn m false = endW false := by rw [hm]; decide
            rw [e]; exact signed_edge w
          · have e : sgn m true = minW := by rw [hm]; decide
            rw [e]; exact signed_least w
      · have hin : InW m := by unfold InW; omega
        have h0 : 0 ≤ hiW m := by unfold hiW; omega
        cases below
        · have e : sgn m false = m := by unfold sgn; simp [cl_in hin]
          rw [e]; exact signed_plus _ _ _ h0 (by omega)
        · exact signed_minus m w h0 (by omega) hin
  · rw [if_pos rfl]
    exact signed_over _ _ _ _
end Go.Proofs.Ytdgmcgfkammioaa
