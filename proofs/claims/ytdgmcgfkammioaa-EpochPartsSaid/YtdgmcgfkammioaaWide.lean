/- What each function of package wide returns, in integers. -/
import Derived.Test.YtdgmcgfkammioaaProg
import Derived.Test.YtdgmcgfkammioaaPlain
import Derived.WalkKit
import Derived.WalkSpells
import Derived.WalkLawsBesides
import Derived.Shelf.Spec.BitsCarry
import Derived.Handy
import Derived.Deep.RegionHeld3
import Derived.Deep.QuietTactic
import Derived.BigQuiet
namespace Go.Proofs.Ytdgmcgfkammioaa
open Go.RowKit

set_option maxRecDepth 20000 in
theorem add64 (x y c : Int) (hx : 0 ≤ x) (hy : 0 ≤ y) (hc0 : 0 ≤ c) (hc : c ≤ 1) (w : World) : (callFunc 54 #[.int .u64 x, .int .u64 y, .int .u64 c]).run Try.prog w =
    .ok (.value (.tuple #[.int .u64 ((x + y + c) % 18446744073709551616), .int .u64 ((x + y + c) / 18446744073709551616)])) w := by
  rw [run_callFunc_extern Try.func54 (by kernel_rfl) (by kernel_rfl) (by kernel_rfl) (e := add64Entry) (by kernel_rfl), run_add64 x y c hx hy hc0 hc]
  rfl
set_option maxRecDepth 20000 in
theorem add64_0 (x y : Int) (hx : 0 ≤ x) (hy : 0 ≤ y) (w : World) : (callFunc 54 #[.int .u64 x, .int .u64 y, .int .u64 0]).run Try.prog w =
    .ok (.value (.tuple #[.int .u64 ((x + y) % 18446744073709551616), .int .u64 ((x + y) / 18446744073709551616)])) w := by
  simpa using add64 x y 0 hx hy (Int.le_refl 0) (by decide) w
set_option maxRecDepth 20000 in
theorem sub64 (x y b : Int) (hx : 0 ≤ x) (hy : 0 ≤ y) (hy' : y < 18446744073709551616) (hb0 : 0 ≤ b) (hb : b ≤ 1) (w : World) : (callFunc 55 #[.int .u64 x, .int .u64 y, .int .u64 b]).run Try.prog w =
    .ok (.value (.tuple #[.int .u64 ((x - y - b) % 18446744073709551616), .int .u64 (bor x (y + b))])) w := by
  obtain ⟨x, rfl⟩ := Int.eq_ofNat_of_zero_le hx
  obtain ⟨y, rfl⟩ := Int.eq_ofNat_of_zero_le hy
  obtain ⟨b, rfl⟩ := Int.eq_ofNat_of_zero_le hb0
  have e1 : (((x + 18446744073709551616 - y - b) % 18446744073709551616 : Nat) : Int) = ((x : Int) - y - b) % 18446744073709551616 := by omega
  have e2 : ((if x < y + b then 1 else 0 : Nat) : Int) = bor x (y + b) := by unfold bor; split <;> split <;> omega
  rw [← e1, ← e2, run_callFunc_extern Try.func55 (by kernel_rfl) (by kernel_rfl) (by kernel_rfl) (e := sub64Entry) (by kernel_rfl), run_sub64 x y b (by omega)]
  rfl
set_option maxRecDepth 20000 in
theorem sub64_0 (x y : Int) (hx : 0 ≤ x) (hy : 0 ≤ y) (hy' : y < 18446744073709551616) (w : World) : (callFunc 55 #[.int .u64 x, .int .u64 y, .int .u64 0]).run Try.prog w =
    .ok (.value (.tuple #[.int .u64 ((x - y) % 18446744073709551616), .int .u64 (bor x y)])) w := by
  simpa using sub64 x y 0 hx hy hy' (Int.le_refl 0) (by decide) w

set_option maxRecDepth 20000 in
set_option maxHeartbeats 400000 in
theorem most_any (w : World) : Calls Try.prog 69 #[] w fun e w' => e = .returned (WV maxW) ∧ Mo w w' := by
  have e1 : hiW maxW = 9223372036854775807 := by decide
  have e2 : loW maxW = 18446744073709551615 := by decide
  go_enter Try.func69, Try.ntmps69
  go_wp2
  exact bodyPost_ret (v := WV maxW) (by simp [results, Try.results69, go_sem, e1, e2]) rfl ⟨rfl, Mor.out⟩
set_option maxRecDepth 20000 in
set_option maxHeartbeats 400000 in
theorem least_any (w : World) : Calls Try.prog 52 #[] w fun e w' => e = .returned (WV minW) ∧ Mo w w' := by
  have e1 : hiW minW = -9223372036854775808 := by decide
  have e2 : loW minW = 0 := by decide
  go_enter Try.func52, Try.ntmps52
  go_wp2
  exact bodyPost_ret (v := WV minW) (by simp [results, Try.results52, go_sem, e1, e2]) rfl ⟨rfl, Mor.out⟩
set_option maxRecDepth 20000 in
set_option maxHeartbeats 400000 in
theorem end_true (w : World) : Calls Try.prog 51 #[.bool true] w fun e w' => e = .returned (WV minW) ∧ Mo w w' := by
  go_enter Try.func51, Try.ntmps51
  go_wp2_with (go_at_call 52; refine (least_any _).mono ?_; rintro e w1 ⟨rfl, J, d, rfl⟩)
  exact bodyPost_ret (v := WV minW) (by simp [results, Try.results51, go_sem]) rfl ⟨rfl, Mor.out⟩
set_option maxRecDepth 20000 in
set_option maxHeartbeats 400000 in
theorem end_false (w : World) : Calls Try.prog 51 #[.bool false] w fun e w' => e = .returned (WV maxW) ∧ Mo w w' := by
  go_enter Try.func51, Try.ntmps51
  go_wp2_with (go_at_call 69; refine (most_any _).mono ?_; rintro e w1 ⟨rfl, J, d, rfl⟩)
  exact bodyPost_ret (v := WV maxW) (by simp [results, Try.results51, go_sem]) rfl ⟨rfl, Mor.out⟩
/-- the end on a side -/
def endW (b : Bool) : Int := if b then minW else maxW
set_option maxRecDepth 20000 in
theorem end_any (b : Bool) (w : World) : Calls Try.prog 51 #[.bool b] w fun e w' => e = .returned (WV (endW b)) ∧ Mo w w' := by
  cases b
  · exact end_false w
  · exact end_true w

set_option maxRecDepth 20000 in
set_option maxHeartbeats 400000 in
theorem of_any (n : Int) (h1 : -9223372036854775808 ≤ n) (h2 : n ≤ 9223372036854775807) (w : World) :
    Calls Try.prog 18 #[.int .i64 n] w fun e w' => e = .returned (WV n) ∧ Mo w w' := by
  have e1 : hiW n = n / 9223372036854775808 := by unfold hiW; omega
  have e2 : loW n = IntKind.u64.wrap n := by unfold loW; rw [IntKind.wrap_u64]
  go_enter Try.func18, Try.ntmps18
  go_wp2
  exact bodyPost_ret (v := WV n) (by simp [results, Try.results18, go_sem, e1, e2]) rfl ⟨rfl, Mor.out⟩

set_option maxRecDepth 20000 in
set_option maxHeartbeats 400000 in
theorem add_any (a b : Int) (ha : InW a) (hb : InW b) (w : World) :
    Calls Try.prog 33 #[WV a, WV b] w fun e w' => e = .returned (WV (cl (a + b))) ∧ Mo w w' := by
  have g1 := lo1 a
  have g3 := lo1 b
  have k0 : 0 ≤ (loW a + loW b) / 18446744073709551616 := by omega
  have k1 : (loW a + loW b) / 18446744073709551616 ≤ 1 := by have := lo2 a; have := lo2 b; omega
  have u1 : 0 ≤ IntKind.u64.wrap (hiW a) := by rw [IntKind.wrap_u64]; omega
  have u2 : 0 ≤ IntKind.u64.wrap (hiW b) := by rw [IntKind.wrap_u64]; omega
  have hX : wrap64 ((IntKind.u64.wrap (hiW a) + IntKind.u64.wrap (hiW b) + (loW a + loW b) / 18446744073709551616) % 18446744073709551616) = addX a b := rfl
  have hO := add_over ha hb
  have a1 := ha.h1
  have a2 := ha.h2
  by_cases h : InW (a + b)
  · have hi := add_hi ha hb h
    have lo := add_lo a b
    have ho : decide (bits .and .i64 (bits .xor .i64 (hiW a) (hiW (a + b))) (bits .xor .i64 (hiW b) (hiW (a + b))) < 0) = false := by
      rw [← hi, decide_eq_false_iff_not, hO]; simpa using h
    rw [hi] at hX
    rw [cl_in h]
    clear hi hO ha hb
    go_enter Try.func33, Try.ntmps33
    go_wp2_with (first | simp only [add64_0 _ _ g1 g3] | simp only [add64 _ _ _ u1 u2 k0 k1])
    exact bodyPost_ret (v := WV (a + b)) (by simp [results, Try.results33, go_sem]) rfl ⟨rfl, Mor.out⟩
  · have ho : decide (bits .and .i64 (bits .xor .i64 (hiW a) (addX a b)) (bits .xor .i64 (hiW b) (addX a b)) < 0) = true := by
      rw [decide_eq_true_eq, hO]; exact h
    have he : cl (a + b) = endW (decide (hiW a < 0)) := by
      have h' := h
      have := ha.1; have := ha.2; have := hb.1; have := hb.2
      unfold InW at h'
      unfold endW cl hiW
      by_cases c : a / 18446744073709551616 < 0
      · rw [decide_eq_true c, if_pos rfl, if_pos (by omega)]
      · rw [decide_eq_false c, if_neg (by omega), if_pos (by omega)]; rfl
    rw [he]
    clear hO ha hb h he
    go_enter Try.func33, Try.ntmps33
    go_wp2_with (first | simp only [add64_0 _ _ g1 g3] | simp only [add64 _ _ _ u1 u2 k0 k1] | (go_at_call 51; refine (end_any _ _).mono ?_; rintro e w1 ⟨rfl, J, d, rfl⟩))
    exact bodyPost_ret (v := WV (endW (decide (hiW a < 0)))) (by simp [results, Try.results33, go_sem]) rfl ⟨rfl, Mor.out⟩
set_option maxRecDepth 20000 in
set_option maxHeartbeats 400000 in
theorem sub_any (a b : Int) (ha : InW a) (hb : InW b) (w : World) :
    Calls Try.prog 36 #[WV a, WV b] w fun e w' => e = .returned (WV (cl (a - b))) ∧ Mo w w' := by
  have g1 := lo1 a
  have g3 := lo1 b
  have g4 := lo2 b
  have k0 := bor1 (loW a) (loW b)
  have k1 := bor2 (loW a) (loW b)
  have u1 : 0 ≤ IntKind.u64.wrap (hiW a) := by rw [IntKind.wrap_u64]; omega
  have u2 : 0 ≤ IntKind.u64.wrap (hiW b) := by rw [IntKind.wrap_u64]; omega
  have u3 : IntKind.u64.wrap (hiW b) < 18446744073709551616 := by rw [IntKind.wrap_u64]; omega
  have hX : wrap64 ((IntKind.u64.wrap (hiW a) - IntKind.u64.wrap (hiW b) - bor (loW a) (loW b)) % 18446744073709551616) = subX a b := rfl
  have hO := sub_over ha hb
  have a1 := ha.h1
  have a2 := ha.h2
  by_cases h : InW (a - b)
  · have hi := sub_hi ha hb h
    have lo := sub_lo a b
    have ho : decide (bits .and .i64 (bits .xor .i64 (hiW a) (hiW b)) (bits .xor .i64 (hiW a) (hiW (a - b))) < 0) = false := by
      rw [← hi, decide_eq_false_iff_not, hO]; simpa using h
    rw [hi] at hX
    rw [cl_in h]
    clear hi hO ha hb
    go_enter Try.func36, Try.ntmps36
    go_wp2_with (first | simp only [sub64_0 _ _ g1 g3 g4] | simp only [sub64 _ _ _ u1 u2 u3 k0 k1])
    exact bodyPost_ret (v := WV (a - b)) (by simp [results, Try.results36, go_sem]) rfl ⟨rfl, Mor.out⟩
  · have ho : decide (bits .and .i64 (bits .xor .i64 (hiW a) (hiW b)) (bits .xor .i64 (hiW a) (subX a b)) < 0) = true := by
      rw [decide_eq_true_eq, hO]; exact h
    have he : cl (a - b) = endW (decide (hiW a < 0)) := by
      have h' := h
      have := ha.1; have := ha.2; have := hb.1; have := hb.2
      unfold InW at h'
      unfold endW cl hiW
      by_cases c : a / 18446744073709551616 < 0
      · rw [decide_eq_true c, if_pos rfl, if_pos (by omega)]
      · rw [decide_eq_false c, if_neg (by omega), if_pos (by omega)]; rfl
    rw [he]
    clear hO ha hb h he
    go_enter Try.func36, Try.ntmps36
    go_wp2_with (first | simp only [sub64_0 _ _ g1 g3 g4] | simp only [sub64 _ _ _ u1 u2 u3 k0 k1] | (go_at_call 51; refine (end_any _ _).mono ?_; rintro e w1 ⟨rfl, J, d, rfl⟩))
    exact bodyPost_ret (v := WV (endW (decide (hiW a < 0)))) (by simp [results, Try.results36, go_sem]) rfl ⟨rfl, Mor.out⟩

set_option maxRecDepth 20000 in
theorem sub_zero_any (a : Int) (ha : InW a) (w : World) :
    Calls Try.prog 36 #[.agg #[.int .i64 0, .int .u64 0], WV a] w fun e w' => e = .returned (WV (cl (-a))) ∧ Mo w w' := by
  have h := sub_any 0 a inW_0 ha w
  rw [Int.zero_sub] at h
  exact h
set_option maxRecDepth 20000 in
set_option maxHeartbeats 400000 in
theorem neg_any (a : Int) (ha : InW a) (w : World) :
    Calls Try.prog 53 #[WV a] w fun e w' => e = .returned (WV (cl (-a))) ∧ Mo w w' := by
  go_enter Try.func53, Try.ntmps53
  go_wp2_with (go_at_call 36; refine (sub_zero_any a ha _).mono ?_; rintro e w1 ⟨rfl, J, d, rfl⟩)
  exact bodyPost_ret (v := WV (cl (-a))) (by simp [results, Try.results53, go_sem]) rfl ⟨rfl, Mor.out⟩

/-- how far from 0 -/
def absI (x : Int) : Int := if x < 0 then -x else x
/-! ### Cmp -/
def cmpI (x y : Int) : Int := if x < y then -1 else if y < x then 1 else 0
/-- the first that is not 0 -/
def orI (x y : Int) : Int := if x = 0 then y else x
set_option maxRecDepth 20000 in
theorem or63 (h l : Int) (h1 : 0 ≤ l) (h2 : l < 18446744073709551616) : bits .or .u64 (IntKind.u64.wrap (IntKind.u64.wrap h * 9223372036854775808)) (l / 2) = (h % 2) * 9223372036854775808 + l / 2 := by
  have e : IntKind.u64.wrap (IntKind.u64.wrap h * 9223372036854775808) = (h % 2) * 9223372036854775808 := by
    rw [IntKind.wrap_u64, IntKind.wrap_u64]; omega
  rw [e, u64_or _ _ (by omega) (by omega) (by omega) (by omega), nat_join 63 _ _ (by omega) (by omega)]
  omega
set_option maxRecDepth 20000 in
theorem cmpI_wide (a b : Int) : orI (cmpI (hiW a) (hiW b)) (cmpI (loW a) (loW b)) = cmpI a b := by
  unfold orI cmpI hiW loW
  split <;> (repeat' split) <;> omega
end Go.Proofs.Ytdgmcgfkammioaa
