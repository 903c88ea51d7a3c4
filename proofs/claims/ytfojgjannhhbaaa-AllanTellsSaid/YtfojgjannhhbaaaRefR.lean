/- horologeref26.Root, horologeref02.Clip, horologeref31.Tame: what each returns, in integers. -/
import Derived.Test.YtfojgjannhhbaaaRefK
import Derived.Test.YtfojgjannhhbaaaRefI
import Derived.Test.YtfojgjannhhbaaaRootV
import Derived.Test.YtfojgjannhhbaaaAccP
namespace Go.Proofs.Ytfojgjannhhbaaa
open Go.RowKit

def pw (j : Nat) : Int := if j = 0 then 0 else 2 ^ (j - 1)
set_option maxRecDepth 20000 in
theorem pw_half (j : Nat) : pw (j + 1) / 2 = pw j := by
  unfold pw
  rw [if_neg (by omega)]
  cases j with
  | zero => decide
  | succ i =>
    rw [if_neg (by omega), show i + 1 + 1 - 1 = i + 1 by omega, show i + 1 - 1 = i by omega, Int.pow_succ]
    omega
set_option maxRecDepth 20000 in
theorem pw_pos (j : Nat) : pw (j + 1) ≠ 0 := by
  unfold pw
  rw [if_neg (by omega)]
  have : (0 : Int) < 2 ^ (j + 1 - 1) := Int.pow_pos (by decide)
  omega
set_option maxRecDepth 20000 in
theorem two_pow_lt {c : Nat} (h : c ≤ 63) : (1 : Int) ≤ 2 ^ c ∧ (2 : Int) ^ c ≤ 9223372036854775808 := by
  have h1 : (2 : Nat) ^ c ≤ 2 ^ 63 := Nat.pow_le_pow_right (by decide) h
  have h2 : 0 < (2 : Nat) ^ c := Nat.pow_pos (by decide)
  have e : (2 : Int) ^ c = ((2 ^ c : Nat) : Int) := by simp
  rw [e]
  have : (2 : Nat) ^ 63 = 9223372036854775808 := by decide
  omega
set_option maxRecDepth 20000 in
theorem inW_20 {m : Int} (h : InW m) : m < 65536 ^ 20 := by
  have := h.2
  have : (170141183460469231731687303715884105728 : Int) < 65536 ^ 20 := by decide
  omega
set_option maxRecDepth 20000 in
theorem u64_20 {n : Int} (h : n < 18446744073709551616) : n < 65536 ^ 20 := by
  have : (18446744073709551616 : Int) < 65536 ^ 20 := by decide
  omega
set_option maxRecDepth 20000 in
theorem sq_20 {n : Int} (h : 0 ≤ n) (h' : n < 18446744073709551616) : n * n < 65536 ^ 20 := by
  have : n * n ≤ 18446744073709551616 * 18446744073709551616 := Int.mul_le_mul (by omega) (by omega) h (by omega)
  have : (18446744073709551616 * 18446744073709551616 : Int) < 65536 ^ 20 := by decide
  omega
set_option maxRecDepth 10000 in
set_option maxHeartbeats 2000000 in
theorem rroot_any (m : Int) (hm : InW m) (h0 : 0 ≤ m) (w : World) :
    Calls Try.prog 35 #[NN false m] w fun e w' => e = .returned (.int .u64 (rootV m)) ∧ Mo w w' := by
  have hmb := inW_20 hm
  have N1 := Lib.hid (fun n (a : 0 ≤ n) (b : n < 18446744073709551616) w => num64_any n a b w)
  have M1 := Lib.hid (fun (n : Int) (a : 0 ≤ n) (b : n < 18446744073709551616) w => rmul_any false false n n a (u64_20 b) a (sq_20 a b) w)
  have C1 := Lib.hid (fun (n : Int) (a : 0 ≤ n) (b : n < 18446744073709551616) w => rcmp_any false false (n * n) m (Int.mul_nonneg a a) (sq_20 a b) h0 hmb w)
  have R0 := Lib.hid (rootRel_start hm h0)
  have RV := Lib.hid (rootV_is h0)
  clear hm h0 hmb
  go_enter Try.func35, Try.ntmps35
  go_wp2_with fail
  go_loopw [3, 4] (fun r i wr => ∃ (j : Nat) (x rt : Int), j ≤ 64 ∧ x = (j : Int) - 1 ∧ i = .int .i64 x ∧ r = .int .u64 rt ∧ RootRel m (pw j) rt ∧ ∃ J d, wr = more (w.alloc (.cells (numC false (lim m)) 73)) J d) (fun _ i _ => (intOf i + 1).toNat)
  case atStart => exact ⟨64, 63, 0, by omega, by omega, rfl, rfl, R0.out, Mo.refl _⟩
  case round =>
    obtain ⟨j, x, rt, hj, hx, rfl, rfl, hR, J, d, rfl⟩ := hrel
    clear R0
    cases j with
    | zero =>
      obtain rfl : x = -1 := by omega
      have e := Lib.hid (show rootV m = rt from root_uniq RV.out (rootRel_end hR))
      clear hR hx
      go_wp2_with fail
      go_ret
      exact ⟨by rw [e.out]; rfl, Mor.out⟩
    | succ j =>
      obtain rfl : x = (j : Int) := by omega
      obtain ⟨-, o1, o2, o3⟩ := rootRel_or hR (pw_pos j)
      have NX := Lib.hid (rootRel_next hR (pw_pos j))
      have hb : pw (j + 1) = 2 ^ j := by unfold pw; rw [if_neg (by omega)]; rfl
      rw [pw_half] at NX
      rw [hb] at o1 o3 NX
      clear hR hx hb
      go_wp2_with fail
      go_loop [5, 6] (fun b k => ∃ c : Nat, c ≤ j ∧ k = .int .i64 c ∧ b = .int .u64 (2 ^ c)) (fun _ k => j - (intOf k).toNat)
      case atStart => exact ⟨0, by omega, rfl, rfl⟩
      case round =>
        obtain ⟨c, hc, rfl, rfl⟩ := hrel
        by_cases cj : c < j
        · obtain ⟨b1, b2⟩ := two_pow_lt (show c + 1 ≤ 63 by omega)
          have hs := Lib.hid (Int.pow_succ 2 c)
          rw [Int.pow_succ] at b1 b2
          obtain ⟨y, hy⟩ : ∃ y : Int, 2 ^ c = y := ⟨_, rfl⟩
          rw [hy] at b1 b2 hs ⊢
          clear hy
          go_wp2_with fail
          go_round
          case rel => exact ⟨c + 1, by omega, by go_num, by rw [hs.out]⟩
          case measure => simp [intOf]; omega
        · obtain rfl : c = j := by omega
          generalize (2 : Int) ^ c = bt at *
          have N1' := Lib.hid (N1.out (rt + bt) (by omega) o3)
          have M1' := Lib.hid (M1.out (rt + bt) (by omega) o3)
          have C1' := Lib.hid (C1.out (rt + bt) (by omega) o3)
          simp only [val, Bool.false_eq_true, if_false, bne_self_eq_false] at M1' C1'
          clear N1 M1 C1
          by_cases hle : (rt + bt) * (rt + bt) ≤ m
          · have hR := Lib.hid (NX.out (rt + bt) (.inl ⟨rfl, hle⟩)).1
            obtain ⟨o, ho, ho'⟩ : ∃ o, cmpI ((rt + bt) * (rt + bt)) m = o ∧ decide (o ≤ 0) = true := ⟨_, rfl, by unfold cmpI; simp; split <;> (try split) <;> omega⟩
            rw [ho] at C1'
            clear NX ho hle
            generalize (rt + bt) * (rt + bt) = sq at *
            go_wp2_with fail
            refine (N1'.out _).mono ?_; rintro e w1 ⟨rfl, J1, d1, rfl⟩
            go_wp2_with fail
            refine wp_region_mo (by kernel_rfl) (by kernel_rfl) ?_
            repeat (go_big_quiet_step (first | (with_reducible exact quiet_mo (M1'.out _)) | (with_reducible exact quiet_mo (C1'.out _))))
            refine wpQuiet_nil ?_
            intro _ hw'
            obtain ⟨⟨J9, d9⟩, hw''⟩ := hw'
            subst hw''
            go_wp2_with fail
            go_roundw
            case rel => exact ⟨c, (c : Int) - 1, _, by omega, rfl, rfl, rfl, hR.out, Mor.out⟩
            case measure => simp [intOf]
          · have hR := Lib.hid (NX.out rt (.inr ⟨rfl, by omega⟩)).1
            obtain ⟨o, ho, ho'⟩ : ∃ o, cmpI ((rt + bt) * (rt + bt)) m = o ∧ decide (o ≤ 0) = false := ⟨_, rfl, by unfold cmpI; simp; split <;> (try split) <;> omega⟩
            rw [ho] at C1'
            clear NX ho hle
            generalize (rt + bt) * (rt + bt) = sq at *
            go_wp2_with fail
            refine (N1'.out _).mono ?_; rintro e w1 ⟨rfl, J1, d1, rfl⟩
            go_wp2_with fail
            refine wp_region_mo (by kernel_rfl) (by kernel_rfl) ?_
            repeat (go_big_quiet_step (first | (with_reducible exact quiet_mo (M1'.out _)) | (with_reducible exact quiet_mo (C1'.out _))))
            refine wpQuiet_nil ?_
            intro _ hw'
            obtain ⟨⟨J9, d9⟩, hw''⟩ := hw'
            subst hw''
            go_wp2_with fail
            go_roundw
            case rel => exact ⟨c, (c : Int) - 1, _, by omega, rfl, rfl, rfl, hR.out, Mor.out⟩
            case measure => simp [intOf]

set_option maxRecDepth 20000 in
theorem tame_any (n : Int) (w : World) : Calls Try.prog 25 #[.int .i64 n] w fun e w' => e = .returned (.bool (decide (Tame n))) ∧ w = w' := by
  by_cases h1 : -140737488355328 ≤ n <;> by_cases h2 : n ≤ 140737488355328
  · have e : decide (Tame n) = true := decide_eq_true ⟨h1, h2⟩
    rw [e]
    go_enter Try.func25, Try.ntmps25
    go_wp2_with fail
    go_ret
    exact ⟨rfl, rfl⟩
  all_goals
    have e : decide (Tame n) = false := decide_eq_false (fun h => by have := h.1; have := h.2; omega)
    rw [e]
    go_enter Try.func25, Try.ntmps25
    go_wp2_with fail
    go_ret
    exact ⟨rfl, rfl⟩
set_option maxRecDepth 20000 in
theorem wrap_lo {x : Int} (h1 : -9223372036854775808 ≤ x) (h2 : x ≤ 9223372036854775807) : wrap64 (loW x) = x := by unfold wrap64 loW; omega
set_option maxRecDepth 20000 in
theorem absI_20 {x : Int} (h : InW x) : absI x < 65536 ^ 20 := by
  have := h.1
  have := h.2
  have e : (170141183460469231731687303715884105728 : Int) < 65536 ^ 20 := by decide
  unfold absI; split <;> omega
set_option maxRecDepth 20000 in
theorem sg_dec (x : Int) : Sg (decide (x < 0)) x := ⟨fun h => decide_eq_true h, fun h => decide_eq_false (by omega)⟩
set_option maxRecDepth 10000 in
set_option maxHeartbeats 1000000 in
theorem rclip_in (x : Int) (hx : InW x) (b1 : -9223372036854775808 ≤ x) (b2 : x ≤ 9223372036854775807) (w : World) :
    Calls Try.prog 26 #[WV x] w fun e w' => e = .returned (.int .i64 x) ∧ Mo w w' := by
  have F1 := Lib.hid (fun w => from_any x hx w)
  have O1 := Lib.hid (fun w => rof_any 9223372036854775807 (by decide) (by decide) w)
  have O2 := Lib.hid (fun w => rof_any (-9223372036854775808) (by decide) (by decide) w)
  have C1 := Lib.hid (fun w => rcmp_sg (fromS x) (decide ((9223372036854775807 : Int) < 0)) x 9223372036854775807 (fromS_sg x) (sg_dec _) (absI_20 hx) (by decide) w)
  have C2 := Lib.hid (fun w => rcmp_sg (fromS x) (decide ((-9223372036854775808 : Int) < 0)) x (-9223372036854775808) (fromS_sg x) (sg_dec _) (absI_20 hx) (by decide) w)
  rw [show decide ((9223372036854775807 : Int) < 0) = false by decide, show absI 9223372036854775807 = 9223372036854775807 by decide] at O1 C1
  rw [show decide ((-9223372036854775808 : Int) < 0) = true by decide, show absI (-9223372036854775808) = 9223372036854775808 by decide] at O2 C2
  obtain ⟨o1, e1, e1'⟩ : ∃ o, cmpI x 9223372036854775807 = o ∧ decide (0 < o) = false := ⟨_, rfl, by unfold cmpI; simp; split <;> (try split) <;> omega⟩
  obtain ⟨o2, e2, e2'⟩ : ∃ o, cmpI x (-9223372036854775808) = o ∧ decide (o < 0) = false := ⟨_, rfl, by unfold cmpI; simp; split <;> (try split) <;> omega⟩
  rw [e1] at C1
  rw [e2] at C2
  have BL := lo1 x
  have BL' := lo2 x
  have WL' := Lib.hid (wrap_lo b1 b2)
  clear b1 b2
  generalize fromS x = s at *
  clear e1 e2 hx
  generalize absI x = ax at *
  go_enter Try.func26, Try.ntmps26
  go_wp2_with fail
  refine (F1.out _).mono ?_; rintro e w1 ⟨rfl, J1, d1, rfl⟩
  go_wp2_with fail
  refine wp_region_mo (by kernel_rfl) (by kernel_rfl) ?_
  repeat (go_big_quiet_step (first | (with_reducible exact quiet_mo (O1.out _)) | (with_reducible exact quiet_mo (C1.out _))))
  refine wpQuiet_nil ?_
  intro _ hw'
  obtain ⟨⟨J9, d9⟩, hw''⟩ := hw'
  subst hw''
  go_wp2_with fail
  refine wp_region_mo' (by kernel_rfl) (by kernel_rfl) ?_
  repeat (go_big_quiet_step (first | (with_reducible exact quiet_mo (O2.out _)) | (with_reducible exact quiet_mo (C2.out _))))
  refine wpQuiet_nil ?_
  intro _ hw'
  obtain ⟨⟨J8, d8⟩, hw''⟩ := hw'
  subst hw''
  go_wp2_with fail
  go_ret
  exact ⟨congrArg (fun z => Ending.returned (Value.int .i64 z)) WL'.out, Mor.out⟩
set_option maxRecDepth 10000 in
set_option maxHeartbeats 1000000 in
theorem rclip_hi (x : Int) (hx : InW x) (b1 : 9223372036854775807 < x) (w : World) :
    Calls Try.prog 26 #[WV x] w fun e w' => e = .returned (.int .i64 9223372036854775807) ∧ Mo w w' := by
  have F1 := Lib.hid (fun w => from_any x hx w)
  have O1 := Lib.hid (fun w => rof_any 9223372036854775807 (by decide) (by decide) w)
  have O2 := Lib.hid (fun w => rof_any (-9223372036854775808) (by decide) (by decide) w)
  have C1 := Lib.hid (fun w => rcmp_sg (fromS x) (decide ((9223372036854775807 : Int) < 0)) x 9223372036854775807 (fromS_sg x) (sg_dec _) (absI_20 hx) (by decide) w)
  have C2 := Lib.hid (fun w => rcmp_sg (fromS x) (decide ((-9223372036854775808 : Int) < 0)) x (-9223372036854775808) (fromS_sg x) (sg_dec _) (absI_20 hx) (by decide) w)
  rw [show decide ((9223372036854775807 : Int) < 0) = false by decide, show absI 9223372036854775807 = 9223372036854775807 by decide] at O1 C1
  rw [show decide ((-9223372036854775808 : Int) < 0) = true by decide, show absI (-9223372036854775808) = 9223372036854775808 by decide] at O2 C2
  obtain ⟨o1, e1, e1'⟩ : ∃ o, cmpI x 9223372036854775807 = o ∧ decide (0 < o) = true := ⟨_, rfl, by unfold cmpI; simp; split <;> (try split) <;> omega⟩
  obtain ⟨o2, e2, e2'⟩ : ∃ o, cmpI x (-9223372036854775808) = o ∧ decide (o < 0) = false := ⟨_, rfl, by unfold cmpI; simp; split <;> (try split) <;> omega⟩
  rw [e1] at C1
  rw [e2] at C2
  have BL := lo1 x
  have BL' := lo2 x
  clear b1
  generalize fromS x = s at *
  clear e1 e2 hx
  generalize absI x = ax at *
  go_enter Try.func26, Try.ntmps26
  go_wp2_with fail
  refine (F1.out _).mono ?_; rintro e w1 ⟨rfl, J1, d1, rfl⟩
  go_wp2_with fail
  refine wp_region_mo (by kernel_rfl) (by kernel_rfl) ?_
  repeat (go_big_quiet_step (first | (with_reducible exact quiet_mo (O1.out _)) | (with_reducible exact quiet_mo (C1.out _))))
  refine wpQuiet_nil ?_
  intro _ hw'
  obtain ⟨⟨J9, d9⟩, hw''⟩ := hw'
  subst hw''
  go_wp2_with fail
  go_ret
  exact ⟨rfl, Mor.out⟩
set_option maxRecDepth 10000 in
set_option maxHeartbeats 1000000 in
theorem rclip_lo (x : Int) (hx : InW x) (b1 : x < -9223372036854775808) (w : World) :
    Calls Try.prog 26 #[WV x] w fun e w' => e = .returned (.int .i64 (-9223372036854775808)) ∧ Mo w w' := by
  have F1 := Lib.hid (fun w => from_any x hx w)
  have O1 := Lib.hid (fun w => rof_any 9223372036854775807 (by decide) (by decide) w)
  have O2 := Lib.hid (fun w => rof_any (-9223372036854775808) (by decide) (by decide) w)
  have C1 := Lib.hid (fun w => rcmp_sg (fromS x) (decide ((9223372036854775807 : Int) < 0)) x 9223372036854775807 (fromS_sg x) (sg_dec _) (absI_20 hx) (by decide) w)
  have C2 := Lib.hid (fun w => rcmp_sg (fromS x) (decide ((-9223372036854775808 : Int) < 0)) x (-9223372036854775808) (fromS_sg x) (sg_dec _) (absI_20 hx) (by decide) w)
  rw [show decide ((9223372036854775807 : Int) < 0) = false by decide, show absI 9223372036854775807 = 9223372036854775807 by decide] at O1 C1
  rw [show decide ((-9223372036854775808 : Int) < 0) = true by decide, show absI (-9223372036854775808) = 9223372036854775808 by decide] at O2 C2
  obtain ⟨o1, e1, e1'⟩ : ∃ o, cmpI x 9223372036854775807 = o ∧ decide (0 < o) = false := ⟨_, rfl, by unfold cmpI; simp; split <;> (try split) <;> omega⟩
  obtain ⟨o2, e2, e2'⟩ : ∃ o, cmpI x (-9223372036854775808) = o ∧ decide (o < 0) = true := ⟨_, rfl, by unfold cmpI; simp; split <;> (try split) <;> omega⟩
  rw [e1] at C1
  rw [e2] at C2
  have BL := lo1 x
  have BL' := lo2 x
  clear b1
  generalize fromS x = s at *
  clear e1 e2 hx
  generalize absI x = ax at *
  go_enter Try.func26, Try.ntmps26
  go_wp2_with fail
  refine (F1.out _).mono ?_; rintro e w1 ⟨rfl, J1, d1, rfl⟩
  go_wp2_with fail
  refine wp_region_mo (by kernel_rfl) (by kernel_rfl) ?_
  repeat (go_big_quiet_step (first | (with_reducible exact quiet_mo (O1.out _)) | (with_reducible exact quiet_mo (C1.out _))))
  refine wpQuiet_nil ?_
  intro _ hw'
  obtain ⟨⟨J9, d9⟩, hw''⟩ := hw'
  subst hw''
  go_wp2_with fail
  refine wp_region_mo' (by kernel_rfl) (by kernel_rfl) ?_
  repeat (go_big_quiet_step (first | (with_reducible exact quiet_mo (O2.out _)) | (with_reducible exact quiet_mo (C2.out _))))
  refine wpQuiet_nil ?_
  intro _ hw'
  obtain ⟨⟨J8, d8⟩, hw''⟩ := hw'
  subst hw''
  go_wp2_with fail
  go_ret
  exact ⟨rfl, Mor.out⟩
set_option maxRecDepth 20000 in
theorem rclip_any (x : Int) (hx : InW x) (w : World) :
    Calls Try.prog 26 #[WV x] w fun e w' => e = .returned (.int .i64 (clip x)) ∧ Mo w w' := by
  unfold clip
  by_cases c1 : x < -9223372036854775808
  · rw [if_pos c1]; exact rclip_lo x hx c1 w
  · rw [if_neg c1]
    by_cases c2 : 9223372036854775807 < x
    · rw [if_pos c2]; exact rclip_hi x hx c2 w
    · rw [if_neg c2]; exact rclip_in x hx (by omega) (by omega) w
end Go.Proofs.Ytfojgjannhhbaaa
