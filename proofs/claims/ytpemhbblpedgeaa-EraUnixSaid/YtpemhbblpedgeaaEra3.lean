/- era.Unix, era.Back, and law03.known: what they return. -/
import Derived.Test.YtpemhbblpedgeaaEra2
import Derived.Test.YtpemhbblpedgeaaQTail
namespace Go.Proofs.Ytpemhbblpedgeaa
open Go.RowKit

theorem lv (x h l : Int) (e : x = h * 18446744073709551616 + l) (h1 : 0 ≤ l) (h2 : l < 18446744073709551616) : WV x = LV h l := by
  subst e; show Value.agg #[.int .i64 (hiW _), .int .u64 (loW _)] = _; rw [hi_mk _ _ h1 h2, lo_mk _ _ h1 h2]
theorem or32 (x y : Int) (y0 : 0 ≤ y) (y1 : y < 4294967296) : bits .or .u64 (IntKind.u64.wrap (x * 4294967296)) y = (x % 4294967296) * 4294967296 + y := by
  have e : IntKind.u64.wrap (x * 4294967296) = (x % 4294967296) * 4294967296 := by
    rw [IntKind.wrap_u64]; omega
  rw [e, u64_or _ _ (by omega) (by omega) (by omega) (by omega), nat_join 32 _ _ (by omega) (by omega)]
  omega
set_option maxHeartbeats 400000 in
theorem unix_any (s f : Int) (h1 : 0 ≤ s) (h2 : s < 18446744073709551616) (f1 : 0 ≤ f) (f2 : f < 4294967296) (w : World) :
    Calls Try.prog 14 #[.int .u64 s, .int .u32 f] w fun e w' => e = .returned (WV (s * 4294967296 + f + 9487534653230284800)) ∧ Mo w w' := by
  obtain ⟨p, hp⟩ : ∃ p, p = s * 4294967296 + f := ⟨_, rfl⟩
  obtain ⟨q, hq⟩ : ∃ q, q = p + 9487534653230284800 := ⟨_, rfl⟩
  have ip : InW p := by unfold InW; omega
  have iq : InW q := by unfold InW; omega
  have M1 : Hid (∀ w, Calls Try.prog 25 #[.int .i64 2208988800, .int .u32 0] w fun e w' => e = .returned (WV 9487534653230284800) ∧ Mo w w') := Lib.hid (moment_any 2208988800 0 (by omega) (by omega) (by omega) (by omega))
  have A1 : Hid (∀ w, Calls Try.prog 33 #[LV (s / 4294967296) (bits .or .u64 (IntKind.u64.wrap (s * 4294967296)) f), WV 9487534653230284800] w fun e w' => e = .returned (WV q) ∧ Mo w w') := Lib.hid (fun w => by
    have := add_any p 9487534653230284800 ip (inW_u64 (by omega) (by omega)) w
    rw [← hq, cl_in iq] at this
    rwa [or32 s f f1 f2, ← lv p (s / 4294967296) _ (by omega) (by omega) (by omega)])
  rw [← hp, ← hq]
  clear hp hq ip iq
  go_enter Try.func14, Try.ntmps14
  go_wp2_with fail
  refine (M1.out _).mono ?_; rintro e w1 ⟨rfl, J1, d1, rfl⟩
  go_wp2_with fail
  refine (A1.out _).mono ?_; rintro e w1 ⟨rfl, J2, d2, rfl⟩
  go_wp2_with fail
  exact bodyPost_ret (v := WV q) (by simp [results, Try.results14, go_sem]) rfl ⟨rfl, Mor.out⟩
set_option maxHeartbeats 400000 in
theorem back_no (a v : Int) (ha : InW a) (hv : v = cl (a - 9487534653230284800)) (h : v < 0 ∨ 79228162514264337593543950336 ≤ v) (w : World) :
    Calls Try.prog 12 #[WV a] w fun e w' => e = .returned (.tuple #[.int .u64 0, .int .u32 0, .bool false]) ∧ Mo w w' := by
  have M1 : Hid (∀ w, Calls Try.prog 25 #[.int .i64 2208988800, .int .u32 0] w fun e w' => e = .returned (WV 9487534653230284800) ∧ Mo w w') := Lib.hid (moment_any 2208988800 0 (by omega) (by omega) (by omega) (by omega))
  have D1 : Hid (∀ w, Calls Try.prog 10 #[WV a, WV 9487534653230284800] w fun e w' => e = .returned (WV v) ∧ Mo w w') := Lib.hid (by rw [hv]; exact sub_any a _ ha (inW_u64 (by omega) (by omega)))
  have c : hiW v < 0 ∨ ¬ hiW v < 0 ∧ 4294967296 ≤ hiW v := by unfold hiW; omega
  clear h hv
  go_enter Try.func12, Try.ntmps12
  go_upto_region 1 with (fail)
  refine wp_region_mo_tail 3 (by kernel_rfl) (by kernel_rfl) ?_
  simp only [List.take_succ_cons, List.take_zero, List.drop_succ_cons, List.drop_zero]
  repeat (go_big_quiet_step (first | (with_reducible exact quiet_mo (M1.out _)) | (with_reducible exact quiet_mo (D1.out _))))
  refine wpQuiet_nil ?_
  intro _ hw'
  obtain ⟨⟨J2, d2⟩, hw''⟩ := hw'
  subst hw''
  rcases c with c | ⟨c, c'⟩
  · go_wp2_with fail
    exact bodyPost_ret (v := .tuple #[.int .u64 0, .int .u32 0, .bool false]) (by simp [results, Try.results12, go_sem]) rfl ⟨rfl, Mor.out⟩
  · go_wp2_with fail
    exact bodyPost_ret (v := .tuple #[.int .u64 0, .int .u32 0, .bool false]) (by simp [results, Try.results12, go_sem]) rfl ⟨rfl, Mor.out⟩
set_option maxHeartbeats 400000 in
theorem back_yes (a v : Int) (ha : InW a) (hv : v = cl (a - 9487534653230284800)) (h0 : 0 ≤ v) (h1 : v < 79228162514264337593543950336) (w : World) :
    Calls Try.prog 12 #[WV a] w fun e w' => e = .returned (.tuple #[.int .u64 (v / 4294967296), .int .u32 (v % 4294967296), .bool true]) ∧ Mo w w' := by
  have M1 : Hid (∀ w, Calls Try.prog 25 #[.int .i64 2208988800, .int .u32 0] w fun e w' => e = .returned (WV 9487534653230284800) ∧ Mo w w') := Lib.hid (moment_any 2208988800 0 (by omega) (by omega) (by omega) (by omega))
  have D1 : Hid (∀ w, Calls Try.prog 10 #[WV a, WV 9487534653230284800] w fun e w' => e = .returned (WV v) ∧ Mo w w') := Lib.hid (by rw [hv]; exact sub_any a _ ha (inW_u64 (by omega) (by omega)))
  have b1 : 0 ≤ hiW v := by unfold hiW; omega
  have b2 : hiW v < 4294967296 := by unfold hiW; omega
  have l1 := lo1 v
  have l2 := lo2 v
  have Q1 := Lib.hid (show bits .or .u64 (hiW v * 4294967296) (loW v / 4294967296) = v / 4294967296 by
    have := or32 (hiW v) (loW v / 4294967296) (by omega) (by omega)
    rw [show IntKind.u64.wrap (hiW v * 4294967296) = hiW v * 4294967296 by rw [IntKind.wrap_u64]; omega] at this
    rw [this]; unfold hiW loW at *; omega)
  have Q2 := Lib.hid (show loW v % 4294967296 = v % 4294967296 by unfold loW; omega)
  clear h0 h1 hv
  go_enter Try.func12, Try.ntmps12
  go_upto_region 1 with (fail)
  refine wp_region_mo_tail 3 (by kernel_rfl) (by kernel_rfl) ?_
  simp only [List.take_succ_cons, List.take_zero, List.drop_succ_cons, List.drop_zero]
  repeat (go_big_quiet_step (first | (with_reducible exact quiet_mo (M1.out _)) | (with_reducible exact quiet_mo (D1.out _))))
  refine wpQuiet_nil ?_
  intro _ hw'
  obtain ⟨⟨J2, d2⟩, hw''⟩ := hw'
  subst hw''
  go_upto_region 4 with (fail)
  go_region
  go_wp2_with fail
  rw [Q1.out, Q2.out]
  exact bodyPost_ret (v := .tuple #[.int .u64 (v / 4294967296), .int .u32 (v % 4294967296), .bool true]) (by simp [results, Try.results12, go_sem]) rfl ⟨rfl, Mor.out⟩

/-- what known asks of Fold and Number -/
theorem fold_lv (h l : Int) (w : World) : Calls Try.prog 8 #[LV h l] w fun e w' => e = .returned (.int .u64 l) ∧ Mo w w' := by
  go_enter Try.func8, Try.ntmps8
  go_wp2_with fail
  go_ret
  exact ⟨rfl, Mor.out⟩
theorem number_lv (h l : Int) (w : World) : Calls Try.prog 16 #[LV h l] w fun e w' => e = .returned (.int .i64 h) ∧ Mo w w' := by
  go_enter Try.func16, Try.ntmps16
  go_wp2_with fail
  go_ret
  exact ⟨rfl, Mor.out⟩
set_option maxRecDepth 10000 in
set_option maxHeartbeats 1000000 in
theorem known_any (w : World) : Calls Try.prog 6 #[] w fun e w' => e = .returned (.bool true) ∧ Mo w w' := by
  have F1 := Lib.hid (fun w => fold_lv 1 5 w)
  have N1 := Lib.hid (fun w => number_lv 1 5 w)
  have N2 := Lib.hid (fun w => number_lv (-1) 18446744073709551615 w)
  have U1 : Hid (∀ w, Calls Try.prog 7 #[.int .u64 5, LV 1 0] w fun e w' => e = .returned (LV 1 5) ∧ Mo w w') := Lib.hid (fun w => by
    have := unfold_any 5 18446744073709551616 (by omega) (by omega) (by unfold InW; omega) w
    rwa [show unf 5 18446744073709551616 = 18446744073709551621 by decide, lv 18446744073709551616 1 0 (by omega) (by omega) (by omega), lv 18446744073709551621 1 5 (by omega) (by omega) (by omega)] at this)
  have U2 : Hid (∀ w, Calls Try.prog 7 #[.int .u64 0, LV 0 9223372036854775808] w fun e w' => e = .returned (LV 0 0) ∧ Mo w w') := Lib.hid (fun w => by
    have := unfold_any 0 9223372036854775808 (by omega) (by omega) (by unfold InW; omega) w
    rwa [show unf 0 9223372036854775808 = 0 by decide, lv 9223372036854775808 0 9223372036854775808 (by omega) (by omega) (by omega), lv 0 0 0 (by omega) (by omega) (by omega)] at this)
  have U3 : Hid (∀ w, Calls Try.prog 7 #[.int .u64 0, LV 0 9223372036854775809] w fun e w' => e = .returned (LV 1 0) ∧ Mo w w') := Lib.hid (fun w => by
    have := unfold_any 0 9223372036854775809 (by omega) (by omega) (by unfold InW; omega) w
    rwa [show unf 0 9223372036854775809 = 18446744073709551616 by decide, lv 9223372036854775809 0 9223372036854775809 (by omega) (by omega) (by omega), lv 18446744073709551616 1 0 (by omega) (by omega) (by omega)] at this)
  have X1 : Hid (∀ w, Calls Try.prog 14 #[.int .u64 0, .int .u32 0] w fun e w' => e = .returned (LV 0 9487534653230284800) ∧ Mo w w') := Lib.hid (fun w => by
    have := unix_any 0 0 (by omega) (by omega) (by omega) (by omega) w
    rwa [show (0 : Int) * 4294967296 + 0 + 9487534653230284800 = 9487534653230284800 by decide, lv 9487534653230284800 0 9487534653230284800 (by omega) (by omega) (by omega)] at this)
  go_enter Try.func6, Try.ntmps6
  go_wp2_with fail
  refine wp_region_mo (by kernel_rfl) (by kernel_rfl) ?_
  repeat (go_big_quiet_step (first | (with_reducible exact quiet_mo (F1.out _)) | (with_reducible exact quiet_mo (N1.out _)) | (with_reducible exact quiet_mo (N2.out _)) | (with_reducible exact quiet_mo (U1.out _)) | (with_reducible exact quiet_mo (U2.out _)) | (with_reducible exact quiet_mo (U3.out _)) | (with_reducible exact quiet_mo (X1.out _))))
  refine wpQuiet_nil ?_
  intro _ hw'
  obtain ⟨⟨J2, d2⟩, hw''⟩ := hw'
  subst hw''
  go_wp2_with fail
  go_ret
  exact ⟨rfl, Mor.out⟩
end Go.Proofs.Ytpemhbblpedgeaa
