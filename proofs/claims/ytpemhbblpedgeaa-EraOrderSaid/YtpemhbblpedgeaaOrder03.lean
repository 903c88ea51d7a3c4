/- horologelaw03.EraOrder returns true. -/
import Derived.Test.YtpemhbblpedgeaaEra3
namespace Go.Proofs.Ytpemhbblpedgeaa
open Go.RowKit

theorem cmpI_cases (x y : Int) : (x < y ∧ cmpI x y = -1) ∨ (x = y ∧ cmpI x y = 0) ∨ (y < x ∧ cmpI x y = 1) := by
  unfold cmpI
  rcases Int.lt_trichotomy x y with h | h | h
  · left; exact ⟨h, if_pos h⟩
  · right; left; exact ⟨h, by rw [if_neg (by omega), if_neg (by omega)]⟩
  · right; right; exact ⟨h, by rw [if_neg (by omega), if_pos h]⟩
theorem cmpI_le {x y : Int} (h : x ≤ y) : ¬ 0 < cmpI x y := by
  rcases cmpI_cases x y with c | c | c <;> omega
set_option maxRecDepth 20000 in
set_option maxHeartbeats 8000000 in
theorem order_any (s a b t q f g : Int) (s1 : 0 ≤ s) (s2 : s ≤ 18446744073709551615) (ia : InW a) (ib : InW b) (t1 : 0 ≤ t) (t2 : t ≤ 18446744073709551615) (q1 : 0 ≤ q) (q2 : q ≤ 18446744073709551615) (f1 : 0 ≤ f) (f2 : f ≤ 4294967295) (g1 : 0 ≤ g) (g2 : g ≤ 4294967295) (w : World) :
    Calls Try.prog 5 #[.int .u64 s, WV a, WV b, .int .u64 t, .int .u64 q, .int .u32 f, .int .u32 g] w fun e w' => e = .returned (.bool true) ∧ Mo w w' := by
  have hs : s < 18446744073709551616 := by omega
  obtain ⟨o, ho⟩ : ∃ x, cmpI a b = x := ⟨_, rfl⟩
  obtain ⟨k, l, hk, hkl, ik, il⟩ : ∃ k l, ((o = 1 ∧ k = b ∧ l = a) ∨ (¬ 0 < o ∧ k = a ∧ l = b)) ∧ k ≤ l ∧ InW k ∧ InW l := by
    rcases cmpI_cases a b with c | c | c
    · exact ⟨a, b, .inr ⟨by omega, rfl, rfl⟩, by omega, ia, ib⟩
    · exact ⟨a, b, .inr ⟨by omega, rfl, rfl⟩, by omega, ia, ib⟩
    · exact ⟨b, a, .inl ⟨by omega, rfl, rfl⟩, by omega, ib, ia⟩
  obtain ⟨x, hx⟩ : ∃ x, unf s k = x := ⟨_, rfl⟩
  obtain ⟨y, hy⟩ : ∃ x, unf s l = x := ⟨_, rfl⟩
  obtain ⟨X, hX⟩ : ∃ z, hiW x = z := ⟨_, rfl⟩
  obtain ⟨Y, hY⟩ : ∃ z, hiW y = z := ⟨_, rfl⟩
  obtain ⟨p, hp⟩ : ∃ z, cmpI x y = z := ⟨_, rfl⟩
  obtain ⟨u, hu⟩ : ∃ z, t * 4294967296 + f + 9487534653230284800 = z := ⟨_, rfl⟩
  obtain ⟨v, hv⟩ : ∃ z, q * 4294967296 + g + 9487534653230284800 = z := ⟨_, rfl⟩
  obtain ⟨o3, ho3⟩ : ∃ z, cmpI u v = z := ⟨_, rfl⟩
  have lx : loW x = s := by rw [← hx]; exact unf_lo s1 hs
  have ly : loW y = s := by rw [← hy]; exact unf_lo s1 hs
  have xy : x ≤ y := by rw [← hx, ← hy]; exact unf_mono s1 hs ik il hkl
  have ex := hilo x
  have ey := hilo y
  have vx : WV x = LV X s := by rw [← hX, ← lx]
  have vy : WV y = LV Y s := by rw [← hY, ← ly]
  have XY : Hid ((X = Y ∧ p = 0) ∨ (X < Y ∧ p = -1)) := Lib.hid (by
    rw [hX, lx] at ex
    rw [hY, ly] at ey
    rcases cmpI_cases x y with c | c | c <;> omega)
  have iu : InW u := by unfold InW; omega
  have C0 : Hid (∀ w, Calls Try.prog 11 #[WV a, WV b] w fun e w' => e = .returned (.int .i64 o) ∧ Mo w w') := Lib.hid (by rw [← ho]; exact cmp_any a b)
  have U1 : Hid (∀ w, Calls Try.prog 7 #[.int .u64 s, WV k] w fun e w' => e = .returned (LV X s) ∧ Mo w w') := Lib.hid (by rw [← vx, ← hx]; exact unfold_any s k s1 hs ik)
  have U2 : Hid (∀ w, Calls Try.prog 7 #[.int .u64 s, WV l] w fun e w' => e = .returned (LV Y s) ∧ Mo w w') := Lib.hid (by rw [← vy, ← hy]; exact unfold_any s l s1 hs il)
  have C1 : Hid (∀ w, Calls Try.prog 11 #[LV X s, LV Y s] w fun e w' => e = .returned (.int .i64 p) ∧ Mo w w') := Lib.hid (by rw [← vx, ← vy, ← hp]; exact cmp_any x y)
  have N1 : Hid (∀ w, Calls Try.prog 16 #[LV X s] w fun e w' => e = .returned (.int .i64 X) ∧ Mo w w') := Lib.hid (number_lv X s)
  have N2 : Hid (∀ w, Calls Try.prog 16 #[LV Y s] w fun e w' => e = .returned (.int .i64 Y) ∧ Mo w w') := Lib.hid (number_lv Y s)
  have X1 : Hid (∀ w, Calls Try.prog 14 #[.int .u64 t, .int .u32 f] w fun e w' => e = .returned (WV u) ∧ Mo w w') := Lib.hid (by rw [← hu]; exact unix_any t f t1 (by omega) f1 (by omega))
  have X2 : Hid (∀ w, Calls Try.prog 14 #[.int .u64 q, .int .u32 g] w fun e w' => e = .returned (WV v) ∧ Mo w w') := Lib.hid (by rw [← hv]; exact unix_any q g q1 (by omega) g1 (by omega))
  have B1 : Hid (∀ w, Calls Try.prog 12 #[WV u] w fun e w' => e = .returned (.tuple #[.int .u64 t, .int .u32 f, .bool true]) ∧ Mo w w') := Lib.hid (fun w => by
    have e : cl (u - 9487534653230284800) = t * 4294967296 + f := by rw [cl_in (by unfold InW; omega)]; omega
    have := back_yes u (t * 4294967296 + f) iu e.symm (by omega) (by omega) w
    rwa [show (t * 4294967296 + f) / 4294967296 = t by omega, show (t * 4294967296 + f) % 4294967296 = f by omega] at this)
  have C3 : Hid (∀ w, Calls Try.prog 11 #[WV u, WV v] w fun e w' => e = .returned (.int .i64 o3) ∧ Mo w w') := Lib.hid (by rw [← ho3]; exact cmp_any u v)
  have QR : Hid ((t < q ∧ o3 < 0) ∨ (¬ t < q ∧ t = q ∧ f < g ∧ o3 < 0) ∨ (¬ t < q ∧ t = q ∧ ¬ f < g ∧ ¬ o3 < 0) ∨ (¬ t < q ∧ ¬ t = q ∧ ¬ o3 < 0)) := Lib.hid (by
    rcases cmpI_cases u v with c | c | c <;> omega)
  clear ho hkl ik il hx hy hX hY hp hu hv ho3 lx ly xy ex ey vx vy iu s1 s2 hs ia ib t1 t2 q1 q2 f1 f2 g1 g2
  go_enter Try.func5, Try.ntmps5
  go_wp2_with fail
  refine (known_any _).mono ?_; rintro e w1 ⟨rfl, K0, k0, rfl⟩
  go_wp2_with fail
  refine (C0.out _).mono ?_; rintro e w1 ⟨rfl, K1, k1, rfl⟩
  rcases hk with ⟨rfl, rfl, rfl⟩ | ⟨on, rfl, rfl⟩
  · skip
    go_upto_region 5 with (fail)
    refine wp_name ?_
    intro W hW
    have M0 : Mo w W := by rw [hW]; exact Mor.out
    have c80 : W.cell? ⟨w.heap.size, 0, none⟩ = some (.int .i64 (hiW k)) := by rw [hW]; simp [go_sem]
    have c81 : W.cell? ⟨w.heap.size, 1, none⟩ = some (.int .u64 (loW k)) := by rw [hW]; simp [go_sem]
    have c90 : W.cell? ⟨w.heap.size + 1, 0, none⟩ = some (.int .i64 (hiW l)) := by rw [hW]; simp [go_sem]
    have c91 : W.cell? ⟨w.heap.size + 1, 1, none⟩ = some (.int .u64 (loW l)) := by rw [hW]; simp [go_sem]
    clear hW
    generalize w.heap.size + 1 = p9 at *
    generalize w.heap.size = p8 at *
    have L8 : LtW p8 W := LtW.of_cell c80
    have L9 : LtW p9 W := LtW.of_cell c90
    go_cut [15, 16] (fun s15 s16 wx => ∃ p q, s15 = .pointer (some ⟨p, 0, none⟩) ∧ s16 = .pointer (some ⟨q, 0, none⟩) ∧ wx.cell? ⟨p, 0, none⟩ = some (.int .i64 X) ∧ wx.cell? ⟨p, 1, none⟩ = some (.int .u64 s) ∧ wx.cell? ⟨q, 0, none⟩ = some (.int .i64 Y) ∧ wx.cell? ⟨q, 1, none⟩ = some (.int .u64 s) ∧ Mo W wx)
    case first =>
      as_aux_lemma =>
        go_region_held3 (fun w' => w'.cell? ⟨p8, 0, none⟩ = some (.int .i64 (hiW k)) ∧ w'.cell? ⟨p8, 1, none⟩ = some (.int .u64 (loW k)) ∧ w'.cell? ⟨p9, 0, none⟩ = some (.int .i64 (hiW l)) ∧ w'.cell? ⟨p9, 1, none⟩ = some (.int .u64 (loW l))) (simp [go_sem, c80, c81, c90, c91])
          (first
          | ((with_reducible refine (U1.out _).mono ?_); rintro e w1 ⟨rfl, J3, d3, rfl⟩)
          | ((with_reducible refine (U2.out _).mono ?_); rintro e w1 ⟨rfl, J3, d3, rfl⟩))
        all_goals (go_wp2_with fail; go_meet; exact ⟨_, _, rfl, rfl, by simp [go_sem], by simp [go_sem], by simp [go_sem], by simp [go_sem], Mor.out⟩)
    obtain ⟨p15, p16, rfl, rfl, k1, k2, k3, k4, hM⟩ := hcut
    replace M0 := M0.trans hM
    clear hM L8 L9 c80 c81 c90 c91
    have L15 : LtW p15 wc := LtW.of_cell k1
    have L16 : LtW p16 wc := LtW.of_cell k3
    rename World => Wa
    go_upto_region 6 with (fail)
    rcases XY.out with ⟨xe, pe⟩ | ⟨xe, pe⟩
    · have P1 := Lib.hid pe
      clear pe
      subst xe
      obtain rfl := P1.out
      clear P1
      refine wp_region_mo (by kernel_rfl) (by kernel_rfl) ?_
      repeat (go_big_quiet_step (first | (with_reducible exact quiet_mo (C1.out _))))
      refine wpQuiet_nil ?_
      intro _ hw'
      obtain ⟨⟨J9, d9⟩, hw''⟩ := hw'
      subst hw''
      go_wp2_with fail
      refine (X1.out _).mono ?_; rintro e w1 ⟨rfl, K3, k3, rfl⟩
      go_wp2_with fail
      refine (X2.out _).mono ?_; rintro e w1 ⟨rfl, K4, k4, rfl⟩
      go_wp2_with fail
      refine (B1.out _).mono ?_; rintro e w1 ⟨rfl, K5, k5, rfl⟩
      have Q := QR.out
      rcases Q with ⟨h1, h2⟩ | ⟨h0, rfl, h2, h3⟩ | ⟨h0, rfl, h2, h3⟩ | ⟨h0, h1, h2⟩
      · go_wp2_with fail
        refine (C3.out _).mono ?_; rintro e w1 ⟨rfl, K6, k6, rfl⟩
        go_wp2_with fail
        go_ret
        exact ⟨rfl, M0.trans Mor.out⟩
      · go_wp2_with fail
        refine (C3.out _).mono ?_; rintro e w1 ⟨rfl, K6, k6, rfl⟩
        go_wp2_with fail
        go_ret
        exact ⟨rfl, M0.trans Mor.out⟩
      · go_wp2_with fail
        refine (C3.out _).mono ?_; rintro e w1 ⟨rfl, K6, k6, rfl⟩
        go_wp2_with fail
        rw [show decide (o3 < 0) = false from decide_eq_false (by omega), show decide (f < g) = false from decide_eq_false (by omega)]
        go_ret
        exact ⟨rfl, M0.trans Mor.out⟩
      · go_wp2_with fail
        refine (C3.out _).mono ?_; rintro e w1 ⟨rfl, K6, k6, rfl⟩
        go_wp2_with fail
        rw [show decide (o3 < 0) = false from decide_eq_false (by omega), show decide (t < q) = false from decide_eq_false (by omega)]
        go_ret
        exact ⟨rfl, M0.trans Mor.out⟩
    · have xn : ¬ X = Y := by omega
      obtain rfl := pe
      refine wp_region_mo (by kernel_rfl) (by kernel_rfl) ?_
      repeat (go_big_quiet_step (first | (with_reducible exact quiet_mo (C1.out _)) | (with_reducible exact quiet_mo (N1.out _)) | (with_reducible exact quiet_mo (N2.out _))))
      refine wpQuiet_nil ?_
      intro _ hw'
      obtain ⟨⟨J9, d9⟩, hw''⟩ := hw'
      subst hw''
      go_wp2_with fail
      refine (X1.out _).mono ?_; rintro e w1 ⟨rfl, K3, k3, rfl⟩
      go_wp2_with fail
      refine (X2.out _).mono ?_; rintro e w1 ⟨rfl, K4, k4, rfl⟩
      go_wp2_with fail
      refine (B1.out _).mono ?_; rintro e w1 ⟨rfl, K5, k5, rfl⟩
      have Q := QR.out
      rcases Q with ⟨h1, h2⟩ | ⟨h0, rfl, h2, h3⟩ | ⟨h0, rfl, h2, h3⟩ | ⟨h0, h1, h2⟩
      · go_wp2_with fail
        refine (C3.out _).mono ?_; rintro e w1 ⟨rfl, K6, k6, rfl⟩
        go_wp2_with fail
        go_ret
        exact ⟨rfl, M0.trans Mor.out⟩
      · go_wp2_with fail
        refine (C3.out _).mono ?_; rintro e w1 ⟨rfl, K6, k6, rfl⟩
        go_wp2_with fail
        go_ret
        exact ⟨rfl, M0.trans Mor.out⟩
      · go_wp2_with fail
        refine (C3.out _).mono ?_; rintro e w1 ⟨rfl, K6, k6, rfl⟩
        go_wp2_with fail
        rw [show decide (o3 < 0) = false from decide_eq_false (by omega), show decide (f < g) = false from decide_eq_false (by omega)]
        go_ret
        exact ⟨rfl, M0.trans Mor.out⟩
      · go_wp2_with fail
        refine (C3.out _).mono ?_; rintro e w1 ⟨rfl, K6, k6, rfl⟩
        go_wp2_with fail
        rw [show decide (o3 < 0) = false from decide_eq_false (by omega), show decide (t < q) = false from decide_eq_false (by omega)]
        go_ret
        exact ⟨rfl, M0.trans Mor.out⟩
  · skip
    go_upto_region 5 with (fail)
    refine wp_name ?_
    intro W hW
    have M0 : Mo w W := by rw [hW]; exact Mor.out
    have c80 : W.cell? ⟨w.heap.size, 0, none⟩ = some (.int .i64 (hiW k)) := by rw [hW]; simp [go_sem]
    have c81 : W.cell? ⟨w.heap.size, 1, none⟩ = some (.int .u64 (loW k)) := by rw [hW]; simp [go_sem]
    have c90 : W.cell? ⟨w.heap.size + 1, 0, none⟩ = some (.int .i64 (hiW l)) := by rw [hW]; simp [go_sem]
    have c91 : W.cell? ⟨w.heap.size + 1, 1, none⟩ = some (.int .u64 (loW l)) := by rw [hW]; simp [go_sem]
    clear hW
    generalize w.heap.size + 1 = p9 at *
    generalize w.heap.size = p8 at *
    have L8 : LtW p8 W := LtW.of_cell c80
    have L9 : LtW p9 W := LtW.of_cell c90
    go_cut [15, 16] (fun s15 s16 wx => ∃ p q, s15 = .pointer (some ⟨p, 0, none⟩) ∧ s16 = .pointer (some ⟨q, 0, none⟩) ∧ wx.cell? ⟨p, 0, none⟩ = some (.int .i64 X) ∧ wx.cell? ⟨p, 1, none⟩ = some (.int .u64 s) ∧ wx.cell? ⟨q, 0, none⟩ = some (.int .i64 Y) ∧ wx.cell? ⟨q, 1, none⟩ = some (.int .u64 s) ∧ Mo W wx)
    case first =>
      as_aux_lemma =>
        go_region_held3 (fun w' => w'.cell? ⟨p8, 0, none⟩ = some (.int .i64 (hiW k)) ∧ w'.cell? ⟨p8, 1, none⟩ = some (.int .u64 (loW k)) ∧ w'.cell? ⟨p9, 0, none⟩ = some (.int .i64 (hiW l)) ∧ w'.cell? ⟨p9, 1, none⟩ = some (.int .u64 (loW l))) (simp [go_sem, c80, c81, c90, c91])
          (first
          | ((with_reducible refine (U1.out _).mono ?_); rintro e w1 ⟨rfl, J3, d3, rfl⟩)
          | ((with_reducible refine (U2.out _).mono ?_); rintro e w1 ⟨rfl, J3, d3, rfl⟩))
        all_goals (go_wp2_with fail; go_meet; exact ⟨_, _, rfl, rfl, by simp [go_sem], by simp [go_sem], by simp [go_sem], by simp [go_sem], Mor.out⟩)
    obtain ⟨p15, p16, rfl, rfl, k1, k2, k3, k4, hM⟩ := hcut
    replace M0 := M0.trans hM
    clear hM L8 L9 c80 c81 c90 c91
    have L15 : LtW p15 wc := LtW.of_cell k1
    have L16 : LtW p16 wc := LtW.of_cell k3
    rename World => Wa
    go_upto_region 6 with (fail)
    rcases XY.out with ⟨xe, pe⟩ | ⟨xe, pe⟩
    · have P1 := Lib.hid pe
      clear pe
      subst xe
      obtain rfl := P1.out
      clear P1
      refine wp_region_mo (by kernel_rfl) (by kernel_rfl) ?_
      repeat (go_big_quiet_step (first | (with_reducible exact quiet_mo (C1.out _))))
      refine wpQuiet_nil ?_
      intro _ hw'
      obtain ⟨⟨J9, d9⟩, hw''⟩ := hw'
      subst hw''
      go_wp2_with fail
      refine (X1.out _).mono ?_; rintro e w1 ⟨rfl, K3, k3, rfl⟩
      go_wp2_with fail
      refine (X2.out _).mono ?_; rintro e w1 ⟨rfl, K4, k4, rfl⟩
      go_wp2_with fail
      refine (B1.out _).mono ?_; rintro e w1 ⟨rfl, K5, k5, rfl⟩
      have Q := QR.out
      rcases Q with ⟨h1, h2⟩ | ⟨h0, rfl, h2, h3⟩ | ⟨h0, rfl, h2, h3⟩ | ⟨h0, h1, h2⟩
      · go_wp2_with fail
        refine (C3.out _).mono ?_; rintro e w1 ⟨rfl, K6, k6, rfl⟩
        go_wp2_with fail
        go_ret
        exact ⟨rfl, M0.trans Mor.out⟩
      · go_wp2_with fail
        refine (C3.out _).mono ?_; rintro e w1 ⟨rfl, K6, k6, rfl⟩
        go_wp2_with fail
        go_ret
        exact ⟨rfl, M0.trans Mor.out⟩
      · go_wp2_with fail
        refine (C3.out _).mono ?_; rintro e w1 ⟨rfl, K6, k6, rfl⟩
        go_wp2_with fail
        rw [show decide (o3 < 0) = false from decide_eq_false (by omega), show decide (f < g) = false from decide_eq_false (by omega)]
        go_ret
        exact ⟨rfl, M0.trans Mor.out⟩
      · go_wp2_with fail
        refine (C3.out _).mono ?_; rintro e w1 ⟨rfl, K6, k6, rfl⟩
        go_wp2_with fail
        rw [show decide (o3 < 0) = false from decide_eq_false (by omega), show decide (t < q) = false from decide_eq_false (by omega)]
        go_ret
        exact ⟨rfl, M0.trans Mor.out⟩
    · have xn : ¬ X = Y := by omega
      obtain rfl := pe
      refine wp_region_mo (by kernel_rfl) (by kernel_rfl) ?_
      repeat (go_big_quiet_step (first | (with_reducible exact quiet_mo (C1.out _)) | (with_reducible exact quiet_mo (N1.out _)) | (with_reducible exact quiet_mo (N2.out _))))
      refine wpQuiet_nil ?_
      intro _ hw'
      obtain ⟨⟨J9, d9⟩, hw''⟩ := hw'
      subst hw''
      go_wp2_with fail
      refine (X1.out _).mono ?_; rintro e w1 ⟨rfl, K3, k3, rfl⟩
      go_wp2_with fail
      refine (X2.out _).mono ?_; rintro e w1 ⟨rfl, K4, k4, rfl⟩
      go_wp2_with fail
      refine (B1.out _).mono ?_; rintro e w1 ⟨rfl, K5, k5, rfl⟩
      have Q := QR.out
      rcases Q with ⟨h1, h2⟩ | ⟨h0, rfl, h2, h3⟩ | ⟨h0, rfl, h2, h3⟩ | ⟨h0, h1, h2⟩
      · go_wp2_with fail
        refine (C3.out _).mono ?_; rintro e w1 ⟨rfl, K6, k6, rfl⟩
        go_wp2_with fail
        go_ret
        exact ⟨rfl, M0.trans Mor.out⟩
      · go_wp2_with fail
        refine (C3.out _).mono ?_; rintro e w1 ⟨rfl, K6, k6, rfl⟩
        go_wp2_with fail
        go_ret
        exact ⟨rfl, M0.trans Mor.out⟩
      · go_wp2_with fail
        refine (C3.out _).mono ?_; rintro e w1 ⟨rfl, K6, k6, rfl⟩
        go_wp2_with fail
        rw [show decide (o3 < 0) = false from decide_eq_false (by omega), show decide (f < g) = false from decide_eq_false (by omega)]
        go_ret
        exact ⟨rfl, M0.trans Mor.out⟩
      · go_wp2_with fail
        refine (C3.out _).mono ?_; rintro e w1 ⟨rfl, K6, k6, rfl⟩
        go_wp2_with fail
        rw [show decide (o3 < 0) = false from decide_eq_false (by omega), show decide (t < q) = false from decide_eq_false (by omega)]
        go_ret
        exact ⟨rfl, M0.trans Mor.out⟩
end Go.Proofs.Ytpemhbblpedgeaa
