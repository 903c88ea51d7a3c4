/- horologelaw01.WideLaws returns true. -/
import Derived.Test.YtaboiojabmbioaaKnown01
namespace Go.Proofs.Ytaboiojabmbioaa
open Go.RowKit

theorem cmpI_lt {x y : Int} (h : x < y) : cmpI x y = -1 := if_pos h
theorem cmpI_eq {x y : Int} (h : x = y) : cmpI x y = 0 := by unfold cmpI; rw [if_neg (by omega), if_neg (by omega)]
theorem cmpI_gt {x y : Int} (h : y < x) : cmpI x y = 1 := by unfold cmpI; rw [if_neg (by omega), if_pos (by omega)]
def IsEnd (x : Int) : Prop := x = maxW ∨ x = minW
theorem isEnd_hl (x : Int) : (hiW x = 9223372036854775807 ∧ loW x = 18446744073709551615 ↔ x = maxW) ∧ (hiW x = -9223372036854775808 ∧ loW x = 0 ↔ x = minW) := by
  unfold hiW loW maxW minW; omega
set_option maxHeartbeats 400000 in
theorem ends_yes (x : Int) (h : IsEnd x) (w : World) : Calls Try.prog 30 #[WV x] w fun e w' => e = .returned (.bool true) ∧ Mo w w' := by
  rcases h with h | h
  · rw [h, lw maxW 9223372036854775807 18446744073709551615 (by unfold maxW; omega) (by omega) (by omega)]
    go_enter Try.func30, Try.ntmps30
    go_wp2
    go_ret
    exact ⟨rfl, Mor.out⟩
  · rw [h, lw minW (-9223372036854775808) 0 (by unfold minW; omega) (by omega) (by omega)]
    go_enter Try.func30, Try.ntmps30
    go_wp2
    go_ret
    exact ⟨rfl, Mor.out⟩
set_option maxHeartbeats 400000 in
theorem ends_no (x : Int) (h : ¬ IsEnd x) (w : World) : Calls Try.prog 30 #[WV x] w fun e w' => e = .returned (.bool false) ∧ Mo w w' := by
  obtain ⟨h1, h2⟩ := isEnd_hl x
  have g1 : ¬ (hiW x = 9223372036854775807 ∧ loW x = 18446744073709551615) := fun c => h (.inl (h1.1 c))
  have g2 : ¬ (hiW x = -9223372036854775808 ∧ loW x = 0) := fun c => h (.inr (h2.1 c))
  have HG1 := Lib.hid g1
  have HG2 := Lib.hid g2
  clear g1 g2 h1 h2
  go_enter Try.func30, Try.ntmps30
  go_wp2
  all_goals first
    | (exfalso; exact HG1.out ⟨by assumption, by assumption⟩)
    | (exfalso; exact HG2.out ⟨by assumption, by assumption⟩)
    | (go_ret; exact ⟨rfl, Mor.out⟩)
theorem notEnd {x : Int} (h : ¬ IsEnd (cl x)) : cl x = x ∧ InW x := by
  by_cases c : InW x
  · exact ⟨cl_in c, c⟩
  · exfalso; apply h; unfold InW at c; unfold cl IsEnd
    by_cases d : x < -170141183460469231731687303715884105728
    · rw [if_pos d]; right; rfl
    · rw [if_neg d, if_pos (by omega)]; left; rfl
theorem cl_mono {x y : Int} (h : x ≤ y) : cl x ≤ cl y := by
  unfold cl minW maxW; (repeat' split) <;> omega
set_option maxRecDepth 100000 in
set_option maxHeartbeats 20000000 in
theorem laws_any (a b c n : Int) (ha : InW a) (hb : InW b) (hc : InW c) (n1 : 0 ≤ n) (n2 : n ≤ 4294967295) (w : World) :
    Calls Try.prog 7 #[WV a, WV b, WV c, .int .u32 n] w fun e w' => e = .returned (.bool true) ∧ Mo w w' := by
  obtain ⟨s, hs⟩ : ∃ s, s = cl (a + b) := ⟨_, rfl⟩
  obtain ⟨t, ht⟩ : ∃ t, t = cl (b + c) := ⟨_, rfl⟩
  obtain ⟨l, hl⟩ : ∃ l, l = cl (s + c) := ⟨_, rfl⟩
  obtain ⟨r, hr⟩ : ∃ r, r = cl (a + t) := ⟨_, rfl⟩
  obtain ⟨x, hx⟩ : ∃ x, x = cl (a + c) := ⟨_, rfl⟩
  obtain ⟨h, hh⟩ : ∃ h, h = a / 2 := ⟨_, rfl⟩
  obtain ⟨v, hv⟩ : ∃ v, v = a - (h + h) := ⟨_, rfl⟩
  have is : InW s := by rw [hs]; exact inW_cl _
  have it : InW t := by rw [ht]; exact inW_cl _
  have ih : InW h := by rw [hh]; have := ha.1; have := ha.2; unfold InW; omega
  have ihh : InW (h + h) := by rw [hh]; have := ha.1; have := ha.2; unfold InW; omega
  have A1 : Hid (∀ w, Calls Try.prog 24 #[WV a, WV b] w fun e w' => e = .returned (WV s) ∧ Mo w w') := Lib.hid (by rw [hs]; exact add_any a b ha hb)
  have A2 : Hid (∀ w, Calls Try.prog 24 #[WV b, WV a] w fun e w' => e = .returned (WV s) ∧ Mo w w') := Lib.hid (by rw [hs, Int.add_comm]; exact add_any b a hb ha)
  have A3 : Hid (∀ w, Calls Try.prog 24 #[WV s, WV c] w fun e w' => e = .returned (WV l) ∧ Mo w w') := Lib.hid (by rw [hl]; exact add_any s c is hc)
  have A4 : Hid (∀ w, Calls Try.prog 24 #[WV b, WV c] w fun e w' => e = .returned (WV t) ∧ Mo w w') := Lib.hid (by rw [ht]; exact add_any b c hb hc)
  have A5 : Hid (∀ w, Calls Try.prog 24 #[WV a, WV t] w fun e w' => e = .returned (WV r) ∧ Mo w w') := Lib.hid (by rw [hr]; exact add_any a t ha it)
  have A6 : Hid (∀ w, Calls Try.prog 24 #[WV a, WV c] w fun e w' => e = .returned (WV x) ∧ Mo w w') := Lib.hid (by rw [hx]; exact add_any a c ha hc)
  have A7 : Hid (∀ w, Calls Try.prog 24 #[WV h, WV h] w fun e w' => e = .returned (WV (h + h)) ∧ Mo w w') := Lib.hid (by have := add_any h h ih ih; rwa [cl_in ihh] at this)
  have B1 : Hid (∀ w, Calls Try.prog 16 #[WV a] w fun e w' => e = .returned (WV h) ∧ Mo w w') := Lib.hid (by rw [hh]; exact half_any a ha)
  have B2 : Hid (∀ w, Calls Try.prog 25 #[WV a, WV (h + h)] w fun e w' => e = .returned (WV v) ∧ Mo w w') := Lib.hid (by rw [hv]; have := sub_any a (h + h) ha ihh; rwa [cl_in (by rw [hh]; unfold InW; omega)] at this)
  have P1 : ¬ IsEnd s → s = a + b := fun e => by rw [hs] at e ⊢; exact (notEnd e).1
  have P2 : ¬ IsEnd t → t = b + c := fun e => by rw [ht] at e ⊢; exact (notEnd e).1
  have P3 : ¬ IsEnd l → l = s + c := fun e => by rw [hl] at e ⊢; exact (notEnd e).1
  have P4 : ¬ IsEnd r → r = a + t := fun e => by rw [hr] at e ⊢; exact (notEnd e).1
  have P5 : ¬ IsEnd x → x = a + c := fun e => by rw [hx] at e ⊢; exact (notEnd e).1
  have P6 : a ≤ b → x ≤ t := fun e => by rw [hx, ht]; exact cl_mono (by omega)
  have P7 : v = 0 ∨ v = 1 := by rw [hv, hh]; omega
  replace P1 := Lib.hid P1
  replace P2 := Lib.hid P2
  replace P3 := Lib.hid P3
  replace P4 := Lib.hid P4
  replace P5 := Lib.hid P5
  replace P6 := Lib.hid P6
  replace P7 := Lib.hid P7
  clear hs ht hl hr hx hh hv
  go_enter Try.func7, Try.ntmps7
  go_wp2_with fail
  refine (known_any _).mono ?_; rintro e w1 ⟨rfl, J0, d0, rfl⟩
  go_wp2_with fail
  refine (A1.out _).mono ?_; rintro e w1 ⟨rfl, J1, d1, rfl⟩
  go_wp2_with fail
  refine wp_name ?_
  intro W hW
  have M0 : Mo w W := by rw [hW]; exact Mor.out
  have c40 : W.cell? ⟨w.heap.size, 0, none⟩ = some (.int .i64 (hiW a)) := by rw [hW]; simp [go_sem]
  have c41 : W.cell? ⟨w.heap.size, 1, none⟩ = some (.int .u64 (loW a)) := by rw [hW]; simp [go_sem]
  have c50 : W.cell? ⟨w.heap.size + 1, 0, none⟩ = some (.int .i64 (hiW b)) := by rw [hW]; simp [go_sem]
  have c51 : W.cell? ⟨w.heap.size + 1, 1, none⟩ = some (.int .u64 (loW b)) := by rw [hW]; simp [go_sem]
  have c60 : W.cell? ⟨w.heap.size + 1 + 1, 0, none⟩ = some (.int .i64 (hiW c)) := by rw [hW]; simp [go_sem]
  have c61 : W.cell? ⟨w.heap.size + 1 + 1, 1, none⟩ = some (.int .u64 (loW c)) := by rw [hW]; simp [go_sem]
  have c90 : W.cell? ⟨w.heap.size + 1 + 1 + 1 + (J0.size + J1.size), 0, none⟩ = some (.int .i64 (hiW s)) := by rw [hW]; simp [go_sem]
  have c91 : W.cell? ⟨w.heap.size + 1 + 1 + 1 + (J0.size + J1.size), 1, none⟩ = some (.int .u64 (loW s)) := by rw [hW]; simp [go_sem]
  have HW := Lib.hid hW
  clear hW
  generalize w.heap.size + 1 + 1 + 1 + (J0.size + J1.size) = p9 at *
  generalize w.heap.size + 1 + 1 = p6 at *
  generalize w.heap.size + 1 = p5 at *
  generalize w.heap.size = p4 at *
  have L4 : LtW p4 W := LtW.of_cell c40
  have L5 : LtW p5 W := LtW.of_cell c50
  have L6 : LtW p6 W := LtW.of_cell c60
  have L9 : LtW p9 W := LtW.of_cell c90
  go_cut [28] (fun s wx => s = .bool false ∧ ∃ J d, wx = more W J d)
  case first =>
    as_aux_lemma =>
      refine wp_region_mo (by kernel_rfl) (by kernel_rfl) ?_
      repeat (go_big_quiet_step (first | (with_reducible exact quiet_mo (A2.out _))))
      refine wpQuiet_nil ?_
      intro _ hw'
      obtain ⟨⟨J2, d2⟩, hw''⟩ := hw'
      subst hw''
      go_wp2_with fail
      go_meet
      exact ⟨rfl, _, _, rfl⟩
  obtain ⟨rfl, J, d, rfl⟩ := hcut
  go_wp2_with fail
  go_cut [45] (fun s wx => s = .bool false ∧ ∃ J d, wx = more W J d)
  case first =>
    as_aux_lemma =>
      by_cases e : IsEnd s
      · have E1 := Lib.hid (ends_yes s e)
        refine wp_region_mo' (by kernel_rfl) (by kernel_rfl) ?_
        repeat (go_big_quiet_step (first | (with_reducible exact quiet_mo (E1.out _))))
        refine wpQuiet_nil ?_
        intro _ hw'
        obtain ⟨⟨J2, d2⟩, hw''⟩ := hw'
        subst hw''
        go_wp2_with fail
        go_meet
        exact ⟨rfl, _, _, rfl⟩
      · have E1 := Lib.hid (ends_no s e)
        have e1 := P1.out e
        have S1 : Hid (∀ w, Calls Try.prog 25 #[WV s, WV b] w fun e w' => e = .returned (WV a) ∧ Mo w w') := Lib.hid (by
          have := sub_any s b is hb; rwa [show s - b = a by omega, cl_in ha] at this)
        have S2 : Hid (∀ w, Calls Try.prog 25 #[WV s, WV a] w fun e w' => e = .returned (WV b) ∧ Mo w w') := Lib.hid (by
          have := sub_any s a is ha; rwa [show s - a = b by omega, cl_in hb] at this)
        clear e1
        refine wp_region_mo' (by kernel_rfl) (by kernel_rfl) ?_
        repeat (go_big_quiet_step (first | (with_reducible exact quiet_mo (E1.out _)) | (with_reducible exact quiet_mo (S1.out _)) | (with_reducible exact quiet_mo (S2.out _))))
        refine wpQuiet_nil ?_
        intro _ hw'
        obtain ⟨⟨J2, d2⟩, hw''⟩ := hw'
        subst hw''
        go_wp2_with fail
        go_meet
        exact ⟨rfl, _, _, rfl⟩
  obtain ⟨rfl, J, d, rfl⟩ := hcut
  go_wp2_with fail
  go_cut [10, 11] (fun s10 s11 wx => ∃ p q : Nat, s10 = .pointer (some ⟨p, 0, none⟩) ∧ s11 = .pointer (some ⟨q, 0, none⟩) ∧ wx.cell? ⟨p, 0, none⟩ = some (.int .i64 (hiW l)) ∧ wx.cell? ⟨p, 1, none⟩ = some (.int .u64 (loW l)) ∧ wx.cell? ⟨q, 0, none⟩ = some (.int .i64 (hiW r)) ∧ wx.cell? ⟨q, 1, none⟩ = some (.int .u64 (loW r)) ∧ Mo W wx)
  case first =>
    as_aux_lemma =>
      go_region_held3 (fun w' => w'.cell? ⟨p4, 0, none⟩ = some (.int .i64 (hiW a)) ∧ w'.cell? ⟨p4, 1, none⟩ = some (.int .u64 (loW a)) ∧ w'.cell? ⟨p5, 0, none⟩ = some (.int .i64 (hiW b)) ∧ w'.cell? ⟨p5, 1, none⟩ = some (.int .u64 (loW b)) ∧ w'.cell? ⟨p6, 0, none⟩ = some (.int .i64 (hiW c)) ∧ w'.cell? ⟨p6, 1, none⟩ = some (.int .u64 (loW c)) ∧ w'.cell? ⟨p9, 0, none⟩ = some (.int .i64 (hiW s)) ∧ w'.cell? ⟨p9, 1, none⟩ = some (.int .u64 (loW s))) (simp [go_sem, c40, c41, c50, c51, c60, c61, c90, c91])
        (first
        | ((with_reducible refine (A3.out _).mono ?_); rintro e w1 ⟨rfl, J3, d3, rfl⟩)
        | ((with_reducible refine (A4.out _).mono ?_); rintro e w1 ⟨rfl, J3, d3, rfl⟩)
        | ((with_reducible refine (A5.out _).mono ?_); rintro e w1 ⟨rfl, J3, d3, rfl⟩))
      all_goals (go_wp2_with fail; go_meet; exact ⟨_, _, rfl, rfl, by simp [go_sem], by simp [go_sem], by simp [go_sem], by simp [go_sem], Mor.out⟩)
  obtain ⟨p10, p11, rfl, rfl, c100, c101, c110, c111, hM⟩ := hcut
  replace c40 : wc.cell? ⟨p4, 0, none⟩ = some (.int .i64 (hiW a)) := hM.cell.trans c40
  replace c41 : wc.cell? ⟨p4, 1, none⟩ = some (.int .u64 (loW a)) := hM.cell.trans c41
  replace c50 : wc.cell? ⟨p5, 0, none⟩ = some (.int .i64 (hiW b)) := hM.cell.trans c50
  replace c51 : wc.cell? ⟨p5, 1, none⟩ = some (.int .u64 (loW b)) := hM.cell.trans c51
  replace c60 : wc.cell? ⟨p6, 0, none⟩ = some (.int .i64 (hiW c)) := hM.cell.trans c60
  replace c61 : wc.cell? ⟨p6, 1, none⟩ = some (.int .u64 (loW c)) := hM.cell.trans c61
  replace c90 : wc.cell? ⟨p9, 0, none⟩ = some (.int .i64 (hiW s)) := hM.cell.trans c90
  replace c91 : wc.cell? ⟨p9, 1, none⟩ = some (.int .u64 (loW s)) := hM.cell.trans c91
  replace M0 := M0.trans hM
  clear hM L4 L5 L6 L9
  have L4 : LtW p4 wc := LtW.of_cell c40
  have L5 : LtW p5 wc := LtW.of_cell c50
  have L6 : LtW p6 wc := LtW.of_cell c60
  have L9 : LtW p9 wc := LtW.of_cell c90
  have L10 : LtW p10 wc := LtW.of_cell c100
  have L11 : LtW p11 wc := LtW.of_cell c110
  rename World => Wa
  go_upto_region 9 with (fail)
  go_cut [78] (fun s wx => s = .bool false ∧ ∃ J d, wx = more Wa J d)
  case first =>
    as_aux_lemma =>
      by_cases es : IsEnd s
      · have E1 := Lib.hid (ends_yes s es)
        go_wp2_with (first
          | ((with_reducible refine (E1.out _).mono ?_); rintro e w1 ⟨rfl, J3, d3, rfl⟩))
        go_meet
        exact ⟨rfl, _, _, rfl⟩
      have E1 := Lib.hid (ends_no s es)
      by_cases et : IsEnd t
      · have E2 := Lib.hid (ends_yes t et)
        go_wp2_with (first
          | ((with_reducible refine (E1.out _).mono ?_); rintro e w1 ⟨rfl, J3, d3, rfl⟩)
          | ((with_reducible refine (A4.out _).mono ?_); rintro e w1 ⟨rfl, J3, d3, rfl⟩)
          | ((with_reducible refine (E2.out _).mono ?_); rintro e w1 ⟨rfl, J3, d3, rfl⟩))
        go_meet
        exact ⟨rfl, _, _, rfl⟩
      have E2 := Lib.hid (ends_no t et)
      by_cases el : IsEnd l
      · have E3 := Lib.hid (ends_yes l el)
        go_wp2_with (first
          | ((with_reducible refine (E1.out _).mono ?_); rintro e w1 ⟨rfl, J3, d3, rfl⟩)
          | ((with_reducible refine (A4.out _).mono ?_); rintro e w1 ⟨rfl, J3, d3, rfl⟩)
          | ((with_reducible refine (E2.out _).mono ?_); rintro e w1 ⟨rfl, J3, d3, rfl⟩)
          | ((with_reducible refine (E3.out _).mono ?_); rintro e w1 ⟨rfl, J3, d3, rfl⟩))
        go_meet
        exact ⟨rfl, _, _, rfl⟩
      have E3 := Lib.hid (ends_no l el)
      by_cases er : IsEnd r
      · have E4 := Lib.hid (ends_yes r er)
        go_wp2_with (first
          | ((with_reducible refine (E1.out _).mono ?_); rintro e w1 ⟨rfl, J3, d3, rfl⟩)
          | ((with_reducible refine (A4.out _).mono ?_); rintro e w1 ⟨rfl, J3, d3, rfl⟩)
          | ((with_reducible refine (E2.out _).mono ?_); rintro e w1 ⟨rfl, J3, d3, rfl⟩)
          | ((with_reducible refine (E3.out _).mono ?_); rintro e w1 ⟨rfl, J3, d3, rfl⟩)
          | ((with_reducible refine (E4.out _).mono ?_); rintro e w1 ⟨rfl, J3, d3, rfl⟩))
        go_meet
        exact ⟨rfl, _, _, rfl⟩
      have E4 := Lib.hid (ends_no r er)
      obtain rfl : l = r := by have := P1.out es; have := P2.out et; have := P3.out el; have := P4.out er; omega
      go_wp2_with (first
        | ((with_reducible refine (E1.out _).mono ?_); rintro e w1 ⟨rfl, J3, d3, rfl⟩)
        | ((with_reducible refine (A4.out _).mono ?_); rintro e w1 ⟨rfl, J3, d3, rfl⟩)
        | ((with_reducible refine (E2.out _).mono ?_); rintro e w1 ⟨rfl, J3, d3, rfl⟩)
        | ((with_reducible refine (E3.out _).mono ?_); rintro e w1 ⟨rfl, J3, d3, rfl⟩)
        | ((with_reducible refine (E4.out _).mono ?_); rintro e w1 ⟨rfl, J3, d3, rfl⟩))
      go_meet
      exact ⟨rfl, _, _, rfl⟩
  obtain ⟨rfl, J, d, rfl⟩ := hcut
  go_wp2_with fail
  go_cut [12, 13] (fun s12 s13 wx => ∃ p q : Nat, s12 = .pointer (some ⟨p, 0, none⟩) ∧ s13 = .pointer (some ⟨q, 0, none⟩) ∧ wx.cell? ⟨p, 0, none⟩ = some (.int .i64 (hiW x)) ∧ wx.cell? ⟨p, 1, none⟩ = some (.int .u64 (loW x)) ∧ wx.cell? ⟨q, 0, none⟩ = some (.int .i64 (hiW t)) ∧ wx.cell? ⟨q, 1, none⟩ = some (.int .u64 (loW t)) ∧ Mo Wa wx)
  case first =>
    as_aux_lemma =>
      go_region_held3 (fun w' => w'.cell? ⟨p4, 0, none⟩ = some (.int .i64 (hiW a)) ∧ w'.cell? ⟨p4, 1, none⟩ = some (.int .u64 (loW a)) ∧ w'.cell? ⟨p5, 0, none⟩ = some (.int .i64 (hiW b)) ∧ w'.cell? ⟨p5, 1, none⟩ = some (.int .u64 (loW b)) ∧ w'.cell? ⟨p6, 0, none⟩ = some (.int .i64 (hiW c)) ∧ w'.cell? ⟨p6, 1, none⟩ = some (.int .u64 (loW c)) ∧ w'.cell? ⟨p9, 0, none⟩ = some (.int .i64 (hiW s)) ∧ w'.cell? ⟨p9, 1, none⟩ = some (.int .u64 (loW s)) ∧ w'.cell? ⟨p10, 0, none⟩ = some (.int .i64 (hiW l)) ∧ w'.cell? ⟨p10, 1, none⟩ = some (.int .u64 (loW l)) ∧ w'.cell? ⟨p11, 0, none⟩ = some (.int .i64 (hiW r)) ∧ w'.cell? ⟨p11, 1, none⟩ = some (.int .u64 (loW r))) (simp [go_sem, c40, c41, c50, c51, c60, c61, c90, c91, c100, c101, c110, c111])
        (first
        | ((with_reducible refine (A6.out _).mono ?_); rintro e w1 ⟨rfl, J3, d3, rfl⟩)
        | ((with_reducible refine (A4.out _).mono ?_); rintro e w1 ⟨rfl, J3, d3, rfl⟩))
      all_goals (go_wp2_with fail; go_meet; exact ⟨_, _, rfl, rfl, by simp [go_sem], by simp [go_sem], by simp [go_sem], by simp [go_sem], Mor.out⟩)
  obtain ⟨p12, p13, rfl, rfl, c120, c121, c130, c131, hM⟩ := hcut
  replace c40 : wc.cell? ⟨p4, 0, none⟩ = some (.int .i64 (hiW a)) := hM.cell.trans c40
  replace c41 : wc.cell? ⟨p4, 1, none⟩ = some (.int .u64 (loW a)) := hM.cell.trans c41
  replace c50 : wc.cell? ⟨p5, 0, none⟩ = some (.int .i64 (hiW b)) := hM.cell.trans c50
  replace c51 : wc.cell? ⟨p5, 1, none⟩ = some (.int .u64 (loW b)) := hM.cell.trans c51
  replace c60 : wc.cell? ⟨p6, 0, none⟩ = some (.int .i64 (hiW c)) := hM.cell.trans c60
  replace c61 : wc.cell? ⟨p6, 1, none⟩ = some (.int .u64 (loW c)) := hM.cell.trans c61
  replace c90 : wc.cell? ⟨p9, 0, none⟩ = some (.int .i64 (hiW s)) := hM.cell.trans c90
  replace c91 : wc.cell? ⟨p9, 1, none⟩ = some (.int .u64 (loW s)) := hM.cell.trans c91
  replace c100 : wc.cell? ⟨p10, 0, none⟩ = some (.int .i64 (hiW l)) := hM.cell.trans c100
  replace c101 : wc.cell? ⟨p10, 1, none⟩ = some (.int .u64 (loW l)) := hM.cell.trans c101
  replace c110 : wc.cell? ⟨p11, 0, none⟩ = some (.int .i64 (hiW r)) := hM.cell.trans c110
  replace c111 : wc.cell? ⟨p11, 1, none⟩ = some (.int .u64 (loW r)) := hM.cell.trans c111
  replace M0 := M0.trans hM
  clear hM L10 L11 L4 L5 L6 L9
  have L4 : LtW p4 wc := LtW.of_cell c40
  have L5 : LtW p5 wc := LtW.of_cell c50
  have L6 : LtW p6 wc := LtW.of_cell c60
  have L9 : LtW p9 wc := LtW.of_cell c90
  have L10 : LtW p10 wc := LtW.of_cell c100
  have L11 : LtW p11 wc := LtW.of_cell c110
  have L12 : LtW p12 wc := LtW.of_cell c120
  have L13 : LtW p13 wc := LtW.of_cell c130
  rename World => Waa
  go_wp2_with fail
  go_cut [113] (fun s wx => s = .bool false ∧ ∃ J d, wx = more Waa J d)
  case first =>
    as_aux_lemma =>
      have hx := P5.out
      have ht := P2.out
      have hm := P6.out
      rcases Int.lt_trichotomy a b with c | c | c
      · have K1 : Hid (∀ w, Calls Try.prog 28 #[WV a, WV b] w fun e w' => e = .returned (.int .i64 (-1)) ∧ Mo w w') := Lib.hid (by
          have := cmp_any a b; rwa [show cmpI a b = -1 from cmpI_lt (by omega)] at this)
        have hxt := hm (by omega)
        clear hm
        by_cases g : x < t
        · have K2 : Hid (∀ w, Calls Try.prog 28 #[WV x, WV t] w fun e w' => e = .returned (.int .i64 (-1)) ∧ Mo w w') := Lib.hid (by
            have := cmp_any x t; rwa [show cmpI x t = -1 from cmpI_lt (by omega)] at this)
          replace hx := Lib.hid hx
          replace ht := Lib.hid ht
          by_cases ex : IsEnd x
          · have E1 := Lib.hid (ends_yes x ex)
            refine wp_region_mo (by kernel_rfl) (by kernel_rfl) ?_
            repeat (go_big_quiet_step (first | (with_reducible exact quiet_mo (K1.out _)) | (with_reducible exact quiet_mo (K2.out _)) | (with_reducible exact quiet_mo (E1.out _))))
            refine wpQuiet_nil ?_
            intro _ hw'
            obtain ⟨⟨J2, d2⟩, hw''⟩ := hw'
            subst hw''
            go_wp2_with fail
            go_meet
            exact ⟨rfl, _, _, rfl⟩
          have E1 := Lib.hid (ends_no x ex)
          by_cases et : IsEnd t
          · have E2 := Lib.hid (ends_yes t et)
            refine wp_region_mo (by kernel_rfl) (by kernel_rfl) ?_
            repeat (go_big_quiet_step (first | (with_reducible exact quiet_mo (K1.out _)) | (with_reducible exact quiet_mo (K2.out _)) | (with_reducible exact quiet_mo (E1.out _)) | (with_reducible exact quiet_mo (E2.out _))))
            refine wpQuiet_nil ?_
            intro _ hw'
            obtain ⟨⟨J2, d2⟩, hw''⟩ := hw'
            subst hw''
            go_wp2_with fail
            go_meet
            exact ⟨rfl, _, _, rfl⟩
          have E2 := Lib.hid (ends_no t et)
          refine wp_region_mo (by kernel_rfl) (by kernel_rfl) ?_
          repeat (go_big_quiet_step (first | (with_reducible exact quiet_mo (K1.out _)) | (with_reducible exact quiet_mo (K2.out _)) | (with_reducible exact quiet_mo (E1.out _)) | (with_reducible exact quiet_mo (E2.out _))))
          refine wpQuiet_nil ?_
          intro _ hw'
          obtain ⟨⟨J2, d2⟩, hw''⟩ := hw'
          subst hw''
          go_wp2_with fail
          go_meet
          exact ⟨rfl, _, _, rfl⟩
        · have K2 : Hid (∀ w, Calls Try.prog 28 #[WV x, WV t] w fun e w' => e = .returned (.int .i64 (0)) ∧ Mo w w') := Lib.hid (by
            have := cmp_any x t; rwa [show cmpI x t = 0 from cmpI_eq (by omega)] at this)
          replace hx := Lib.hid hx
          replace ht := Lib.hid ht
          by_cases ex : IsEnd x
          · have E1 := Lib.hid (ends_yes x ex)
            refine wp_region_mo (by kernel_rfl) (by kernel_rfl) ?_
            repeat (go_big_quiet_step (first | (with_reducible exact quiet_mo (K1.out _)) | (with_reducible exact quiet_mo (K2.out _)) | (with_reducible exact quiet_mo (E1.out _))))
            refine wpQuiet_nil ?_
            intro _ hw'
            obtain ⟨⟨J2, d2⟩, hw''⟩ := hw'
            subst hw''
            go_wp2_with fail
            go_meet
            exact ⟨rfl, _, _, rfl⟩
          have E1 := Lib.hid (ends_no x ex)
          by_cases et : IsEnd t
          · have E2 := Lib.hid (ends_yes t et)
            refine wp_region_mo (by kernel_rfl) (by kernel_rfl) ?_
            repeat (go_big_quiet_step (first | (with_reducible exact quiet_mo (K1.out _)) | (with_reducible exact quiet_mo (K2.out _)) | (with_reducible exact quiet_mo (E1.out _)) | (with_reducible exact quiet_mo (E2.out _))))
            refine wpQuiet_nil ?_
            intro _ hw'
            obtain ⟨⟨J2, d2⟩, hw''⟩ := hw'
            subst hw''
            go_wp2_with fail
            go_meet
            exact ⟨rfl, _, _, rfl⟩
          exfalso
          have := hx.out ex; have := ht.out et; omega
      · subst c
        have K1 : Hid (∀ w, Calls Try.prog 28 #[WV a, WV a] w fun e w' => e = .returned (.int .i64 (0)) ∧ Mo w w') := Lib.hid (by
          have := cmp_any a a; rwa [show cmpI a a = 0 from cmpI_eq (by omega)] at this)
        clear hm
        replace hx := Lib.hid hx
        replace ht := Lib.hid ht
        by_cases ex : IsEnd x
        · have E1 := Lib.hid (ends_yes x ex)
          refine wp_region_mo (by kernel_rfl) (by kernel_rfl) ?_
          repeat (go_big_quiet_step (first | (with_reducible exact quiet_mo (K1.out _)) | (with_reducible exact quiet_mo (E1.out _))))
          refine wpQuiet_nil ?_
          intro _ hw'
          obtain ⟨⟨J2, d2⟩, hw''⟩ := hw'
          subst hw''
          go_wp2_with fail
          go_meet
          exact ⟨rfl, _, _, rfl⟩
        have E1 := Lib.hid (ends_no x ex)
        by_cases et : IsEnd t
        · have E2 := Lib.hid (ends_yes t et)
          refine wp_region_mo (by kernel_rfl) (by kernel_rfl) ?_
          repeat (go_big_quiet_step (first | (with_reducible exact quiet_mo (K1.out _)) | (with_reducible exact quiet_mo (E1.out _)) | (with_reducible exact quiet_mo (E2.out _))))
          refine wpQuiet_nil ?_
          intro _ hw'
          obtain ⟨⟨J2, d2⟩, hw''⟩ := hw'
          subst hw''
          go_wp2_with fail
          go_meet
          exact ⟨rfl, _, _, rfl⟩
        have E2 := Lib.hid (ends_no t et)
        have hx1 := hx.out ex
        have ht1 := ht.out et
        have K2 : Hid (∀ w, Calls Try.prog 28 #[WV x, WV t] w fun e w' => e = .returned (.int .i64 (0)) ∧ Mo w w') := Lib.hid (by
          have := cmp_any x t; rwa [show cmpI x t = 0 from cmpI_eq (by omega)] at this)
        clear hx1 ht1
        refine wp_region_mo (by kernel_rfl) (by kernel_rfl) ?_
        repeat (go_big_quiet_step (first | (with_reducible exact quiet_mo (K1.out _)) | (with_reducible exact quiet_mo (K2.out _)) | (with_reducible exact quiet_mo (E1.out _)) | (with_reducible exact quiet_mo (E2.out _))))
        refine wpQuiet_nil ?_
        intro _ hw'
        obtain ⟨⟨J2, d2⟩, hw''⟩ := hw'
        subst hw''
        go_wp2_with fail
        go_meet
        exact ⟨rfl, _, _, rfl⟩
      · skip
        have K1 : Hid (∀ w, Calls Try.prog 28 #[WV a, WV b] w fun e w' => e = .returned (.int .i64 (1)) ∧ Mo w w') := Lib.hid (by
          have := cmp_any a b; rwa [show cmpI a b = 1 from cmpI_gt (by omega)] at this)
        clear hm
        replace hx := Lib.hid hx
        replace ht := Lib.hid ht
        by_cases ex : IsEnd x
        · have E1 := Lib.hid (ends_yes x ex)
          refine wp_region_mo (by kernel_rfl) (by kernel_rfl) ?_
          repeat (go_big_quiet_step (first | (with_reducible exact quiet_mo (K1.out _)) | (with_reducible exact quiet_mo (E1.out _))))
          refine wpQuiet_nil ?_
          intro _ hw'
          obtain ⟨⟨J2, d2⟩, hw''⟩ := hw'
          subst hw''
          go_wp2_with fail
          go_meet
          exact ⟨rfl, _, _, rfl⟩
        have E1 := Lib.hid (ends_no x ex)
        by_cases et : IsEnd t
        · have E2 := Lib.hid (ends_yes t et)
          refine wp_region_mo (by kernel_rfl) (by kernel_rfl) ?_
          repeat (go_big_quiet_step (first | (with_reducible exact quiet_mo (K1.out _)) | (with_reducible exact quiet_mo (E1.out _)) | (with_reducible exact quiet_mo (E2.out _))))
          refine wpQuiet_nil ?_
          intro _ hw'
          obtain ⟨⟨J2, d2⟩, hw''⟩ := hw'
          subst hw''
          go_wp2_with fail
          go_meet
          exact ⟨rfl, _, _, rfl⟩
        have E2 := Lib.hid (ends_no t et)
        have hx1 := hx.out ex
        have ht1 := ht.out et
        have K2 : Hid (∀ w, Calls Try.prog 28 #[WV x, WV t] w fun e w' => e = .returned (.int .i64 (1)) ∧ Mo w w') := Lib.hid (by
          have := cmp_any x t; rwa [show cmpI x t = 1 from cmpI_gt (by omega)] at this)
        clear hx1 ht1
        refine wp_region_mo (by kernel_rfl) (by kernel_rfl) ?_
        repeat (go_big_quiet_step (first | (with_reducible exact quiet_mo (K1.out _)) | (with_reducible exact quiet_mo (K2.out _)) | (with_reducible exact quiet_mo (E1.out _)) | (with_reducible exact quiet_mo (E2.out _))))
        refine wpQuiet_nil ?_
        intro _ hw'
        obtain ⟨⟨J2, d2⟩, hw''⟩ := hw'
        subst hw''
        go_wp2_with fail
        go_meet
        exact ⟨rfl, _, _, rfl⟩
  obtain ⟨rfl, J, d, rfl⟩ := hcut
  go_upto_region 14 with (fail)
  go_cut [14, 15, 16] (fun s14 s15 s16 wx => ∃ (p : Nat) (q r : Int) (ok : Bool), s14 = .pointer (some ⟨p, 0, none⟩) ∧ s15 = .int .u64 r ∧ s16 = .bool ok ∧ wx.cell? ⟨p, 0, none⟩ = some (.int .i64 (hiW q)) ∧ wx.cell? ⟨p, 1, none⟩ = some (.int .u64 (loW q)) ∧ Mo Waa wx ∧ Hid (n = 0 ∨ 0 < n ∧ q = a / n ∧ r = a % n ∧ ok = true))
  case first =>
    as_aux_lemma =>
      by_cases h0 : n = 0
      · subst h0
        go_wp2_with fail
        refine (div_none a _).mono ?_; rintro e w1 ⟨rfl, J3, d3, rfl⟩
        go_wp2_with fail
        go_meet
        exact ⟨_, 0, 0, false, rfl, rfl, rfl, by simp [go_sem], by simp [go_sem], Mor.out, Lib.hid (.inl (by simp))⟩
      · go_wp2_with fail
        refine (div_any a n ha (by omega) (by omega) _).mono ?_; rintro e w1 ⟨rfl, J3, d3, rfl⟩
        go_wp2_with fail
        go_meet
        exact ⟨_, a / n, a % n, true, rfl, rfl, rfl, by simp [go_sem], by simp [go_sem], Mor.out, Lib.hid (.inr ⟨by omega, rfl, rfl, rfl⟩)⟩
  obtain ⟨p14, q, rr, ok, rfl, rfl, rfl, c140, c141, hM, hq⟩ := hcut
  replace c40 : wc.cell? ⟨p4, 0, none⟩ = some (.int .i64 (hiW a)) := hM.cell.trans c40
  replace c41 : wc.cell? ⟨p4, 1, none⟩ = some (.int .u64 (loW a)) := hM.cell.trans c41
  replace c50 : wc.cell? ⟨p5, 0, none⟩ = some (.int .i64 (hiW b)) := hM.cell.trans c50
  replace c51 : wc.cell? ⟨p5, 1, none⟩ = some (.int .u64 (loW b)) := hM.cell.trans c51
  replace c60 : wc.cell? ⟨p6, 0, none⟩ = some (.int .i64 (hiW c)) := hM.cell.trans c60
  replace c61 : wc.cell? ⟨p6, 1, none⟩ = some (.int .u64 (loW c)) := hM.cell.trans c61
  replace c90 : wc.cell? ⟨p9, 0, none⟩ = some (.int .i64 (hiW s)) := hM.cell.trans c90
  replace c91 : wc.cell? ⟨p9, 1, none⟩ = some (.int .u64 (loW s)) := hM.cell.trans c91
  replace c100 : wc.cell? ⟨p10, 0, none⟩ = some (.int .i64 (hiW l)) := hM.cell.trans c100
  replace c101 : wc.cell? ⟨p10, 1, none⟩ = some (.int .u64 (loW l)) := hM.cell.trans c101
  replace c110 : wc.cell? ⟨p11, 0, none⟩ = some (.int .i64 (hiW r)) := hM.cell.trans c110
  replace c111 : wc.cell? ⟨p11, 1, none⟩ = some (.int .u64 (loW r)) := hM.cell.trans c111
  replace c120 : wc.cell? ⟨p12, 0, none⟩ = some (.int .i64 (hiW x)) := hM.cell.trans c120
  replace c121 : wc.cell? ⟨p12, 1, none⟩ = some (.int .u64 (loW x)) := hM.cell.trans c121
  replace c130 : wc.cell? ⟨p13, 0, none⟩ = some (.int .i64 (hiW t)) := hM.cell.trans c130
  replace c131 : wc.cell? ⟨p13, 1, none⟩ = some (.int .u64 (loW t)) := hM.cell.trans c131
  replace M0 := M0.trans hM
  clear hM L10 L11 L12 L13 L4 L5 L6 L9
  have L4 : LtW p4 wc := LtW.of_cell c40
  have L5 : LtW p5 wc := LtW.of_cell c50
  have L6 : LtW p6 wc := LtW.of_cell c60
  have L9 : LtW p9 wc := LtW.of_cell c90
  have L10 : LtW p10 wc := LtW.of_cell c100
  have L11 : LtW p11 wc := LtW.of_cell c110
  have L12 : LtW p12 wc := LtW.of_cell c120
  have L13 : LtW p13 wc := LtW.of_cell c130
  have L14 : LtW p14 wc := LtW.of_cell c140
  rename World => Waaa
  go_wp2_with fail
  go_cut [149] (fun s wx => s = .bool false ∧ ∃ J d, wx = more Waaa J d)
  case first =>
    as_aux_lemma =>
      rcases hq.out with h0 | ⟨h1, h2, h3, h4⟩
      · subst h0
        refine wp_region_mo (by kernel_rfl) (by kernel_rfl) ?_
        repeat (go_big_quiet_step (first | fail))
        refine wpQuiet_nil ?_
        intro _ hw'
        obtain ⟨⟨J2, d2⟩, hw''⟩ := hw'
        subst hw''
        go_wp2_with fail
        go_meet
        exact ⟨rfl, _, _, rfl⟩
      · have ha1 := ha.1
        have ha2 := ha.2
        have hr0 : 0 ≤ rr := by rw [h3]; exact Int.emod_nonneg _ (by omega)
        have hr1 : rr < n := by rw [h3]; exact Int.emod_lt_of_pos _ h1
        have he : q * n + rr = a := by rw [h2, h3]; have := Int.mul_ediv_add_emod a n; rw [Int.mul_comm] at this; exact this
        have iq : InW q := by
          have e1 := Int.ediv_mul_le a (show n ≠ 0 by omega)
          rw [← h2] at e1
          constructor
          · rcases Int.lt_or_le q (-170141183460469231731687303715884105728) with c | c
            · have := Int.mul_le_mul_of_nonneg_right (show q ≤ -170141183460469231731687303715884105729 by omega) (show 0 ≤ n by omega)
              have := Int.mul_le_mul_of_nonneg_left (show 1 ≤ n by omega) (show (0 : Int) ≤ 170141183460469231731687303715884105729 by omega)
              omega
            · exact c
          · rcases Int.lt_or_le q 170141183460469231731687303715884105728 with c | c
            · exact c
            · have := Int.mul_le_mul_of_nonneg_right c (show 0 ≤ n by omega)
              have := Int.mul_le_mul_of_nonneg_left (show 1 ≤ n by omega) (show (0 : Int) ≤ 170141183460469231731687303715884105728 by omega)
              omega
        obtain ⟨z, hz⟩ : ∃ z, z = cl (q * n) := ⟨_, rfl⟩
        obtain ⟨y, hy⟩ : ∃ y, y = cl (z + rr) := ⟨_, rfl⟩
        have S1 : Hid (∀ w, Calls Try.prog 14 #[WV q, .int .u32 n] w fun e w' => e = .returned (WV z) ∧ Mo w w') := Lib.hid (by rw [hz]; exact scale_any q n iq n1 n2)
        have S2 : Hid (∀ w, Calls Try.prog 23 #[.int .i64 rr] w fun e w' => e = .returned (WV rr) ∧ Mo w w') := Lib.hid (of_any rr (by omega) (by omega))
        have S3 : Hid (∀ w, Calls Try.prog 24 #[WV z, WV rr] w fun e w' => e = .returned (WV y) ∧ Mo w w') := Lib.hid (by
          rw [hy]; exact add_any z rr (by rw [hz]; exact inW_cl _) (inW_i64 (by omega) (by omega)))
        have hya : -9223372036854775808 < hiW a → y = a := by
          intro g
          unfold hiW at g
          have hin : InW (q * n) := by unfold InW; omega
          rw [hy, hz, cl_in hin, he, cl_in ha]
        subst h4
        have hr2 : (n ≤ rr) = False := by simp only [eq_iff_iff, iff_false]; omega
        replace he := Lib.hid he
        clear ha1 ha2 hz hy h2 h3
        by_cases g : y = a
        · subst g
          clear hya
          refine wp_region_mo (by kernel_rfl) (by kernel_rfl) ?_
          repeat (go_big_quiet_step (first | (with_reducible exact quiet_mo (S1.out _)) | (with_reducible exact quiet_mo (S2.out _)) | (with_reducible exact quiet_mo (S3.out _))))
          refine wpQuiet_nil ?_
          intro _ hw'
          obtain ⟨⟨J2, d2⟩, hw''⟩ := hw'
          subst hw''
          go_wp2_with fail
          go_meet
          exact ⟨rfl, _, _, rfl⟩
        · have hmin : hiW a = -9223372036854775808 := by
            have := ha.h1
            rcases Int.lt_or_le (-9223372036854775808) (hiW a) with c | c
            · exact absurd (hya c) g
            · omega
          clear hya
          by_cases g2 : hiW y = hiW a
          · have g3 : (loW y = loW a) = False := by simp only [eq_iff_iff, iff_false]; exact fun e => g (WV_inj g2 e)
            rw [hmin] at g2
            clear g
            refine wp_region_mo (by kernel_rfl) (by kernel_rfl) ?_
            repeat (go_big_quiet_step (first | (with_reducible exact quiet_mo (S1.out _)) | (with_reducible exact quiet_mo (S2.out _)) | (with_reducible exact quiet_mo (S3.out _))))
            refine wpQuiet_nil ?_
            intro _ hw'
            obtain ⟨⟨J2, d2⟩, hw''⟩ := hw'
            subst hw''
            go_wp2_with fail
            go_meet
            exact ⟨rfl, _, _, rfl⟩
          · have g3 : (hiW y = -9223372036854775808) = False := by simp only [eq_iff_iff, iff_false]; rw [← hmin]; exact g2
            clear g g2
            refine wp_region_mo (by kernel_rfl) (by kernel_rfl) ?_
            repeat (go_big_quiet_step (first | (with_reducible exact quiet_mo (S1.out _)) | (with_reducible exact quiet_mo (S2.out _)) | (with_reducible exact quiet_mo (S3.out _))))
            refine wpQuiet_nil ?_
            intro _ hw'
            obtain ⟨⟨J2, d2⟩, hw''⟩ := hw'
            subst hw''
            go_wp2_with fail
            go_meet
            exact ⟨rfl, _, _, rfl⟩
  obtain ⟨rfl, J, d, rfl⟩ := hcut
  clear hq
  go_upto_region 17 with (fail)
  go_cut [17] (fun s17 wx => ∃ p : Nat, s17 = .pointer (some ⟨p, 0, none⟩) ∧ wx.cell? ⟨p, 0, none⟩ = some (.int .i64 (hiW h)) ∧ wx.cell? ⟨p, 1, none⟩ = some (.int .u64 (loW h)) ∧ Mo Waaa wx)
  case first =>
    as_aux_lemma =>
      go_wp2_with fail
      refine (B1.out _).mono ?_; rintro e w1 ⟨rfl, J3, d3, rfl⟩
      go_wp2_with fail
      go_meet
      exact ⟨_, rfl, by simp [go_sem], by simp [go_sem], Mor.out⟩
  obtain ⟨p17, rfl, c170, c171, hM⟩ := hcut
  replace c40 : wc.cell? ⟨p4, 0, none⟩ = some (.int .i64 (hiW a)) := hM.cell.trans c40
  replace c41 : wc.cell? ⟨p4, 1, none⟩ = some (.int .u64 (loW a)) := hM.cell.trans c41
  replace c50 : wc.cell? ⟨p5, 0, none⟩ = some (.int .i64 (hiW b)) := hM.cell.trans c50
  replace c51 : wc.cell? ⟨p5, 1, none⟩ = some (.int .u64 (loW b)) := hM.cell.trans c51
  replace c60 : wc.cell? ⟨p6, 0, none⟩ = some (.int .i64 (hiW c)) := hM.cell.trans c60
  replace c61 : wc.cell? ⟨p6, 1, none⟩ = some (.int .u64 (loW c)) := hM.cell.trans c61
  replace c90 : wc.cell? ⟨p9, 0, none⟩ = some (.int .i64 (hiW s)) := hM.cell.trans c90
  replace c91 : wc.cell? ⟨p9, 1, none⟩ = some (.int .u64 (loW s)) := hM.cell.trans c91
  replace c100 : wc.cell? ⟨p10, 0, none⟩ = some (.int .i64 (hiW l)) := hM.cell.trans c100
  replace c101 : wc.cell? ⟨p10, 1, none⟩ = some (.int .u64 (loW l)) := hM.cell.trans c101
  replace c110 : wc.cell? ⟨p11, 0, none⟩ = some (.int .i64 (hiW r)) := hM.cell.trans c110
  replace c111 : wc.cell? ⟨p11, 1, none⟩ = some (.int .u64 (loW r)) := hM.cell.trans c111
  replace c120 : wc.cell? ⟨p12, 0, none⟩ = some (.int .i64 (hiW x)) := hM.cell.trans c120
  replace c121 : wc.cell? ⟨p12, 1, none⟩ = some (.int .u64 (loW x)) := hM.cell.trans c121
  replace c130 : wc.cell? ⟨p13, 0, none⟩ = some (.int .i64 (hiW t)) := hM.cell.trans c130
  replace c131 : wc.cell? ⟨p13, 1, none⟩ = some (.int .u64 (loW t)) := hM.cell.trans c131
  replace c140 : wc.cell? ⟨p14, 0, none⟩ = some (.int .i64 (hiW q)) := hM.cell.trans c140
  replace c141 : wc.cell? ⟨p14, 1, none⟩ = some (.int .u64 (loW q)) := hM.cell.trans c141
  replace M0 := M0.trans hM
  clear hM L10 L11 L12 L13 L14 L4 L5 L6 L9
  have L4 : LtW p4 wc := LtW.of_cell c40
  have L5 : LtW p5 wc := LtW.of_cell c50
  have L6 : LtW p6 wc := LtW.of_cell c60
  have L9 : LtW p9 wc := LtW.of_cell c90
  have L10 : LtW p10 wc := LtW.of_cell c100
  have L11 : LtW p11 wc := LtW.of_cell c110
  have L12 : LtW p12 wc := LtW.of_cell c120
  have L13 : LtW p13 wc := LtW.of_cell c130
  have L14 : LtW p14 wc := LtW.of_cell c140
  have L17 : LtW p17 wc := LtW.of_cell c170
  rename World => Waaaa
  go_wp2_with fail
  go_cut [18] (fun s18 wx => ∃ p : Nat, s18 = .pointer (some ⟨p, 0, none⟩) ∧ wx.cell? ⟨p, 0, none⟩ = some (.int .i64 (hiW v)) ∧ wx.cell? ⟨p, 1, none⟩ = some (.int .u64 (loW v)) ∧ Mo Waaaa wx)
  case first =>
    as_aux_lemma =>
      go_region_held3 (fun w' => w'.cell? ⟨p4, 0, none⟩ = some (.int .i64 (hiW a)) ∧ w'.cell? ⟨p4, 1, none⟩ = some (.int .u64 (loW a)) ∧ w'.cell? ⟨p5, 0, none⟩ = some (.int .i64 (hiW b)) ∧ w'.cell? ⟨p5, 1, none⟩ = some (.int .u64 (loW b)) ∧ w'.cell? ⟨p6, 0, none⟩ = some (.int .i64 (hiW c)) ∧ w'.cell? ⟨p6, 1, none⟩ = some (.int .u64 (loW c)) ∧ w'.cell? ⟨p9, 0, none⟩ = some (.int .i64 (hiW s)) ∧ w'.cell? ⟨p9, 1, none⟩ = some (.int .u64 (loW s)) ∧ w'.cell? ⟨p10, 0, none⟩ = some (.int .i64 (hiW l)) ∧ w'.cell? ⟨p10, 1, none⟩ = some (.int .u64 (loW l)) ∧ w'.cell? ⟨p11, 0, none⟩ = some (.int .i64 (hiW r)) ∧ w'.cell? ⟨p11, 1, none⟩ = some (.int .u64 (loW r)) ∧ w'.cell? ⟨p12, 0, none⟩ = some (.int .i64 (hiW x)) ∧ w'.cell? ⟨p12, 1, none⟩ = some (.int .u64 (loW x)) ∧ w'.cell? ⟨p13, 0, none⟩ = some (.int .i64 (hiW t)) ∧ w'.cell? ⟨p13, 1, none⟩ = some (.int .u64 (loW t)) ∧ w'.cell? ⟨p14, 0, none⟩ = some (.int .i64 (hiW q)) ∧ w'.cell? ⟨p14, 1, none⟩ = some (.int .u64 (loW q)) ∧ w'.cell? ⟨p17, 0, none⟩ = some (.int .i64 (hiW h)) ∧ w'.cell? ⟨p17, 1, none⟩ = some (.int .u64 (loW h))) (simp [go_sem, c40, c41, c50, c51, c60, c61, c90, c91, c100, c101, c110, c111, c120, c121, c130, c131, c140, c141, c170, c171])
        (first
        | ((with_reducible refine (A7.out _).mono ?_); rintro e w1 ⟨rfl, J3, d3, rfl⟩)
        | ((with_reducible refine (B2.out _).mono ?_); rintro e w1 ⟨rfl, J3, d3, rfl⟩))
      all_goals (go_wp2_with fail; go_meet; exact ⟨_, rfl, by simp [go_sem], by simp [go_sem], Mor.out⟩)
  obtain ⟨p18, rfl, c180, c181, hM⟩ := hcut
  replace c40 : wc.cell? ⟨p4, 0, none⟩ = some (.int .i64 (hiW a)) := hM.cell.trans c40
  replace c41 : wc.cell? ⟨p4, 1, none⟩ = some (.int .u64 (loW a)) := hM.cell.trans c41
  replace c50 : wc.cell? ⟨p5, 0, none⟩ = some (.int .i64 (hiW b)) := hM.cell.trans c50
  replace c51 : wc.cell? ⟨p5, 1, none⟩ = some (.int .u64 (loW b)) := hM.cell.trans c51
  replace c60 : wc.cell? ⟨p6, 0, none⟩ = some (.int .i64 (hiW c)) := hM.cell.trans c60
  replace c61 : wc.cell? ⟨p6, 1, none⟩ = some (.int .u64 (loW c)) := hM.cell.trans c61
  replace c90 : wc.cell? ⟨p9, 0, none⟩ = some (.int .i64 (hiW s)) := hM.cell.trans c90
  replace c91 : wc.cell? ⟨p9, 1, none⟩ = some (.int .u64 (loW s)) := hM.cell.trans c91
  replace c100 : wc.cell? ⟨p10, 0, none⟩ = some (.int .i64 (hiW l)) := hM.cell.trans c100
  replace c101 : wc.cell? ⟨p10, 1, none⟩ = some (.int .u64 (loW l)) := hM.cell.trans c101
  replace c110 : wc.cell? ⟨p11, 0, none⟩ = some (.int .i64 (hiW r)) := hM.cell.trans c110
  replace c111 : wc.cell? ⟨p11, 1, none⟩ = some (.int .u64 (loW r)) := hM.cell.trans c111
  replace c120 : wc.cell? ⟨p12, 0, none⟩ = some (.int .i64 (hiW x)) := hM.cell.trans c120
  replace c121 : wc.cell? ⟨p12, 1, none⟩ = some (.int .u64 (loW x)) := hM.cell.trans c121
  replace c130 : wc.cell? ⟨p13, 0, none⟩ = some (.int .i64 (hiW t)) := hM.cell.trans c130
  replace c131 : wc.cell? ⟨p13, 1, none⟩ = some (.int .u64 (loW t)) := hM.cell.trans c131
  replace c140 : wc.cell? ⟨p14, 0, none⟩ = some (.int .i64 (hiW q)) := hM.cell.trans c140
  replace c141 : wc.cell? ⟨p14, 1, none⟩ = some (.int .u64 (loW q)) := hM.cell.trans c141
  replace c170 : wc.cell? ⟨p17, 0, none⟩ = some (.int .i64 (hiW h)) := hM.cell.trans c170
  replace c171 : wc.cell? ⟨p17, 1, none⟩ = some (.int .u64 (loW h)) := hM.cell.trans c171
  replace M0 := M0.trans hM
  clear hM L10 L11 L12 L13 L14 L17 L4 L5 L6 L9
  have L4 : LtW p4 wc := LtW.of_cell c40
  have L5 : LtW p5 wc := LtW.of_cell c50
  have L6 : LtW p6 wc := LtW.of_cell c60
  have L9 : LtW p9 wc := LtW.of_cell c90
  have L10 : LtW p10 wc := LtW.of_cell c100
  have L11 : LtW p11 wc := LtW.of_cell c110
  have L12 : LtW p12 wc := LtW.of_cell c120
  have L13 : LtW p13 wc := LtW.of_cell c130
  have L14 : LtW p14 wc := LtW.of_cell c140
  have L17 : LtW p17 wc := LtW.of_cell c170
  have L18 : LtW p18 wc := LtW.of_cell c180
  rename World => Waaaaa
  go_wp2_with fail
  have z0 : ∀ w, Calls Try.prog 23 #[.int .i64 0] w fun e w' => e = .returned (WV 0) ∧ Mo w w' := of_any 0 (by omega) (by omega)
  have z1 : ∀ w, Calls Try.prog 23 #[.int .i64 1] w fun e w' => e = .returned (WV 1) ∧ Mo w w' := of_any 1 (by omega) (by omega)
  replace z0 := Lib.hid z0
  replace z1 := Lib.hid z1
  have k1 : hiW 1 = hiW 0 := by decide
  have k2 : (loW 1 = loW 0) = False := by decide
  rcases P7.out with hv | hv
  · subst hv
    refine wp_region_mo (by kernel_rfl) (by kernel_rfl) ?_
    repeat (go_big_quiet_step (first | (with_reducible exact quiet_mo (z0.out _)) | (with_reducible exact quiet_mo (z1.out _))))
    refine wpQuiet_nil ?_
    intro _ hw'
    obtain ⟨⟨J2, d2⟩, hw''⟩ := hw'
    subst hw''
    go_wp2_with fail
    go_ret
    exact ⟨rfl, M0.trans Mor.out⟩
  · subst hv
    refine wp_region_mo (by kernel_rfl) (by kernel_rfl) ?_
    repeat (go_big_quiet_step (first | (with_reducible exact quiet_mo (z0.out _)) | (with_reducible exact quiet_mo (z1.out _))))
    refine wpQuiet_nil ?_
    intro _ hw'
    obtain ⟨⟨J2, d2⟩, hw''⟩ := hw'
    subst hw''
    go_wp2_with fail
    go_ret
    exact ⟨rfl, M0.trans Mor.out⟩
end Go.Proofs.Ytaboiojabmbioaa
