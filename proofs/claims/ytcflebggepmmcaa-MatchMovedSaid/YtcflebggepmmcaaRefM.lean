/- horologeref30: between, half. -/
import Derived.Test.YtcflebggepmmcaaRefL
import Derived.Test.YtcflebggepmmcaaMatZ
namespace Go.Proofs.Ytcflebggepmmcaa
open Go.RowKit

attribute [local go_sem] blk_cell' blk_frozen'
set_option maxRecDepth 20000 in
set_option maxHeartbeats 2000000 in
theorem rhalf_any (s : Bool) (x : Int) (hs : Sg s x) (hx : absI x < 2 ^ 130) (w : World) :
    Calls Try.prog 41 #[NN s (absI x)] w fun e w' => e = .returned (NN s (absI (x / 2))) ∧ Mo w w' := by
  have O2 := Lib.hid (fun w => rof_pos 2 (by omega) (by omega) w)
  have FL := Lib.hid (fun w => rfloor_any s x 2 hs hx (by omega) (by omega) w)
  generalize absI (x / 2) = r at *
  generalize absI x = a at *
  clear hs hx
  go_enter Try.func41, Try.ntmps41
  go_upto_region 1 with (fail)
  refine wp_region_mo_tail 3 (by kernel_rfl) (by kernel_rfl) ?_
  simp only [List.take_succ_cons, List.take_zero, List.drop_succ_cons, List.drop_zero]
  repeat (go_big_quiet_step (first | (with_reducible exact quiet_mo (O2.out _)) | (with_reducible exact quiet_mo (FL.out _))))
  refine wpQuiet_nil ?_
  intro _ hw'
  obtain ⟨⟨J2, d2⟩, hw''⟩ := hw'
  subst hw''
  go_wp2_with fail
  exact ret_num (w.heap.size + 1) 103 (numC s (lim r)) Try.results41 rfl rfl ⟨rfl, Mor.out⟩
set_option maxRecDepth 20000 in
set_option maxHeartbeats 4000000 in
theorem between_any (a b win : Int) (ia : InW a) (ib : InW b) (w0 : 0 ≤ win) (w1 : win ≤ 9223372036854775807) (W : World) :
    Calls Try.prog 34 #[WV a, WV b, .int .i64 win] W fun e w' => e = .returned (.bool (insB win a b)) ∧ Mo W w' := by
  unfold insB
  have bb : absI b < 65536 ^ 19 := by have := ib.1; have := ib.2; unfold absI; split <;> omega
  have ba : absI (-a) < 65536 ^ 19 := by have := ia.1; have := ia.2; unfold absI; split <;> omega
  have F1 := Lib.hid (fun w => from_any b ib w)
  have F2 := Lib.hid (fun w => from_any a ia w)
  have N1 : Hid (∀ w, Calls Try.prog 39 #[NN (fromS a) (absI a)] w fun e w' => e = .returned (NN (!fromS a) (absI (-a))) ∧ Mo w w') := Lib.hid (fun w => by rw [absI_neg]; exact rneg_any (fromS a) _ w)
  have A1 := Lib.hid (fun w => radd_any (fromS b) (!fromS a) b (-a) (fromS_sg b) (fromS_sg a).neg bb ba w)
  have X1 := Lib.hid (fun w => rwide_any (addS (fromS b) (!fromS a) b (-a)) (b + -a) (addS_sg (fromS_sg b) (fromS_sg a).neg) (by have := ia.1; have := ia.2; have := ib.1; have := ib.2; unfold absI; split <;> omega) w)
  rw [← Int.sub_eq_add_neg] at A1 X1
  have ig := inW_cl (b - a)
  generalize cl (b - a) = g at *
  generalize absI (b - a) = xy at *
  generalize addS (fromS b) (!fromS a) b (-a) = sxy at *
  generalize absI (-a) = na at *
  generalize (!fromS a) = sn at *
  generalize fromS a = sa at *
  generalize fromS b = sb at *
  generalize absI a = aa at *
  generalize absI b = ab at *
  have F3 := Lib.hid (fun w => from_any g ig w)
  have bg : absI g < 65536 ^ 20 := by have := ig.1; have := ig.2; unfold absI; split <;> omega
  have O0 := Lib.hid (fun w => rof_pos 0 (by omega) (by omega) w)
  have OW := Lib.hid (fun w => rof_pos win w0 w1 w)
  have C1 : Hid (∀ w, Calls Try.prog 70 #[NN (fromS g) (absI g), NN false 0] w fun e w' => e = .returned (.int .i64 (cmpI g 0)) ∧ Mo w w') := Lib.hid (fun w => rcmp_sg (fromS g) false g 0 (fromS_sg g) (Sg.pos (by omega)) bg (by decide) w)
  have C2 : Hid (∀ w, Calls Try.prog 70 #[NN (fromS g) (absI g), NN false win] w fun e w' => e = .returned (.int .i64 (cmpI g win)) ∧ Mo w w') := Lib.hid (fun w => by
    have := rcmp_sg (fromS g) false g win (fromS_sg g) (Sg.pos w0) bg (by rw [absI_pos w0]; omega) w
    rwa [absI_pos w0] at this)
  clear ia ib bb ba ig bg
  generalize fromS g = sg at *
  generalize absI g = ag at *
  obtain ⟨o, ho⟩ : ∃ o, cmpI g 0 = o := ⟨_, rfl⟩
  obtain ⟨q, hq⟩ : ∃ q, cmpI g win = q := ⟨_, rfl⟩
  rw [ho] at C1
  rw [hq] at C2
  have HO := Lib.hid ho
  have HQ := Lib.hid hq
  clear ho hq
  obtain ⟨rb, hrb⟩ : ∃ r, (decide (0 ≤ g) && decide (g ≤ win)) = r := ⟨_, rfl⟩
  have HRB := Lib.hid hrb
  rw [hrb]
  clear hrb
  go_enter Try.func34, Try.ntmps34
  go_upto_region 1 with (fail)
  refine wp_name ?_
  intro w1 hw1
  have b1 : Blk w1 W.heap.size 32 #[.int .i64 (hiW a), .int .u64 (loW a)] := by rw [hw1]; infer_instance
  have b2 : Blk w1 (W.heap.size + 1) 32 #[.int .i64 (hiW b), .int .u64 (loW b)] := by rw [hw1]; infer_instance
  have M1 : Mo W w1 := by rw [hw1]; exact Mor.out
  clear hw1
  go_cut [7] (fun s7 wx => ∃ g7, s7 = .pointer (some ⟨g7, 0, none⟩) ∧ Blk wx g7 103 (numC sg (lim ag)) ∧ Mo w1 wx)
  case first =>
    go_region_held3 (fun w' => MoC w1 w') (first | exact ⟨Mor.out⟩ | exact ⟨mo_setRow Mor.out (Mo.size Mor.out) _⟩)
    (first
      | ((with_reducible refine (F1.out _).mono ?_)
         rintro e w9 ⟨rfl, M9⟩
         have iM9 : MoC _ w9 := ⟨M9⟩
         have iR9 : Mor w1 w9 := ⟨(Mor.out : Mo w1 _).trans M9⟩)
      | ((with_reducible refine (F2.out _).mono ?_)
         rintro e w9 ⟨rfl, M9⟩
         have iM9 : MoC _ w9 := ⟨M9⟩
         have iR9 : Mor w1 w9 := ⟨(Mor.out : Mo w1 _).trans M9⟩)
      | ((with_reducible refine (N1.out _).mono ?_)
         rintro e w9 ⟨rfl, M9⟩
         have iM9 : MoC _ w9 := ⟨M9⟩
         have iR9 : Mor w1 w9 := ⟨(Mor.out : Mo w1 _).trans M9⟩)
      | ((with_reducible refine (A1.out _).mono ?_)
         rintro e w9 ⟨rfl, M9⟩
         have iM9 : MoC _ w9 := ⟨M9⟩
         have iR9 : Mor w1 w9 := ⟨(Mor.out : Mo w1 _).trans M9⟩)
      | ((with_reducible refine (X1.out _).mono ?_)
         rintro e w9 ⟨rfl, M9⟩
         have iM9 : MoC _ w9 := ⟨M9⟩
         have iR9 : Mor w1 w9 := ⟨(Mor.out : Mo w1 _).trans M9⟩)
      | ((with_reducible refine (F3.out _).mono ?_)
         rintro e w9 ⟨rfl, M9⟩
         have iM9 : MoC _ w9 := ⟨M9⟩
         have iR9 : Mor w1 w9 := ⟨(Mor.out : Mo w1 _).trans M9⟩)
)
    all_goals (
      go_wp2_with fail
      go_meet
      refine ⟨_, rfl, ?_, ?_⟩
      · first
          | infer_instance
          | exact blk_setRow inferInstance
      · first
          | exact Mor.out
          | exact mo_setRow Mor.out (Mo.size Mor.out) _)
  obtain ⟨g7, rfl, q7, M2⟩ := hcut
  rename World => w2
  have N2 := M1.trans M2
  clear b1 b2 M1 M2
  by_cases c1 : 0 ≤ g
  · have d1 : decide (0 ≤ o) = true := by rw [← HO.out]; unfold cmpI; apply decide_eq_true; rw [if_neg (by omega)]; split <;> omega
    have d2 : decide (q ≤ 0) = decide (g ≤ win) := by
      rw [← HQ.out]; unfold cmpI
      by_cases k : g ≤ win
      · rw [decide_eq_true k]; apply decide_eq_true; (repeat' split) <;> omega
      · rw [decide_eq_false k]; apply decide_eq_false; (repeat' split) <;> omega
    have E1 : Hid (rb = decide (q ≤ 0)) := Lib.hid (by rw [← HRB.out, decide_eq_true c1, Bool.true_and, d2])
    clear c1 d2
    go_upto_region 2 with (fail)
    refine wp_region_mo (by kernel_rfl) (by kernel_rfl) ?_
    repeat (go_big_quiet_step (first | (with_reducible exact quiet_mo (O0.out _)) | (with_reducible exact quiet_mo (C1.out _)) | (with_reducible exact quiet_mo (OW.out _)) | (with_reducible exact quiet_mo (C2.out _))))
    refine wpQuiet_nil ?_
    intro _ hw'
    obtain ⟨⟨J9, d9⟩, hw''⟩ := hw'
    subst hw''
    go_wp2_with fail
    go_ret
    exact ⟨by rw [E1.out]; rfl, N2.trans Mor.out⟩
  · have d1 : decide (0 ≤ o) = false := by rw [← HO.out]; unfold cmpI; apply decide_eq_false; rw [if_pos (by omega)]; omega
    have E1 : Hid (rb = false) := Lib.hid (by rw [← HRB.out, decide_eq_false c1, Bool.false_and])
    clear c1
    go_upto_region 2 with (fail)
    refine wp_region_mo (by kernel_rfl) (by kernel_rfl) ?_
    repeat (go_big_quiet_step (first | (with_reducible exact quiet_mo (O0.out _)) | (with_reducible exact quiet_mo (C1.out _)) | (with_reducible exact quiet_mo (OW.out _)) | (with_reducible exact quiet_mo (C2.out _))))
    refine wpQuiet_nil ?_
    intro _ hw'
    obtain ⟨⟨J9, d9⟩, hw''⟩ := hw'
    subst hw''
    go_wp2_with fail
    go_ret
    exact ⟨by rw [E1.out]; rfl, N2.trans Mor.out⟩
end Go.Proofs.Ytcflebggepmmcaa
