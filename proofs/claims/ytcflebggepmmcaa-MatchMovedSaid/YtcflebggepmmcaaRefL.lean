/- horologeref02.less: a difference that saturates; Offset, Delay, by the document. -/
import Derived.Test.YtcflebggepmmcaaRefZ
import Derived.Test.YtcflebggepmmcaaWideS
import Derived.Test.YtcflebggepmmcaaPendY
namespace Go.Proofs.Ytcflebggepmmcaa
open Go.RowKit

set_option maxRecDepth 20000 in
set_option maxHeartbeats 2000000 in
theorem less_any (a b : Int) (ha : InW a) (hb : InW b) (w : World) :
    Calls Try.prog 74 #[WV a, WV b] w fun e w' => e = .returned (WV (cl (a - b))) ∧ Mo w w' := by
  obtain ⟨d, hd⟩ : ∃ x, cl (a - b) = x := ⟨_, rfl⟩
  obtain ⟨fa, hfa⟩ : ∃ x, fromS a = x := ⟨_, rfl⟩
  obtain ⟨fb, hfb⟩ : ∃ x, fromS b = x := ⟨_, rfl⟩
  obtain ⟨nb, hnb⟩ : ∃ x, (!fb) = x := ⟨_, rfl⟩
  obtain ⟨xa, hxa⟩ : ∃ x, absI a = x := ⟨_, rfl⟩
  obtain ⟨xb, hxb⟩ : ∃ x, absI b = x := ⟨_, rfl⟩
  obtain ⟨fd, hfd⟩ : ∃ x, addS fa nb a (-b) = x := ⟨_, rfl⟩
  obtain ⟨xd, hxd⟩ : ∃ x, absI (a - b) = x := ⟨_, rfl⟩
  have Ga : Sg fa a := by rw [← hfa]; exact fromS_sg a
  have Gb : Sg fb b := by rw [← hfb]; exact fromS_sg b
  have Gn : Sg nb (-b) := by rw [← hnb]; exact Gb.neg
  have a2 : xa < 65536 ^ 19 := by rw [← hxa]; unfold absI; have := ha.1; have := ha.2; split <;> omega
  have b2 : xb < 65536 ^ 19 := by rw [← hxb]; unfold absI; have := hb.1; have := hb.2; split <;> omega
  have F1 : Hid (∀ w, Calls Try.prog 69 #[WV a] w fun e w' => e = .returned (NN fa xa) ∧ Mo w w') := Lib.hid (by rw [← hfa, ← hxa]; exact from_any a ha)
  have F2 : Hid (∀ w, Calls Try.prog 69 #[WV b] w fun e w' => e = .returned (NN fb xb) ∧ Mo w w') := Lib.hid (by rw [← hfb, ← hxb]; exact from_any b hb)
  have N1 : Hid (∀ w, Calls Try.prog 39 #[NN fb xb] w fun e w' => e = .returned (NN nb xb) ∧ Mo w w') := Lib.hid (by rw [← hnb]; exact rneg_any fb _)
  have A2 : Hid (∀ w, Calls Try.prog 40 #[NN fa xa, NN nb xb] w fun e w' => e = .returned (NN fd xd) ∧ Mo w w') := Lib.hid (fun w => by
    have := radd_any fa nb a (-b) Ga Gn (by rw [hxa]; exact a2) (by rw [absI_neg, hxb]; exact b2) w
    rwa [hfd, ← Int.sub_eq_add_neg, hxd, hxa, absI_neg, hxb] at this)
  have X3 : Hid (∀ w, Calls Try.prog 43 #[NN fd xd] w fun e w' => e = .returned (WV d) ∧ Mo w w') := Lib.hid (fun w => by
    have := rwide_any fd (a - b) (by rw [← hfd, Int.sub_eq_add_neg]; exact addS_sg Ga Gn) (by have := ha.1; have := ha.2; have := hb.1; have := hb.2; unfold absI; split <;> omega) w
    rwa [hxd, hd] at this)
  rw [hd]
  clear hd hfa hfb hnb hxa hxb hfd hxd Ga Gb Gn a2 b2 ha hb
  go_enter Try.func74, Try.ntmps74
  go_upto_region 1 with (fail)
  refine wp_region_mo_tail 7 (by kernel_rfl) (by kernel_rfl) ?_
  simp only [List.take_succ_cons, List.take_zero, List.drop_succ_cons, List.drop_zero]
  repeat (go_big_quiet_step (first | (with_reducible exact quiet_mo (F1.out _)) | (with_reducible exact quiet_mo (F2.out _)) | (with_reducible exact quiet_mo (N1.out _)) | (with_reducible exact quiet_mo (A2.out _)) | (with_reducible exact quiet_mo (X3.out _))))
  refine wpQuiet_nil ?_
  intro _ hw'
  obtain ⟨⟨J2, d2⟩, hw''⟩ := hw'
  subst hw''
  go_wp2_with fail
  exact bodyPost_ret (v := WV d) (by simp [results, Try.results74, go_sem]) rfl ⟨rfl, Mor.out⟩
set_option maxRecDepth 20000 in
theorem sg_half {sg : Bool} {s : Int} (h : Sg sg s) : Sg sg (s / 2) := ⟨fun c => h.1 (by omega), fun c => h.2 (by omega)⟩
set_option maxRecDepth 20000 in
set_option maxHeartbeats 2000000 in
theorem rdelay_any (t1 t2 t3 t4 : Int) (i1 : InW t1) (i2 : InW t2) (i3 : InW t3) (i4 : InW t4) (w : World) :
    Calls Try.prog 37 #[WV t1, WV t2, WV t3, WV t4] w fun e w' => e = .returned (.int .i64 (delI t1 t2 t3 t4)) ∧ Mo w w' := by
  unfold delI
  have S1 := Lib.hid (fun w => less_any t4 t1 i4 i1 w)
  have S2 := Lib.hid (fun w => less_any t3 t2 i3 i2 w)
  have S3 := Lib.hid (fun w => less_any (cl (t4 - t1)) (cl (t3 - t2)) (inW_cl _) (inW_cl _) w)
  have S5 := Lib.hid (fun w => rclip_any (cl (cl (t4 - t1) - cl (t3 - t2))) (inW_cl _) w)
  generalize clip (cl (cl (t4 - t1) - cl (t3 - t2))) = r at *
  generalize cl (cl (t4 - t1) - cl (t3 - t2)) = r4 at *
  generalize cl (t4 - t1) = r3 at *
  generalize cl (t3 - t2) = r2 at *
  clear i1 i2 i3 i4
  go_enter Try.func37, Try.ntmps37
  go_upto_region 1 with (fail)
  refine wp_region_mo (by kernel_rfl) (by kernel_rfl) ?_
  repeat (go_big_quiet_step (first | (with_reducible exact quiet_mo (S1.out _)) | (with_reducible exact quiet_mo (S2.out _)) | (with_reducible exact quiet_mo (S3.out _)) | (with_reducible exact quiet_mo (S5.out _))))
  refine wpQuiet_nil ?_
  intro _ hw'
  obtain ⟨⟨J9, d9⟩, hw''⟩ := hw'
  subst hw''
  go_wp2_with fail
  go_ret
  exact ⟨rfl, Mor.out⟩
set_option maxRecDepth 20000 in
instance (priority := low) mor_mocL (a b : World) [h : MoC a b] : Mor a b := ⟨h.out⟩
set_option maxRecDepth 20000 in
theorem blk_set2L {w : World} {g : Nat} {t : TypeId} {x0 x1 : Value} (h : Blk w g t #[x0, x1]) (a b : Value) : Blk ((w.setCell ⟨g, 0, none⟩ a).setCell ⟨g, 1, none⟩ b) g t #[a, b] := blk_setCell (blk_setCell h 0 a) 1 b
attribute [local go_sem] blk_cell' blk_frozen'
set_option maxRecDepth 20000 in
set_option maxHeartbeats 4000000 in
theorem roffset_any (t1 t2 t3 t4 : Int) (i1 : InW t1) (i2 : InW t2) (i3 : InW t3) (i4 : InW t4) (W : World) :
    Calls Try.prog 36 #[WV t1, WV t2, WV t3, WV t4] W fun e w' => e = .returned (.int .i64 (offI t1 t2 t3 t4)) ∧ Mo W w' := by
  unfold offI
  have L1 := Lib.hid (fun w => less_any t2 t1 i2 i1 w)
  have L2 := Lib.hid (fun w => less_any t3 t4 i3 i4 w)
  have ix := inW_cl (t2 - t1)
  have iy := inW_cl (t3 - t4)
  clear i1 i2 i3 i4
  generalize cl (t2 - t1) = x at *
  generalize cl (t3 - t4) = y at *
  have bx : absI x < 65536 ^ 19 := by have := ix.1; have := ix.2; unfold absI; split <;> omega
  have by' : absI y < 65536 ^ 19 := by have := iy.1; have := iy.2; unfold absI; split <;> omega
  have F1 := Lib.hid (fun w => from_any x ix w)
  have F2 := Lib.hid (fun w => from_any y iy w)
  have A1 := Lib.hid (fun w => radd_any (fromS x) (fromS y) x y (fromS_sg x) (fromS_sg y) bx by' w)
  have X1 := Lib.hid (fun w => rwide_any (addS (fromS x) (fromS y) x y) (x + y) (addS_sg (fromS_sg x) (fromS_sg y)) (by have := ix.1; have := ix.2; have := iy.1; have := iy.2; unfold absI; split <;> omega) w)
  have iz := inW_cl (x + y)
  generalize cl (x + y) = z at *
  generalize absI (x + y) = xy at *
  generalize addS (fromS x) (fromS y) x y = sxy at *
  generalize fromS x = sx at *
  generalize fromS y = sy at *
  generalize absI x = ax at *
  generalize absI y = ay at *
  have F3 := Lib.hid (fun w => from_any z iz w)
  have O2 := Lib.hid (fun w => rof_pos 2 (by omega) (by omega) w)
  have FL := Lib.hid (fun w => rfloor_any (fromS z) z 2 (fromS_sg z) (by have := iz.1; have := iz.2; unfold absI; split <;> omega) (by omega) (by omega) w)
  have ih := inW_half iz
  have X2 := Lib.hid (fun w => rwide_any (fromS z) (z / 2) (sg_half (fromS_sg z)) (by have := ih.1; have := ih.2; unfold absI; split <;> omega) w)
  have C1 := Lib.hid (fun w => rclip_any (z / 2) ih w)
  rw [cl_in ih] at X2
  generalize clip (z / 2) = r at *
  generalize absI (z / 2) = ah at *
  generalize z / 2 = zh at *
  generalize fromS z = sz at *
  generalize absI z = az at *
  clear ix iy iz ih bx by'
  go_enter Try.func36, Try.ntmps36
  go_upto_region 1 with (fail)
  refine wp_name ?_
  intro w1 hw1
  have b1 : Blk w1 W.heap.size 32 #[.int .i64 (hiW t1), .int .u64 (loW t1)] := by rw [hw1]; infer_instance
  have b2 : Blk w1 (W.heap.size + 1) 32 #[.int .i64 (hiW t2), .int .u64 (loW t2)] := by rw [hw1]; infer_instance
  have b3 : Blk w1 (W.heap.size + 1 + 1) 32 #[.int .i64 (hiW t3), .int .u64 (loW t3)] := by rw [hw1]; infer_instance
  have b4 : Blk w1 (W.heap.size + 1 + 1 + 1) 32 #[.int .i64 (hiW t4), .int .u64 (loW t4)] := by rw [hw1]; infer_instance
  have M1 : Mo W w1 := by rw [hw1]; exact Mor.out
  clear hw1
  go_cut [9] (fun s9 wx => ∃ g9, s9 = .pointer (some ⟨g9, 0, none⟩) ∧ Blk wx g9 32 #[.int .i64 (hiW z), .int .u64 (loW z)] ∧ Mo w1 wx)
  case first =>
    go_region_held3 (fun w' => MoC w1 w') (first | exact ⟨Mor.out⟩ | exact ⟨mo_setCell (mo_setCell Mor.out (Mo.size Mor.out) _ _) (Mo.size Mor.out) _ _⟩)
    (first
      | ((with_reducible refine (L1.out _).mono ?_)
         rintro e w9 ⟨rfl, M9⟩
         have iM9 : MoC _ w9 := ⟨M9⟩
         have iR9 : Mor w1 w9 := ⟨(Mor.out : Mo w1 _).trans M9⟩)
      | ((with_reducible refine (F1.out _).mono ?_)
         rintro e w9 ⟨rfl, M9⟩
         have iM9 : MoC _ w9 := ⟨M9⟩
         have iR9 : Mor w1 w9 := ⟨(Mor.out : Mo w1 _).trans M9⟩)
      | ((with_reducible refine (L2.out _).mono ?_)
         rintro e w9 ⟨rfl, M9⟩
         have iM9 : MoC _ w9 := ⟨M9⟩
         have iR9 : Mor w1 w9 := ⟨(Mor.out : Mo w1 _).trans M9⟩)
      | ((with_reducible refine (F2.out _).mono ?_)
         rintro e w9 ⟨rfl, M9⟩
         have iM9 : MoC _ w9 := ⟨M9⟩
         have iR9 : Mor w1 w9 := ⟨(Mor.out : Mo w1 _).trans M9⟩)
      | ((with_reducible refine (A1.out _).mono ?_)
         rintro e w9 ⟨rfl, M9⟩
         have iM9 : MoC _ w9 := ⟨M9⟩
         have iR9 : Mor w1 w9 := ⟨(Mor.out : Mo w1 _).trans M9⟩)
      | ((with_reducible refine (X1.out _).mono ?_)
         rintro e w9 ⟨rfl, M9⟩
         have iM9 : MoC _ w9 := ⟨M9⟩
         have iR9 : Mor w1 w9 := ⟨(Mor.out : Mo w1 _).trans M9⟩)
)
    all_goals (
      go_wp2_with fail
      go_meet
      refine ⟨_, rfl, ?_, ?_⟩
      · first
          | infer_instance
          | exact blk_set2L inferInstance _ _
      · first
          | exact Mor.out
          | exact mo_setCell (mo_setCell Mor.out (Mo.size Mor.out) _ _) (Mo.size Mor.out) _ _)
  obtain ⟨g9, rfl, q9, M2⟩ := hcut
  rename World => w2
  have N2 := M1.trans M2
  clear b1 b2 b3 b4 M1 M2
  go_wp2_with fail
  refine (F3.out _).mono ?_
  rintro e w3 ⟨rfl, J3, d3, rfl⟩
  go_wp2_with fail
  refine (O2.out _).mono ?_
  rintro e w3 ⟨rfl, J3, d3, rfl⟩
  go_wp2_with fail
  refine (FL.out _).mono ?_
  rintro e w3 ⟨rfl, J3, d3, rfl⟩
  go_wp2_with fail
  refine (X2.out _).mono ?_
  rintro e w3 ⟨rfl, J3, d3, rfl⟩
  go_wp2_with fail
  refine (C1.out _).mono ?_
  rintro e w3 ⟨rfl, J3, d3, rfl⟩
  go_wp2_with fail
  go_ret
  exact ⟨rfl, N2.trans Mor.out⟩
end Go.Proofs.Ytcflebggepmmcaa
