/- horologelaw31.AccKnown returns true: the walk. -/
import Derived.Test.YtmaddbonkpfdgaaAccJ
namespace Go.Proofs.Ytmaddbonkpfdgaa
open Go.RowKit

theorem told_ex4 : TV (sumL [140737488355328, -140737488355328, -140737488355329]) = .agg #[.int .i64 2, .int .i64 1, .int .i64 (-140737488355328), .int .i64 140737488355328, .int .i64 0, .int .u64 140737488355328] := by
  have e : sumL [140737488355328, -140737488355328, -140737488355329] = ⟨2, 1, -140737488355328, 140737488355328, 0, 39614081257132168796771975168⟩ := by rfl
  have r : spreadS ⟨2, 1, -140737488355328, 140737488355328, 0, 39614081257132168796771975168⟩ = 140737488355328 := root_uniq (rootV_is (by decide)) ⟨by decide, by decide, by decide⟩
  unfold TV
  rw [e, r]
  rfl
theorem told_ex5 : TV (sumL [7]) = .agg #[.int .i64 1, .int .i64 0, .int .i64 7, .int .i64 7, .int .i64 7, .int .u64 0] := by
  have e : sumL [7] = ⟨1, 0, 7, 7, 7, 49⟩ := by rfl
  have r : spreadS ⟨1, 0, 7, 7, 7, 49⟩ = 0 := root_uniq (rootV_is (by decide)) ⟨by decide, by decide, by decide⟩
  unfold TV
  rw [e, r]
  rfl
theorem told_0 : TV st0 = .agg #[.int .i64 0, .int .i64 0, .int .i64 0, .int .i64 0, .int .i64 0, .int .u64 0] := told_ex3
theorem join_7 : joinS st0 (sumL [7]) = sumL [7] := by rfl
theorem join_00 : joinS st0 st0 = st0 := by rfl
theorem accC_0 (b : Bool) : #[Value.bool b, .int .i64 0, .int .i64 0, .int .i64 0, .int .i64 0, .int .i64 0, .int .u64 0, .int .i64 0, .int .u64 0] = accC b st0 := by rfl

set_option maxRecDepth 10000 in
set_option maxHeartbeats 4000000 in
theorem known31_any (w : World) : Calls Try.prog 6 #[] w fun e w' => e = .returned (.bool true) ∧ Mo w w' := by
  go_enter Try.func6, Try.ntmps6
  go_wp2_with fail
  refine (add_nil _ _).mono ?_; rintro e w1 ⟨rfl, J1, d1, rfl⟩
  go_wp2_with fail
  refine (add_unmade _ st0 _ _ (by rw [← accC_0]; infer_instance)).mono ?_; rintro e w1 ⟨rfl, J2, d2, rfl⟩
  go_wp2_with fail
  refine (of_some [140737488355328, -140737488355328, -140737488355329] (w.heap.size + J1.size + 1 + J2.size) 0 3 _ (by decide) (by
    intro j hj
    have : j = 0 ∨ j = 1 ∨ j = 2 := by simp at hj; omega
    rcases this with rfl | rfl | rfl <;> simp [go_sem]) (by decide)).mono ?_
  rintro e w1 ⟨p1, rfl, hp1, hB1, hM1⟩
  have M1 : Mo w w1 := (Mor.out : Mo w _).trans hM1
  have O1 : Blk w1 (w.heap.size + J1.size) 39 (accC false st0) := hM1.blk (by rw [← accC_0]; infer_instance)
  clear hM1 hp1
  generalize w.heap.size + J1.size = po at *
  go_wp2_with fail
  refine (of_some [7] w1.heap.size 0 1 _ (by decide) (by
    intro j hj
    have : j = 0 := by simp at hj; omega
    rcases this with rfl <;> simp [go_sem]) (by decide)).mono ?_
  rintro e w2 ⟨p2, rfl, hp2, hB2, hM2⟩
  have M2 : Mo w w2 := (M1.trans Mor.out).trans hM2
  have O2 : Blk w2 po 39 (accC false st0) := hM2.blk inferInstance
  have P2 : Blk w2 p1 39 (accC true (sumL [140737488355328, -140737488355328, -140737488355329])) := hM2.blk inferInstance
  clear hM2 hp2 O1 hB1 M1
  go_wp2_with fail
  refine (join_ret _ _ st0 (sumL [7]) 0 1 good0 (good_sum _) (by omega) (by omega) _ of_none (of_at hB2)).mono ?_
  rw [join_7]
  rintro e w3 ⟨p3, rfl, hp3, hB3, hM3⟩
  have M3 : Mo w w3 := M2.trans hM3
  have O3 : Blk w3 po 39 (accC false st0) := hM3.blk inferInstance
  have P3 : Blk w3 p1 39 (accC true (sumL [140737488355328, -140737488355328, -140737488355329])) := hM3.blk inferInstance
  clear hM3 hp3 O2 P2 M2 hB2
  go_wp2_with fail
  refine (told_acc p1 true _ 3 _ P3 (good_sum _) (by omega)).mono ?_
  rw [told_ex4]
  rintro e w4 ⟨rfl, J4, d4, rfl⟩
  go_wp2_with fail
  refine (told_nil _).mono ?_
  rw [told_0]
  rintro e w5 ⟨rfl, J5, d5, rfl⟩
  go_wp2_with fail
  refine (told_acc po false st0 0 _ (by infer_instance) good0 (by omega)).mono ?_
  rw [told_0]
  rintro e w6 ⟨rfl, J6, d6, rfl⟩
  clear O3 P3
  go_wp2_with fail
  refine (told_acc p3 true (sumL [7]) 1 _ (by infer_instance) (good_sum _) (by omega)).mono ?_
  rw [told_ex5]
  rintro e w7 ⟨rfl, J7, d7, rfl⟩
  clear hB3
  go_wp2_with fail
  refine (of_some [7] (w3.heap.size + J4.size + 1 + (J5.size + (J6.size + J7.size))) 0 1 _ (by decide) (by
    intro j hj
    have : j = 0 := by simp at hj; omega
    rcases this with rfl <;> simp [go_sem]) (by decide)).mono ?_
  rintro e w8 ⟨p8, rfl, hp8, hB8, hM8⟩
  have M8 : Mo w w8 := (M3.trans Mor.out).trans hM8
  clear hM8 hp8 M3
  go_wp2_with fail
  refine (told_acc p8 true (sumL [7]) 1 _ hB8 (good_sum _) (by omega)).mono ?_
  rw [told_ex5]
  rintro e w9 ⟨rfl, J9, d9, rfl⟩
  clear hB8
  go_wp2_with fail
  refine (of_nothing _).mono ?_
  rintro e w10 ⟨p10, rfl, hp10, hB10, hM10⟩
  have M10 : Mo w w10 := (M8.trans Mor.out).trans hM10
  clear hM10 hp10 M8
  go_wp2_with fail
  refine (same_yes _ _ st0 (sumL []) rfl _ of_none (of_at hB10)).mono ?_; rintro e w11 ⟨rfl, J11, d11, rfl⟩
  clear hB10
  go_wp2_with fail
  refine (same_yes _ _ st0 st0 rfl _ of_none of_none).mono ?_; rintro e w11 ⟨rfl, J12, d12, rfl⟩
  go_wp2_with fail
  refine (of_some [0] (w10.heap.size + (J11.size + J12.size)) 0 1 _ (by decide) (by
    intro j hj
    have : j = 0 := by simp at hj; omega
    rcases this with rfl <;> simp [go_sem]) (by decide)).mono ?_
  rintro e w13 ⟨p13, rfl, hp13, hB13, hM13⟩
  have M13 : Mo w w13 := (M10.trans Mor.out).trans hM13
  clear hM13 hp13 M10
  go_wp2_with fail
  refine (same_no _ _ st0 (sumL [0]) (by decide) _ of_none (of_at hB13)).mono ?_; rintro e w14 ⟨rfl, J14, d14, rfl⟩
  clear hB13
  go_wp2_with fail
  refine (join_ret _ _ st0 st0 0 0 good0 good0 (by omega) (by omega) _ of_none of_none).mono ?_
  rw [join_00]
  rintro e w15 ⟨p15, rfl, hp15, hB15, hM15⟩
  have M15 : Mo w w15 := (M13.trans Mor.out).trans hM15
  clear hM15 hp15 M13
  go_wp2_with fail
  refine (told_acc p15 true st0 0 _ hB15 good0 (by omega)).mono ?_
  rw [told_0]
  rintro e w16 ⟨rfl, J16, d16, rfl⟩
  clear hB15
  go_wp2_with fail
  refine (works_any _).mono ?_; rintro e w17 ⟨rfl, J17, d17, rfl⟩
  go_wp2_with fail
  go_ret
  exact ⟨rfl, M15.trans Mor.out⟩
end Go.Proofs.Ytmaddbonkpfdgaa
