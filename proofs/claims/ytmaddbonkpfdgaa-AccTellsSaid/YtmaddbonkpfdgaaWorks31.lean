/- horologelaw31.works returns true. -/
import Derived.Test.YtmaddbonkpfdgaaAcc2
namespace Go.Proofs.Ytmaddbonkpfdgaa
open Go.RowKit

set_option maxRecDepth 10000 in
set_option maxHeartbeats 2000000 in
theorem works_any (w : World) : Calls Try.prog 8 #[] w fun e w' => e = .returned (.bool true) ∧ Mo w w' := by
  go_enter Try.func8, Try.ntmps8
  go_wp2_with fail
  refine (of_some [1, 2, 4, 140737488355329] w.heap.size 0 4 _ (by decide) (by
    intro j hj
    have : j = 0 ∨ j = 1 ∨ j = 2 ∨ j = 3 := by simp at hj; omega
    rcases this with rfl | rfl | rfl | rfl <;> simp [go_sem]) (by decide)).mono ?_
  rintro e w1 ⟨p1, rfl, hp1, hB1, hM1⟩
  have M1 : Mo w w1 := (Mor.out : Mo w _).trans hM1
  clear hM1 hp1
  go_wp2_with fail
  refine (told_acc p1 true _ 4 _ hB1 (good_sum _) (by omega)).mono ?_
  rw [told_ex1]
  rintro e w2 ⟨rfl, J2, d2, rfl⟩
  go_wp2_with fail
  refine (of_some [-1, 0] (w1.heap.size + J2.size + 1) 0 2 _ (by decide) (by
    intro j hj
    have : j = 0 ∨ j = 1 := by simp at hj; omega
    rcases this with rfl | rfl <;> simp [go_sem]) (by decide)).mono ?_
  rintro e w3 ⟨p2, rfl, hp2, hB2, hM2⟩
  have M2 : Mo w w3 := (M1.trans Mor.out).trans hM2
  have k0 : w3.cell? ⟨w1.heap.size + J2.size, 0, none⟩ = some (.int .i64 3) := by obtain ⟨J, d, e⟩ := hM2; rw [e]; simp [go_sem]
  have k1 : w3.cell? ⟨w1.heap.size + J2.size, 1, none⟩ = some (.int .i64 1) := by obtain ⟨J, d, e⟩ := hM2; rw [e]; simp [go_sem]
  have k2 : w3.cell? ⟨w1.heap.size + J2.size, 2, none⟩ = some (.int .i64 1) := by obtain ⟨J, d, e⟩ := hM2; rw [e]; simp [go_sem]
  have k3 : w3.cell? ⟨w1.heap.size + J2.size, 3, none⟩ = some (.int .i64 4) := by obtain ⟨J, d, e⟩ := hM2; rw [e]; simp [go_sem]
  have k4 : w3.cell? ⟨w1.heap.size + J2.size, 4, none⟩ = some (.int .i64 2) := by obtain ⟨J, d, e⟩ := hM2; rw [e]; simp [go_sem]
  have k5 : w3.cell? ⟨w1.heap.size + J2.size, 5, none⟩ = some (.int .u64 1) := by obtain ⟨J, d, e⟩ := hM2; rw [e]; simp [go_sem]
  have L1 : LtW (w1.heap.size + J2.size) w3 := LtW.of_cell k0
  clear hM2 hp2
  go_wp2_with fail
  refine (told_acc p2 true _ 2 _ hB2 (good_sum _) (by omega)).mono ?_
  rw [told_ex2]
  rintro e w4 ⟨rfl, J4, d4, rfl⟩
  go_wp2_with fail
  refine (of_nothing _).mono ?_
  rintro e w5 ⟨p3, rfl, hp3, hB3, hM3⟩
  have M3 : Mo w w5 := (M2.trans Mor.out).trans hM3
  clear hM3 hp3
  go_wp2_with fail
  refine (told_acc p3 true _ 0 _ hB3 (good_sum _) (by omega)).mono ?_
  rw [told_ex3]
  rintro e w6 ⟨rfl, J6, d6, rfl⟩
  go_wp2_with fail
  go_ret
  exact ⟨rfl, M3.trans Mor.out⟩
end Go.Proofs.Ytmaddbonkpfdgaa
