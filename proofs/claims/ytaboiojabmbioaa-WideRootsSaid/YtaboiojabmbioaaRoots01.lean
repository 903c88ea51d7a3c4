/- horologelaw01.WideRoots returns true. -/
import Derived.Test.YtaboiojabmbioaaKnown01
import Derived.Test.YtaboiojabmbioaaRefI
namespace Go.Proofs.Ytaboiojabmbioaa
open Go.RowKit

theorem root_ex (n : Nat) : ∃ r : Int, IsRoot r n := by
  induction n with
  | zero => exact ⟨0, by omega, by decide, by decide⟩
  | succ n ih =>
    obtain ⟨r, h0, h1, h2⟩ := ih
    by_cases c : (r + 1) * (r + 1) ≤ ((n + 1 : Nat) : Int)
    · refine ⟨r + 1, by omega, c, ?_⟩
      have : (r + 1 + 1) * (r + 1 + 1) = (r + 1) * (r + 1) + (2 * r + 3) := by
        simp only [Int.mul_add, Int.add_mul]; omega
      omega
    · exact ⟨r, h0, by omega, by omega⟩
noncomputable def rootV (a : Int) : Int := if 0 ≤ a then Classical.choose (root_ex a.toNat) else 0
theorem rootV_is {a : Int} (h : 0 ≤ a) : IsRoot (rootV a) a := by
  have := Classical.choose_spec (root_ex a.toNat)
  have e : rootV a = Classical.choose (root_ex a.toNat) := by unfold rootV; rw [if_pos h]
  rw [← e] at this
  rwa [show ((a.toNat : Nat) : Int) = a by omega] at this
theorem rootV_neg {a : Int} (h : a < 0) : rootV a = 0 := by unfold rootV; rw [if_neg (by omega)]
theorem rootV_nonneg (a : Int) : 0 ≤ rootV a := by
  by_cases h : 0 ≤ a
  · exact (rootV_is h).1
  · rw [rootV_neg (by omega)]; omega
theorem root_any (a : Int) (ha : InW a) (w : World) : Calls Try.prog 29 #[WV a] w fun e w' => e = .returned (.int .u64 (rootV a)) ∧ Mo w w' := by
  by_cases h : 0 ≤ a
  · refine (root_pos a ha h w).mono ?_
    rintro e w' ⟨r, he, hr, hm⟩
    rw [root_uniq (rootV_is h) hr]
    exact ⟨he, hm⟩
  · rw [rootV_neg (by omega)]
    exact root_neg a (by unfold hiW; omega) w
theorem rootV_lt {a : Int} (ha : InW a) : rootV a < 18446744073709551616 := by
  by_cases h : 0 ≤ a
  · have := rootV_is h
    have h2 := ha.2
    exact sq_lt this.1 (by omega) (by have := this.2.1; omega)
  · rw [rootV_neg (by omega)]; omega
theorem rootV_mono {a b : Int} (h : a ≤ b) : rootV a ≤ rootV b := by
  by_cases c : 0 ≤ a
  · have p := rootV_is c
    have q := rootV_is (show 0 ≤ b by omega)
    have := sq_lt p.1 (show 0 ≤ rootV b + 1 by have := q.1; omega) (by have := p.2.1; have := q.2.2; omega)
    omega
  · rw [rootV_neg (by omega)]; exact rootV_nonneg b
theorem rootV_sq (n : Int) : rootV (n * n) = absI n := by
  have e : n * n = absI n * absI n := by
    unfold absI
    split
    · rw [Int.neg_mul_neg]
    · rfl
  have z := absI_nonneg n
  rw [e]
  refine root_uniq (rootV_is (Int.mul_nonneg z z)) ⟨z, Int.le_refl _, ?_⟩
  have : (absI n + 1) * (absI n + 1) = absI n * absI n + (2 * absI n + 1) := by
    simp only [Int.mul_add, Int.add_mul]; omega
  omega
/-- a square of two numbers in the reference -/
theorem rsq (r : Int) (h0 : 0 ≤ r) (h1 : r ≤ 18446744073709551616) (w : World) :
    Calls Try.prog 12 #[NN false r, NN false r] w fun e w' => e = .returned (NN false (r * r)) ∧ Mo w w' := by
  have p : r * r ≤ 18446744073709551616 * 18446744073709551616 := Int.mul_le_mul h1 h1 h0 (by omega)
  have := rmul_sg false false r r (by rw [absI_pos h0]; omega) (by rw [absI_pos h0]; omega) w
  rw [absI_pos h0, absI_pos (Int.mul_nonneg h0 h0)] at this
  exact this
instance blk_lt (w : World) (g : Nat) (t : TypeId) (cs : Array Value) [h : Blk w g t cs] : LtW g w := ⟨h.lt⟩
theorem Mo.blk {a b : World} (h : Mo a b) {g : Nat} {t : TypeId} {cs : Array Value} (k : Blk a g t cs) : Blk b g t cs := by
  obtain ⟨J, d, rfl⟩ := h
  infer_instance
theorem run_field_lo (h l : Int) (w : World) : (Instr.field 24 (.agg #[.int .i64 h, .int .u64 l]) 1).run Try.prog w = .ok (.int .u64 l) w := by kernel_rfl
attribute [go_sem] run_field_lo

set_option maxRecDepth 100000 in
set_option maxHeartbeats 4000000 in
theorem roots_any (a b n : Int) (ha : InW a) (hb : InW b) (n1 : -9223372036854775808 ≤ n) (n2 : n ≤ 9223372036854775807) (w : World) :
    Calls Try.prog 6 #[WV a, WV b, .int .i64 n] w fun e w' => e = .returned (.bool true) ∧ Mo w w' := by
  obtain ⟨r, hr⟩ : ∃ r, rootV a = r := ⟨_, rfl⟩
  obtain ⟨q, hq⟩ : ∃ q, rootV b = q := ⟨_, rfl⟩
  obtain ⟨s, hs⟩ : ∃ s, s = n * n := ⟨_, rfl⟩
  obtain ⟨m, hm⟩ : ∃ m, m = absI n := ⟨_, rfl⟩
  have r0 : 0 ≤ r := by rw [← hr]; exact rootV_nonneg a
  have r1 : r < 18446744073709551616 := by rw [← hr]; exact rootV_lt ha
  have m0 : 0 ≤ m := by rw [hm]; exact absI_nonneg n
  have m1 : m < 18446744073709551616 := by rw [hm]; unfold absI; split <;> omega
  have R1 : Hid (∀ w, Calls Try.prog 29 #[WV a] w fun e w' => e = .returned (.int .u64 r) ∧ Mo w w') := Lib.hid (by rw [← hr]; exact root_any a ha)
  have R2 : Hid (∀ w, Calls Try.prog 29 #[WV b] w fun e w' => e = .returned (.int .u64 q) ∧ Mo w w') := Lib.hid (by rw [← hq]; exact root_any b hb)
  have N1 : Hid (∀ w, Calls Try.prog 15 #[.int .u64 r] w fun e w' => e = .returned (NN false r) ∧ Mo w w') := Lib.hid (num64_any r r0 r1)
  have O1 : Hid (∀ w, Calls Try.prog 13 #[.int .i64 1] w fun e w' => e = .returned (NN false 1) ∧ Mo w w') := Lib.hid (rof_any 1 (by omega) (by omega))
  have A1 : Hid (∀ w, Calls Try.prog 21 #[NN false r, NN false 1] w fun e w' => e = .returned (NN false (r + 1)) ∧ Mo w w') := Lib.hid (fun w => by
    have := radd_any false false r 1 (Sg.pos r0) (Sg.pos (by omega)) (by rw [absI_pos r0]; omega) (by decide) w
    rwa [absI_pos r0, absI_pos (by omega), absI_pos (by omega)] at this)
  have F1 : Hid (∀ w, Calls Try.prog 9 #[WV a] w fun e w' => e = .returned (NN (fromS a) (absI a)) ∧ Mo w w') := Lib.hid (from_any a ha)
  have M1 : Hid (∀ w, Calls Try.prog 12 #[NN false r, NN false r] w fun e w' => e = .returned (NN false (r * r)) ∧ Mo w w') := Lib.hid (rsq r r0 (by omega))
  have M2 : Hid (∀ w, Calls Try.prog 12 #[NN false (r + 1), NN false (r + 1)] w fun e w' => e = .returned (NN false ((r + 1) * (r + 1))) ∧ Mo w w') := Lib.hid (rsq (r + 1) (by omega) (by omega))
  have a2 : absI a < 65536 ^ 20 := by unfold absI; have := ha.1; have := ha.2; split <;> omega
  have S0 := Int.mul_nonneg r0 r0
  have S1 : r * r < 65536 ^ 20 := by
    have : r * r ≤ 18446744073709551616 * 18446744073709551616 := Int.mul_le_mul (by omega) (by omega) r0 (by omega)
    omega
  have T0 := Int.mul_nonneg (show 0 ≤ r + 1 by omega) (show 0 ≤ r + 1 by omega)
  have T1 : (r + 1) * (r + 1) < 65536 ^ 20 := by
    have : (r + 1) * (r + 1) ≤ 18446744073709551616 * 18446744073709551616 := Int.mul_le_mul (by omega) (by omega) (by omega) (by omega)
    omega
  have C1 : Hid (∀ w, Calls Try.prog 20 #[NN false (r * r), NN (fromS a) (absI a)] w fun e w' => e = .returned (.int .i64 (cmpI (r * r) a)) ∧ Mo w w') := Lib.hid (fun w => by
    have := rcmp_sg false (fromS a) (r * r) a (Sg.pos S0) (fromS_sg a) (by rw [absI_pos S0]; exact S1) a2 w
    rwa [absI_pos S0] at this)
  have C2 : Hid (∀ w, Calls Try.prog 20 #[NN false ((r + 1) * (r + 1)), NN (fromS a) (absI a)] w fun e w' => e = .returned (.int .i64 (cmpI ((r + 1) * (r + 1)) a)) ∧ Mo w w') := Lib.hid (fun w => by
    have := rcmp_sg false (fromS a) ((r + 1) * (r + 1)) a (Sg.pos T0) (fromS_sg a) (by rw [absI_pos T0]; exact T1) a2 w
    rwa [absI_pos T0] at this)
  have is : InW s := by
    have p : absI n * absI n ≤ 9223372036854775808 * 9223372036854775808 := Int.mul_le_mul (by unfold absI; split <;> omega) (by unfold absI; split <;> omega) (absI_nonneg n) (by omega)
    have z := Int.mul_nonneg (absI_nonneg n) (absI_nonneg n)
    have e : s = absI n * absI n := by rw [hs]; unfold absI; split; rw [Int.neg_mul_neg]; rfl
    unfold InW; omega
  have W1 : Hid (∀ w, Calls Try.prog 10 #[.int .i64 n, .int .i64 n] w fun e w' => e = .returned (WV s) ∧ Mo w w') := Lib.hid (by rw [hs]; exact mul_any n n n1 n2 n1 n2)
  have R3 : Hid (∀ w, Calls Try.prog 29 #[WV s] w fun e w' => e = .returned (.int .u64 m) ∧ Mo w w') := Lib.hid (fun w => by
    have := root_any s is w
    rwa [hs, rootV_sq, ← hm, ← hs] at this)
  have W2 : Hid (∀ w, Calls Try.prog 23 #[.int .i64 n] w fun e w' => e = .returned (WV n) ∧ Mo w w') := Lib.hid (of_any n n1 n2)
  have W3 : Hid (∀ w, Calls Try.prog 27 #[WV n] w fun e w' => e = .returned (.agg #[.int .i64 0, .int .u64 m]) ∧ Mo w w') := Lib.hid (fun w => by
    have := abs_any n (inW_i64 n1 n2) w
    rw [← hm, cl_in (inW_u64 m0 m1), lw m 0 m (by omega) m0 m1] at this
    exact this)
  have D1 : Hid (∀ w, Calls Try.prog 28 #[WV a, WV b] w fun e w' => e = .returned (.int .i64 (cmpI a b)) ∧ Mo w w') := Lib.hid (cmp_any a b)
  have P1 : 0 ≤ a → r * r ≤ a ∧ a < (r + 1) * (r + 1) := fun h => by have := rootV_is h; rw [hr] at this; exact this.2
  have P2 : a ≤ b → r ≤ q := fun h => by rw [← hr, ← hq]; exact rootV_mono h
  have P3 : a < 0 → r = 0 := fun h => by rw [← hr]; exact rootV_neg h
  have P4 : hiW a < 0 ↔ a < 0 := by unfold hiW; omega
  generalize fromS a = fa at *
  generalize absI a = xa at *
  generalize (r + 1) * (r + 1) = rr at *
  generalize r * r = r2 at *
  clear hr hq hs hm is S0 S1 T0 T1 a2 r0 r1 m0 m1
  go_enter Try.func6, Try.ntmps6
  go_wp2_with fail
  refine (known_any _).mono ?_; rintro e w1 ⟨rfl, J0, d0, rfl⟩
  go_wp2_with fail
  refine (R1.out _).mono ?_; rintro e w1 ⟨rfl, J1, d1, rfl⟩
  go_wp2_with fail
  refine (N1.out _).mono ?_; rintro e w1 ⟨rfl, J2, d2, rfl⟩
  go_wp2_with fail
  refine wp_name ?_
  intro W hW
  have M0 : Mo w W := by rw [hW]; exact Mor.out
  have c30 : W.cell? ⟨w.heap.size, 0, none⟩ = some (.int .i64 (hiW a)) := by rw [hW]; simp [go_sem]
  have c31 : W.cell? ⟨w.heap.size, 1, none⟩ = some (.int .u64 (loW a)) := by rw [hW]; simp [go_sem]
  have c40 : W.cell? ⟨w.heap.size + 1, 0, none⟩ = some (.int .i64 (hiW b)) := by rw [hW]; simp [go_sem]
  have c41 : W.cell? ⟨w.heap.size + 1, 1, none⟩ = some (.int .u64 (loW b)) := by rw [hW]; simp [go_sem]
  have B7 : Blk W (w.heap.size + 1 + 1 + (J0.size + (J1.size + J2.size))) 29 (numC false (lim r)) := by rw [hW]; infer_instance
  clear hW
  generalize w.heap.size + 1 + 1 + (J0.size + (J1.size + J2.size)) = p7 at *
  generalize w.heap.size + 1 = p4 at *
  generalize w.heap.size = p3 at *
  have L3 : LtW p3 W := LtW.of_cell c30
  have L4 : LtW p4 W := LtW.of_cell c40
  go_cut [8] (fun s8 wx => ∃ p, s8 = .pointer (some ⟨p, 0, none⟩) ∧ Blk wx p 29 (numC false (lim (r + 1))) ∧ Mo W wx)
  case first =>
    as_aux_lemma =>
      go_region_held3 (fun w' => Blk w' p7 29 (numC false (lim r))) (infer_instance)
        (first
        | ((with_reducible refine (O1.out _).mono ?_); rintro e w1 ⟨rfl, J3, d3, rfl⟩)
        | ((with_reducible refine (A1.out _).mono ?_); rintro e w1 ⟨rfl, J3, d3, rfl⟩))
      all_goals (go_wp2_with fail; go_meet; exact ⟨_, rfl, inferInstance, Mor.out⟩)
  obtain ⟨p8, rfl, B8, hM⟩ := hcut
  replace c30 : wc.cell? ⟨p3, 0, none⟩ = some (.int .i64 (hiW a)) := hM.cell.trans c30
  replace c31 : wc.cell? ⟨p3, 1, none⟩ = some (.int .u64 (loW a)) := hM.cell.trans c31
  replace c40 : wc.cell? ⟨p4, 0, none⟩ = some (.int .i64 (hiW b)) := hM.cell.trans c40
  replace c41 : wc.cell? ⟨p4, 1, none⟩ = some (.int .u64 (loW b)) := hM.cell.trans c41
  replace B7 : Blk wc p7 29 (numC false (lim r)) := hM.blk B7
  replace M0 := M0.trans hM
  clear hM L3 L4
  have L3 : LtW p3 wc := LtW.of_cell c30
  have L4 : LtW p4 wc := LtW.of_cell c40
  rename World => Wa
  go_wp2_with fail
  refine (F1.out _).mono ?_; rintro e w1 ⟨rfl, J4, d4, rfl⟩
  by_cases hn : a < 0
  · obtain rfl : r = 0 := P3 hn
    have hn' : hiW a < 0 := P4.2 hn
    go_wp2_with fail
    refine (R1.out _).mono ?_; rintro e w1 ⟨rfl, J5, d5, rfl⟩
    go_wp2_with fail
    go_ret
    exact ⟨rfl, M0.trans Mor.out⟩
  have hn' : ¬ hiW a < 0 := fun c => hn (P4.1 c)
  obtain ⟨k1, k2⟩ := P1 (by omega)
  have e2 : cmpI rr a = 1 := by unfold cmpI; rw [if_neg (by omega), if_pos k2]
  rw [e2] at C2
  go_upto_region 8 with (fail)
  go_cut [40] (fun s wx => s = .bool false ∧ ∃ J d, wx = more (((more Wa J4 d4).alloc (.cells (numC fa (lim xa)) 29))) J d)
  case first =>
    as_aux_lemma =>
      by_cases c : r2 < a
      · have e1 : cmpI r2 a = -1 := by unfold cmpI; rw [if_pos c]
        rw [e1] at C1
        clear k1 k2 c e1 e2 hn hn' P1 P2 P3 P4
        refine wp_region_mo (by kernel_rfl) (by kernel_rfl) ?_
        repeat (go_big_quiet_step (first | (with_reducible exact quiet_mo (M1.out _)) | (with_reducible exact quiet_mo (M2.out _)) | (with_reducible exact quiet_mo (C1.out _)) | (with_reducible exact quiet_mo (C2.out _))))
        refine wpQuiet_nil ?_
        intro _ hw'
        obtain ⟨⟨J2, d2⟩, hw''⟩ := hw'
        subst hw''
        go_wp2_with fail
        go_meet
        exact ⟨rfl, _, _, rfl⟩
      · have e1 : cmpI r2 a = 0 := by unfold cmpI; rw [if_neg c, if_neg (by omega)]
        rw [e1] at C1
        clear k1 k2 c e1 e2 hn hn' P1 P2 P3 P4
        refine wp_region_mo (by kernel_rfl) (by kernel_rfl) ?_
        repeat (go_big_quiet_step (first | (with_reducible exact quiet_mo (M1.out _)) | (with_reducible exact quiet_mo (M2.out _)) | (with_reducible exact quiet_mo (C1.out _)) | (with_reducible exact quiet_mo (C2.out _))))
        refine wpQuiet_nil ?_
        intro _ hw'
        obtain ⟨⟨J2, d2⟩, hw''⟩ := hw'
        subst hw''
        go_wp2_with fail
        go_meet
        exact ⟨rfl, _, _, rfl⟩
  obtain ⟨rfl, J, d, rfl⟩ := hcut
  go_wp2_with fail
  refine (W1.out _).mono ?_; rintro e w1 ⟨rfl, J5, d5, rfl⟩
  go_wp2_with fail
  refine (R3.out _).mono ?_; rintro e w1 ⟨rfl, J6, d6, rfl⟩
  go_wp2_with fail
  refine (W2.out _).mono ?_; rintro e w1 ⟨rfl, J7, d7, rfl⟩
  go_wp2_with fail
  refine (W3.out _).mono ?_; rintro e w1 ⟨rfl, J8, d8, rfl⟩
  go_wp2_with fail
  by_cases c : b < a
  · have e1 : cmpI a b = 1 := by unfold cmpI; rw [if_neg (by omega), if_pos c]
    rw [e1] at D1
    clear k1 k2 c e1 e2 hn hn' P1 P2 P3 P4
    refine wp_region_mo' (by kernel_rfl) (by kernel_rfl) ?_
    repeat (go_big_quiet_step (first | (with_reducible exact quiet_mo (D1.out _)) | (with_reducible exact quiet_mo (R1.out _)) | (with_reducible exact quiet_mo (R2.out _))))
    refine wpQuiet_nil ?_
    intro _ hw'
    obtain ⟨⟨J9, d9⟩, hw''⟩ := hw'
    subst hw''
    go_wp2_with fail
    go_ret
    exact ⟨rfl, M0.trans Mor.out⟩
  have e3 := P2 (by omega)
  by_cases c' : a < b
  · have e1 : cmpI a b = -1 := by unfold cmpI; rw [if_pos c']
    rw [e1] at D1
    clear k1 k2 c c' e1 e2 hn hn' P1 P2 P3 P4
    refine wp_region_mo' (by kernel_rfl) (by kernel_rfl) ?_
    repeat (go_big_quiet_step (first | (with_reducible exact quiet_mo (D1.out _)) | (with_reducible exact quiet_mo (R1.out _)) | (with_reducible exact quiet_mo (R2.out _))))
    refine wpQuiet_nil ?_
    intro _ hw'
    obtain ⟨⟨J9, d9⟩, hw''⟩ := hw'
    subst hw''
    go_wp2_with fail
    go_ret
    exact ⟨rfl, M0.trans Mor.out⟩
  · have e1 : cmpI a b = 0 := by unfold cmpI; rw [if_neg c', if_neg c]
    rw [e1] at D1
    clear k1 k2 c c' e1 e2 hn hn' P1 P2 P3 P4
    refine wp_region_mo' (by kernel_rfl) (by kernel_rfl) ?_
    repeat (go_big_quiet_step (first | (with_reducible exact quiet_mo (D1.out _)) | (with_reducible exact quiet_mo (R1.out _)) | (with_reducible exact quiet_mo (R2.out _))))
    refine wpQuiet_nil ?_
    intro _ hw'
    obtain ⟨⟨J9, d9⟩, hw''⟩ := hw'
    subst hw''
    go_wp2_with fail
    go_ret
    exact ⟨rfl, M0.trans Mor.out⟩
end Go.Proofs.Ytaboiojabmbioaa
