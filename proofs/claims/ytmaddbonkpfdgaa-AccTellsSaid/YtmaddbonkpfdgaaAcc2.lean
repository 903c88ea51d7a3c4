/- acc.Told: what it returns, in integers. -/
import Derived.Test.YtmaddbonkpfdgaaAcc
import Derived.Test.YtmaddbonkpfdgaaRootV
namespace Go.Proofs.Ytmaddbonkpfdgaa
open Go.RowKit

/-- a block that came behind V, laid in its place -/
theorem mo_split {V W : World} (h : Mo V W) {g : Nat} {t : TypeId} {cs : Array Value} (hB : Blk W g t cs) (hg : V.heap.size ≤ g) : ∃ (J J' : Array Obj) (d d' : Nat), g = V.heap.size + J.size ∧ W = more ((more V J d).alloc (.cells cs t)) J' d' := by
  obtain ⟨K, e, rfl⟩ := h
  have hl := hB.lt
  have hv := (Array.getElem?_eq_some_iff.1 hB.out).2
  have hl' : g < V.heap.size + K.size := by have : (more V K e).heap.size = V.heap.size + K.size := by simp [more]
                                            omega
  have hK : K[g - V.heap.size]? = some (.cells cs t (0, 0)) := by
    have := hB.out
    simp only [more] at this
    rw [Array.getElem?_append_right hg] at this
    exact this
  refine ⟨K.extract 0 (g - V.heap.size), K.extract (g - V.heap.size + 1) K.size, e, e, by simp; omega, ?_⟩
  show World.mk _ _ _ _ _ = World.mk _ _ _ _ _
  congr 1
  refine Array.ext_getElem? fun k => ?_
  show (V.heap ++ K)[k]? = ((V.heap ++ K.extract 0 (g - V.heap.size)).push (.cells cs t) ++ K.extract (g - V.heap.size + 1) K.size)[k]?
  simp only [Array.getElem?_append, Array.size_push, Array.size_append, Array.size_extract, Array.getElem?_push, Array.getElem?_extract]
  (repeat' split) <;> first
    | rfl
    | (exfalso; omega)
    | (congr 1; omega)
    | (subst_vars; rw [← hK]; congr 1; omega)
    | (rw [Array.getElem?_eq_none (by omega)])
    | (rw [← hK]; congr 1; omega)

/-- what is told of sums: the mean, and the squares' sum from it -/
def meanS (S : St) : Int := S.s / S.c
def farS (S : St) : Int := S.q - 2 * meanS S * S.s + S.c * (meanS S * meanS S)
noncomputable def spreadS (S : St) : Int := rootV (farS S / S.c)
noncomputable abbrev TV (S : St) : Value := .agg #[.int .i64 S.c, .int .i64 S.w, .int .i64 S.lo, .int .i64 S.hi, .int .i64 (meanS S), .int .u64 (spreadS S)]
theorem mean_bd {S : St} {m : Int} (h : Good S m) (hc : 0 < S.c) : S.lo ≤ meanS S ∧ meanS S ≤ S.hi := by
  unfold meanS
  have a := h.s1
  have b := h.s2
  rw [Int.mul_comm] at a b
  constructor
  · exact Int.le_ediv_of_mul_le hc a
  · have : S.s / S.c < S.hi + 1 := Int.ediv_lt_of_lt_mul hc (by rw [Int.add_mul]; omega)
    omega
/-- how the program comes to it -/
theorem far_way (S : St) : S.q - meanS S * meanS S * S.c - 2 * meanS S * (S.s % S.c) = farS S := by
  have e := Int.mul_ediv_add_emod S.s S.c
  unfold farS
  have e2 : S.s = S.c * meanS S + S.s % S.c := by unfold meanS; omega
  generalize S.s % S.c = r at *
  generalize meanS S = m at *
  rw [e2, Int.mul_add]
  have : 2 * m * (S.c * m) = 2 * (S.c * (m * m)) := by
    rw [Int.mul_assoc 2, Int.mul_left_comm m]
  rw [this, Int.mul_comm (m * m) S.c]
  omega
theorem far_bd {S : St} {m : Int} (h : Good S m) (hc : 0 < S.c) : 0 ≤ farS S ∧ farS S ≤ S.c * ((S.hi - S.lo) * (S.hi - S.lo)) := by
  obtain ⟨a, b⟩ := mean_bd h hc
  exact h.var S.lo S.hi (meanS S) (Int.le_refl _) (Int.le_refl _) a b
theorem rootV_0 : rootV 0 = 0 := root_uniq (rootV_is (by decide)) ⟨by decide, by decide, by decide⟩
set_option maxRecDepth 10000 in
set_option maxHeartbeats 2000000 in
theorem told_some (c w lo hi s q mean r mm mc f1 m2 f2 f3 r3 sp : Int) (arg : Value) (W : World) (c0 : 0 < c) (c1 : c ≤ 2147483648) (b1 : -140737488355328 ≤ mean) (b2 : mean ≤ 140737488355328) (r0 : 0 ≤ r) (r1 : r < c)
    (hO : Hid (∀ W', Mo W W' → Calls Try.prog 18 #[arg] W' fun e w' => e = .returned (SV ⟨c, w, lo, hi, s, q⟩) ∧ Mo W' w'))
    (D1 : Hid (∀ W, Calls Try.prog 19 #[WV s, .int .u64 c] W fun e w' => e = .returned (.tuple #[WV mean, .int .u64 r, .bool true]) ∧ Mo W w'))
    (K1 : Hid (∀ W, Calls Try.prog 20 #[WV mean] W fun e w' => e = .returned (.int .i64 mean) ∧ Mo W w'))
    (M1 : Hid (∀ W, Calls Try.prog 17 #[.int .i64 mean, .int .i64 mean] W fun e w' => e = .returned (WV mm) ∧ Mo W w'))
    (S1 : Hid (∀ W, Calls Try.prog 22 #[WV mm, .int .u32 c] W fun e w' => e = .returned (WV mc) ∧ Mo W w'))
    (B1 : Hid (∀ W, Calls Try.prog 21 #[WV q, WV mc] W fun e w' => e = .returned (WV f1) ∧ Mo W w'))
    (M2 : Hid (∀ W, Calls Try.prog 17 #[.int .i64 (2 * mean), .int .i64 r] W fun e w' => e = .returned (WV m2) ∧ Mo W w'))
    (B2 : Hid (∀ W, Calls Try.prog 21 #[WV f1, WV m2] W fun e w' => e = .returned (WV f2) ∧ Mo W w'))
    (D2 : Hid (∀ W, Calls Try.prog 19 #[WV f2, .int .u64 c] W fun e w' => e = .returned (.tuple #[WV f3, .int .u64 r3, .bool true]) ∧ Mo W w'))
    (R1 : Hid (∀ W, Calls Try.prog 23 #[WV f3] W fun e w' => e = .returned (.int .u64 sp) ∧ Mo W w')) :
    Calls Try.prog 11 #[arg] W fun e w' => e = .returned (.agg #[.int .i64 c, .int .i64 w, .int .i64 lo, .int .i64 hi, .int .i64 mean, .int .u64 sp]) ∧ Mo W w' := by
  have cn : c ≠ 0 := by omega
  have S2 : Hid (∀ W, Calls Try.prog 22 #[WV mm, .int .u32 (IntKind.u32.wrap c)] W fun e w' => e = .returned (WV mc) ∧ Mo W w') := by
    rw [show IntKind.u32.wrap c = c by rw [IntKind.wrap_u32]; omega]; exact S1
  go_enter Try.func11, Try.ntmps11
  go_wp2_with fail
  refine (hO.out _ Mor.out).mono ?_; rintro e w1 ⟨rfl, J1, d1, rfl⟩
  go_wp2_with fail
  refine (D1.out _).mono ?_; rintro e w1 ⟨rfl, J2, d2, rfl⟩
  go_wp2_with fail
  refine (K1.out _).mono ?_; rintro e w1 ⟨rfl, J3, d3, rfl⟩
  go_wp2_with fail
  refine wp_name ?_
  intro V hV
  have k0 : V.cell? ⟨W.heap.size + 1 + J1.size, 6, none⟩ = some (.int .i64 (hiW q)) := by rw [hV]; simp [go_sem]
  have k1 : V.cell? ⟨W.heap.size + 1 + J1.size, 7, none⟩ = some (.int .u64 (loW q)) := by rw [hV]; simp [go_sem]
  have k2 : V.cell? ⟨W.heap.size + 1 + J1.size + 1, 4, none⟩ = some (.int .i64 mean) := by rw [hV]; simp [go_sem]
  have HV := Lib.hid hV
  clear hV
  have L3 : LtW (W.heap.size + 1 + J1.size) V := LtW.of_cell k0
  have L4 : LtW (W.heap.size + 1 + J1.size + 1) V := LtW.of_cell k2
  go_cut [9] (fun s9 wx => ∃ p, s9 = .pointer (some ⟨p, 0, none⟩) ∧ V.heap.size ≤ p ∧ Blk wx p 35 #[.int .i64 (hiW f1), .int .u64 (loW f1)] ∧ Mo V wx)
  case first =>
    as_aux_lemma =>
      go_region_held3 (fun w' => w'.cell? ⟨W.heap.size + 1 + J1.size, 6, none⟩ = some (.int .i64 (hiW q)) ∧ w'.cell? ⟨W.heap.size + 1 + J1.size, 7, none⟩ = some (.int .u64 (loW q)) ∧ w'.cell? ⟨W.heap.size + 1 + J1.size + 1, 4, none⟩ = some (.int .i64 mean)) (simp [go_sem, k0, k1, k2])
        (first
        | ((with_reducible refine (M1.out _).mono ?_); rintro e w1 ⟨rfl, J3, d3, rfl⟩)
        | ((with_reducible refine (S2.out _).mono ?_); rintro e w1 ⟨rfl, J3, d3, rfl⟩)
        | ((with_reducible refine (B1.out _).mono ?_); rintro e w1 ⟨rfl, J3, d3, rfl⟩))
      all_goals (go_wp2_with fail; go_meet; exact ⟨_, rfl, by first | exact Nat.le_refl _ | exact Nat.le_add_right _ _, inferInstance, Mor.out⟩)
  obtain ⟨p9, rfl, hp9, B9, hM⟩ := hcut
  obtain ⟨J4, J5, d4, d5, rfl, hwc⟩ := mo_split hM B9 hp9
  replace k2 : wc.cell? ⟨W.heap.size + 1 + J1.size + 1, 4, none⟩ = some (.int .i64 mean) := hM.cell.trans k2
  have k3 : wc.cell? ⟨V.heap.size + J4.size, 0, none⟩ = some (.int .i64 (hiW f1)) := by rw [hwc]; simp [go_sem]
  have k4 : wc.cell? ⟨V.heap.size + J4.size, 1, none⟩ = some (.int .u64 (loW f1)) := by rw [hwc]; simp [go_sem]
  have HC := Lib.hid hwc
  clear hwc hp9 B9 hM k0 k1 L3 L4
  have L4 : LtW (W.heap.size + 1 + J1.size + 1) wc := LtW.of_cell k2
  have L9 : LtW (V.heap.size + J4.size) wc := LtW.of_cell k3
  go_upto_region 9 with (fail)
  refine wp_region_mo_tail 8 (by kernel_rfl) (by kernel_rfl) ?_
  simp only [List.take_succ_cons, List.take_zero, List.drop_succ_cons, List.drop_zero]
  repeat (go_big_quiet_step (first | (with_reducible exact quiet_mo (M2.out _)) | (with_reducible exact quiet_mo (B2.out _))))
  refine wpQuiet_nil ?_
  intro _ hw'
  obtain ⟨⟨J6, d6⟩, hw''⟩ := hw'
  subst hw''
  have e9 : V.heap.size + J4.size = W.heap.size + 1 + J1.size + 1 + 1 + J2.size + 1 + (J3.size + J4.size) := by
    rw [HV.out]; simp [go_sem, Nat.add_assoc]
  rw [e9]
  obtain rfl := HC.out
  clear HC k2 k3 k4 L4 L9 e9
  obtain rfl := HV.out
  clear HV
  go_wp2_with fail
  refine (D2.out _).mono ?_; rintro e w1 ⟨rfl, J7, d7, rfl⟩
  go_wp2_with fail
  refine (R1.out _).mono ?_; rintro e w1 ⟨rfl, J8, d8, rfl⟩
  go_wp2_with fail
  exact bodyPost_ret (v := .agg #[.int .i64 c, .int .i64 w, .int .i64 lo, .int .i64 hi, .int .i64 mean, .int .u64 sp]) (by simp [results, Try.results11, go_sem]) rfl ⟨rfl, Mor.out⟩
set_option maxHeartbeats 1000000 in
theorem told_none (w lo hi s q : Int) (arg : Value) (W : World)
    (hO : Hid (∀ W', Mo W W' → Calls Try.prog 18 #[arg] W' fun e w' => e = .returned (SV ⟨0, w, lo, hi, s, q⟩) ∧ Mo W' w')) :
    Calls Try.prog 11 #[arg] W fun e w' => e = .returned (.agg #[.int .i64 0, .int .i64 w, .int .i64 lo, .int .i64 hi, .int .i64 0, .int .u64 0]) ∧ Mo W w' := by
  go_enter Try.func11, Try.ntmps11
  go_wp2_with fail
  refine (hO.out _ Mor.out).mono ?_; rintro e w1 ⟨rfl, J1, d1, rfl⟩
  go_wp2_with fail
  exact bodyPost_ret (v := .agg #[.int .i64 0, .int .i64 w, .int .i64 lo, .int .i64 hi, .int .i64 0, .int .u64 0]) (by simp [results, Try.results11, go_sem]) rfl ⟨rfl, Mor.out⟩
theorem told_of (S : St) (m : Int) (arg : Value) (W : World) (hS : Good S m) (hm : m ≤ 2147483648)
    (hO : ∀ W', Mo W W' → Calls Try.prog 18 #[arg] W' fun e w' => e = .returned (SV S) ∧ Mo W' w') :
    Calls Try.prog 11 #[arg] W fun e w' => e = .returned (TV S) ∧ Mo W w' := by
  have c0 := hS.c0
  have w0 := hS.w0
  have cw := hS.cw
  by_cases c : S.c = 0
  · have e1 : meanS S = 0 := by unfold meanS; rw [c, Int.ediv_zero]
    have e2 : spreadS S = 0 := by unfold spreadS; rw [c, Int.ediv_zero, rootV_0]
    unfold TV
    rw [e1, e2]
    obtain ⟨c', w, lo, hi, s, q⟩ := S
    simp only at c
    subst c
    exact told_none w lo hi s q arg W (Lib.hid hO)
  · have cp : 0 < S.c := by omega
    obtain ⟨mb1, mb2⟩ := mean_bd hS cp
    obtain ⟨fb1, fb2⟩ := far_bd hS cp
    have fw := far_way S
    have a1 := hS.lo
    have a3 := hS.hi
    obtain ⟨s1, s2⟩ := hS.sIn hm
    obtain ⟨q1, q2⟩ := hS.qIn hm
    have r0 : 0 ≤ S.s % S.c := Int.emod_nonneg _ c
    have r1 : S.s % S.c < S.c := Int.emod_lt_of_pos _ cp
    have mm1 : meanS S * meanS S ≤ 140737488355328 * 140737488355328 := sq_bd (by omega) (by omega)
    have mm0 := sq_nn (meanS S)
    have mc0 : 0 ≤ meanS S * meanS S * S.c := Int.mul_nonneg mm0 c0
    have mc1 : meanS S * meanS S * S.c ≤ 140737488355328 * 140737488355328 * 2147483648 := Int.mul_le_mul mm1 (by omega) c0 (by omega)
    have m2a : 2 * meanS S * (S.s % S.c) ≤ 281474976710656 * 2147483648 := by
      have : 2 * meanS S * (S.s % S.c) ≤ 281474976710656 * (S.s % S.c) := Int.mul_le_mul_of_nonneg_right (by omega) r0
      omega
    have m2b : -(281474976710656 * 2147483648) ≤ 2 * meanS S * (S.s % S.c) := by
      have : -281474976710656 * (S.s % S.c) ≤ 2 * meanS S * (S.s % S.c) := Int.mul_le_mul_of_nonneg_right (by omega) r0
      omega
    have fc : farS S / S.c ≤ farS S := Int.ediv_le_self _ fb1
    have fc0 : 0 ≤ farS S / S.c := Int.ediv_nonneg fb1 c0
    have D1 := div_any S.s S.c (by unfold InW; omega) cp (by omega)
    have K1 := clip_any (meanS S) (by unfold InW; omega)
    rw [clip_in (by omega) (by omega)] at K1
    have M1 := mul_any (meanS S) (meanS S) (by omega) (by omega) (by omega) (by omega)
    have S1 := scale_any (meanS S * meanS S) S.c (by unfold InW; omega) c0 (by omega)
    rw [cl_in (by unfold InW; omega)] at S1
    have B1 := sub_any S.q (meanS S * meanS S * S.c) (by unfold InW; omega) (by unfold InW; omega)
    rw [cl_in (by unfold InW; omega)] at B1
    have M2 := mul_any (2 * meanS S) (S.s % S.c) (by omega) (by omega) (by omega) (by omega)
    have B2 := sub_any (S.q - meanS S * meanS S * S.c) (2 * meanS S * (S.s % S.c)) (by unfold InW; omega) (by unfold InW; omega)
    rw [cl_in (by unfold InW; omega), fw] at B2
    have D2 := div_any (farS S) S.c (by unfold InW; omega) cp (by omega)
    have R1 := root_any (farS S / S.c) (by unfold InW; omega)
    obtain ⟨c', w, lo, hi, s, q⟩ := S
    exact told_some c' w lo hi s q _ _ _ _ _ _ _ _ _ _ arg W cp (by simp only at *; omega) (by simp only at *; omega) (by simp only at *; omega) r0 r1 (Lib.hid hO) (Lib.hid D1) (Lib.hid K1) (Lib.hid M1) (Lib.hid S1) (Lib.hid B1) (Lib.hid M2) (Lib.hid B2) (Lib.hid D2) (Lib.hid R1)
theorem told_acc (p : Nat) (b : Bool) (S : St) (m : Int) (W : World) (hB : Blk W p 39 (accC b S)) (hS : Good S m) (hm : m ≤ 2147483648) :
    Calls Try.prog 11 #[.pointer (some ⟨p, 0, none⟩)] W fun e w' => e = .returned (TV S) ∧ Mo W w' :=
  told_of S m _ W hS hm (fun W' hW => of_acc p b S W' (hW.blk hB))
theorem told_nil (W : World) : Calls Try.prog 11 #[.pointer none] W fun e w' => e = .returned (TV st0) ∧ Mo W w' :=
  told_of st0 0 _ W good0 (by omega) (fun W' _ => of_nil W')
/-- the document's examples -/
theorem told_ex1 : TV (sumL [1, 2, 4, 140737488355329]) = .agg #[.int .i64 3, .int .i64 1, .int .i64 1, .int .i64 4, .int .i64 2, .int .u64 1] := by
  have e : sumL [1, 2, 4, 140737488355329] = ⟨3, 1, 1, 4, 7, 21⟩ := by rfl
  have r : spreadS ⟨3, 1, 1, 4, 7, 21⟩ = 1 := root_uniq (rootV_is (by decide)) ⟨by decide, by decide, by decide⟩
  unfold TV
  rw [e, r]
  rfl
theorem told_ex2 : TV (sumL [-1, 0]) = .agg #[.int .i64 2, .int .i64 0, .int .i64 (-1), .int .i64 0, .int .i64 (-1), .int .u64 0] := by
  have e : sumL [-1, 0] = ⟨2, 0, -1, 0, -1, 1⟩ := by rfl
  have r : spreadS ⟨2, 0, -1, 0, -1, 1⟩ = 0 := root_uniq (rootV_is (by decide)) ⟨by decide, by decide, by decide⟩
  unfold TV
  rw [e, r]
  rfl
theorem told_ex3 : TV (sumL []) = .agg #[.int .i64 0, .int .i64 0, .int .i64 0, .int .i64 0, .int .i64 0, .int .u64 0] := by
  have r : spreadS ⟨0, 0, 0, 0, 0, 0⟩ = 0 := root_uniq (rootV_is (by decide)) ⟨by decide, by decide, by decide⟩
  show TV ⟨0, 0, 0, 0, 0, 0⟩ = _
  unfold TV
  rw [r]
  rfl
end Go.Proofs.Ytmaddbonkpfdgaa
