/- horologeref35: Number, around. -/
import Derived.Test.YtdgmcgfkammioaaRefZ35
import Derived.Test.YtdgmcgfkammioaaEpP
namespace Go.Proofs.Ytdgmcgfkammioaa
open Go.RowKit

set_option maxRecDepth 20000 in
theorem sg_floor35 {sg : Bool} {s c : Int} (h : Sg sg s) (hc : 0 < c) : Sg sg (s / c) :=
  ⟨fun k => h.1 (by
    rcases Int.lt_or_le s 0 with d | d
    · exact d
    · have := Int.ediv_nonneg d (by omega : 0 ≤ c); omega), fun k => h.2 (by
    rcases Int.lt_or_le 0 s with d | d
    · exact d
    · have : s / c ≤ 0 := by
        have := Int.ediv_le_ediv hc d
        simpa using this
      omega)⟩
attribute [local go_sem] blk_cell' blk_frozen'
set_option maxRecDepth 20000 in
set_option maxHeartbeats 4000000 in
theorem rnum35_any (R : Nat) (wd : Int) (sv v : Value) (a : Int) (W : World) (b : Blk W R 30 #[.int .i64 wd, sv, v]) (w0 : 1 ≤ wd) (w1 : wd ≤ 1152921504606846976) (ha : InW a) :
    Calls Try.prog 26 #[.pointer (some ⟨R, 0, none⟩), WV a] W fun e w' => e = .returned (.int .i64 (nOf wd a)) ∧ Mo W w' := by
  show Calls _ _ _ W fun e w' => e = .returned (.int .i64 (clip (a / wd))) ∧ Mo W w'
  have iq := inW_div ha w0
  have ba : absI a < 2 ^ 130 := by have := ha.1; have := ha.2; unfold absI; split <;> omega
  have bq : absI (a / wd) < 65536 ^ 20 := by
    have p : (170141183460469231731687303715884105729 : Int) < 65536 ^ 20 := by decide
    have := iq.1; have := iq.2; unfold absI; split <;> omega
  have F1 := Lib.hid (fun w => from_any a ha w)
  have O1 : Hid (∀ w, Calls Try.prog 46 #[.int .i64 wd] w fun e w' => e = .returned (NN false wd) ∧ Mo w w') := Lib.hid (fun w => rof_pos wd (by omega) (by omega) w)
  have L1 := Lib.hid (fun w => rfloor_any (fromS a) a wd (fromS_sg a) ba (by omega) (by omega) w)
  have X1 : Hid (∀ w, Calls Try.prog 43 #[NN (fromS a) (absI (a / wd))] w fun e w' => e = .returned (WV (a / wd)) ∧ Mo w w') := Lib.hid (fun w => by
    have := rwide_any (fromS a) (a / wd) (sg_floor35 (fromS_sg a) (by omega)) bq w
    rwa [cl_in iq] at this)
  have C1 := Lib.hid (fun w => rclip_any (a / wd) iq w)
  generalize absI (a / wd) = q1 at *
  generalize clip (a / wd) = q2 at *
  generalize absI a = a1 at *
  generalize fromS a = s1 at *
  generalize a / wd = q3 at *
  clear iq ba bq ha
  go_enter Try.func26, Try.ntmps26
  go_upto_region 1 with (fail)
  first | (refine wp_region_mo (by kernel_rfl) (by kernel_rfl) ?_) | (refine wp_region_mo' (by kernel_rfl) (by kernel_rfl) ?_)
  repeat (go_big_quiet_step (first | (with_reducible exact quiet_mo (F1.out _)) | (with_reducible exact quiet_mo (O1.out _)) | (with_reducible exact quiet_mo (L1.out _)) | (with_reducible exact quiet_mo (X1.out _)) | (with_reducible exact quiet_mo (C1.out _))))
  refine wpQuiet_nil ?_
  intro _ hw'
  obtain ⟨⟨J9, d9⟩, hw''⟩ := hw'
  subst hw''
  go_wp2_with fail
  go_ret
  exact ⟨rfl, Mor.out⟩
set_option maxRecDepth 20000 in
theorem retQ_iv {fn : Func} {p : Tmp} {R : Ending → World → Prop} {a : Act} {w : World} (hr : fn.results = #[.cell p 79]) (g : Nat) (cs : Array Value) (hp : a.tmps.getD p undef = .pointer (some ⟨g, 0, none⟩)) (hd : a.defers = []) (z : cs.size = 2) (b : Blk w g 79 cs)
    (hR : R (.returned (.agg cs)) w) : bodyPost Try.prog fn R .ret a w :=
  bodyPost_ret (v := .agg cs) (by
    have e0 : (results fn a.tmps).run Try.prog w = ((asAddr (a.tmps.getD p undef)).run Try.prog w).andThen fun a w₁ => (loadVar 79 a).run Try.prog w₁ := by
      simp only [results, hr]
      simp [Sem.run_bind, Result.andThen]
    rw [e0, hp]
    have e : (asAddr (.pointer (some ⟨g, 0, none⟩))).run Try.prog w = .ok (⟨g, 0, none⟩ : Addr) w := rfl
    rw [e, Result.andThen_ok, run_loadVar_row w g 79 79 cs (0, 0) _ b.out Try.underlying79 rfl (by rw [z]; kernel_rfl)]) hd hR
set_option maxRecDepth 20000 in
set_option maxHeartbeats 8000000 in
theorem raround_any (o d : Int) (W : World) (ho : Is64 o) (hd : Is64 d) :
    Calls Try.prog 27 #[.int .i64 o, .int .i64 d] W fun e w' => e = .returned (.agg #[.int .i64 (ivP (o, d)).lo, .int .i64 (ivP (o, d)).hi]) ∧ Mo W w' := by
  obtain ⟨o1, o2⟩ := ho
  obtain ⟨d1, d2⟩ := hd
  have ed : dist d = if d < 0 then 0 else d := by unfold dist; split <;> omega
  obtain ⟨z, hz⟩ : ∃ z, dist d = z := ⟨_, rfl⟩
  have z0 : 0 ≤ z ∧ z ≤ 9223372036854775807 := by rw [← hz]; unfold dist; omega
  show Calls _ _ _ W fun e w' => e = .returned (.agg #[.int .i64 (clip (o - dist d)), .int .i64 (clip (o + dist d))]) ∧ Mo W w'
  rw [hz] at ed ⊢
  have p1 : (36893488147419103232 : Int) < 65536 ^ 19 := by decide
  have p2 : (36893488147419103232 : Int) < 65536 ^ 20 := by decide
  have bo : absI o < 65536 ^ 19 := by unfold absI; split <;> omega
  have bz : absI (-z) < 65536 ^ 19 := by unfold absI; split <;> omega
  have bz' : absI z < 65536 ^ 19 := by unfold absI; split <;> omega
  have bm : absI (o + -z) < 65536 ^ 20 := by unfold absI; split <;> omega
  have bp : absI (o + z) < 65536 ^ 20 := by unfold absI; split <;> omega
  have im : InW (o + -z) := by unfold InW; omega
  have ip : InW (o + z) := by unfold InW; omega
  have OD := Lib.hid (fun w => rof_any d d1 d2 w)
  have OO := Lib.hid (fun w => rof_any o o1 o2 w)
  have O0 := Lib.hid (fun w => rof_pos 0 (by omega) (by omega) w)
  have N1 : Hid (∀ w, Calls Try.prog 48 #[NN false z] w fun e w' => e = .returned (NN true z) ∧ Mo w w') := Lib.hid (fun w => rneg_any false (lim z) w)
  have A1 : Hid (∀ w, Calls Try.prog 47 #[NN (decide (o < 0)) (absI o), NN true z] w fun e w' => e = .returned (NN (addS (decide (o < 0)) true o (-z)) (absI (o + -z))) ∧ Mo w w') := Lib.hid (fun w => by
    have := radd_any (decide (o < 0)) true o (-z) (sg_dec o) ⟨fun _ => rfl, fun h => by omega⟩ bo bz w
    rwa [absI_neg, absI_pos z0.1] at this)
  have A2 : Hid (∀ w, Calls Try.prog 47 #[NN (decide (o < 0)) (absI o), NN false z] w fun e w' => e = .returned (NN (addS (decide (o < 0)) false o z) (absI (o + z))) ∧ Mo w w') := Lib.hid (fun w => by
    have := radd_any (decide (o < 0)) false o z (sg_dec o) (Sg.pos z0.1) bo bz' w
    rwa [absI_pos z0.1] at this)
  have X1 : Hid (∀ w, Calls Try.prog 43 #[NN (addS (decide (o < 0)) true o (-z)) (absI (o + -z))] w fun e w' => e = .returned (WV (o + -z)) ∧ Mo w w') := Lib.hid (fun w => by
    have := rwide_any _ (o + -z) (addS_sg (sg_dec o) (⟨fun _ => rfl, fun h => by omega⟩ : Sg true (-z))) bm w
    rwa [cl_in im] at this)
  have X2 : Hid (∀ w, Calls Try.prog 43 #[NN (addS (decide (o < 0)) false o z) (absI (o + z))] w fun e w' => e = .returned (WV (o + z)) ∧ Mo w w') := Lib.hid (fun w => by
    have := rwide_any _ (o + z) (addS_sg (sg_dec o) (Sg.pos z0.1)) bp w
    rwa [cl_in ip] at this)
  have C1 := Lib.hid (fun w => rclip_any (o + -z) im w)
  have C2 := Lib.hid (fun w => rclip_any (o + z) ip w)
  rw [show o - z = o + -z by omega]
  generalize addS (decide (o < 0)) true o (-z) = s1 at *
  generalize addS (decide (o < 0)) false o z = s2 at *
  generalize absI (o + -z) = m1 at *
  generalize absI (o + z) = m2 at *
  generalize clip (o + -z) = k1 at *
  generalize clip (o + z) = k2 at *
  generalize o + -z = v1 at *
  generalize o + z = v2 at *
  generalize absI o = ao at *
  generalize decide (o < 0) = so at *
  clear bo bz bz' bm bp im ip p1 p2 hz
  clear o1 o2 d1 d2
  by_cases cd : d < 0
  · have d0 : decide (d < 0) = true := decide_eq_true cd
    rw [if_pos cd] at ed
    subst ed
    rw [d0] at OD
    generalize absI d = ad at *
    clear z0
    go_enter Try.func27, Try.ntmps27
    go_wp2_with fail
    refine (OD.out _).mono ?_
    rintro e w1 ⟨rfl, M1⟩
    have N1' : Mo W w1 := (Mor.out : Mo W _).trans M1
    have b4 : Blk w1 W.heap.size 79 #[.int .i64 0, .int .i64 0] := M1.blk inferInstance
    clear M1
    go_wp2_with fail
    refine (O0.out _).mono ?_
    rintro e w8 ⟨rfl, M8⟩
    have b58 : Blk w8 w1.heap.size 107 (numC true (lim ad)) := M8.blk inferInstance
    have b48 : Blk w8 W.heap.size 79 #[.int .i64 0, .int .i64 0] := M8.blk inferInstance
    have N8 : Mo W w8 := N1'.trans ((Mor.out : Mo w1 _).trans M8)
    have lt41 : W.heap.size < w1.heap.size := b4.lt
    clear M8 b4
    go_upto_region 4 with (fail)
    refine wp_name ?_
    intro w2 hw2
    have b5 : Blk w2 w1.heap.size 107 (numC false (lim 0)) := by rw [hw2]; exact blk_setRow b58
    have b4 : Blk w2 W.heap.size 79 #[.int .i64 0, .int .i64 0] := by rw [hw2]; exact blk_setRow_ne b48 (by omega)
    have N2 : Mo W w2 := by rw [hw2]; exact mo_setRow N8 (by omega) _
    clear hw2
    go_wp2_with fail
    refine (OO.out _).mono ?_
    rintro e w3 ⟨rfl, M3⟩
    have b5 := M3.blk b5
    have b4 := M3.blk b4
    have N3 := N2.trans M3
    clear M3
    go_upto_region 5 with (fail)
    refine wp_name ?_
    intro w4 hw4
    have b6 : Blk w4 w3.heap.size 107 (numC so (lim ao)) := by rw [hw4]; infer_instance
    have M4 : Mo w3 w4 := by rw [hw4]; exact Mor.out
    have b5 := M4.blk b5
    have b4 := M4.blk b4
    have N4 := N3.trans M4
    clear hw4 M4
    first | (refine wp_region_mo (by kernel_rfl) (by kernel_rfl) ?_) | (refine wp_region_mo' (by kernel_rfl) (by kernel_rfl) ?_)
    repeat (go_big_quiet_step (first | (with_reducible exact quiet_mo (N1.out _)) | (with_reducible exact quiet_mo (A1.out _)) | (with_reducible exact quiet_mo (X1.out _)) | (with_reducible exact quiet_mo (C1.out _))))
    refine wpQuiet_nil ?_
    intro _ hw'
    obtain ⟨⟨J9, d9⟩, hw''⟩ := hw'
    subst hw''
    go_wp2_with fail
    refine (A2.out _).mono ?_
    rintro e w5 ⟨rfl, M5⟩
    have N5 := N4.trans ((Mor.out : Mo w4 _).trans M5)
    have b4 := ((Mor.out : Mo w4 _).trans M5).blk b4
    clear M5
    go_wp2_with fail
    refine (X2.out _).mono ?_
    rintro e w6 ⟨rfl, M6⟩
    have N6 := N5.trans M6
    have b4 := M6.blk b4
    clear M6
    go_wp2_with fail
    refine (C2.out _).mono ?_
    rintro e w7 ⟨rfl, M7⟩
    have N7 := N6.trans M7
    have b4 := M7.blk b4
    clear M7
    go_wp2_with fail
    refine retQ_iv rfl W.heap.size #[.int .i64 k1, .int .i64 k2] rfl rfl rfl ⟨(blk_setCell (blk_setCell b4 0 (.int .i64 k1)) 1 (.int .i64 k2)).out⟩ ?_
    exact ⟨rfl, mo_setCell (mo_setCell N7 (Nat.le_refl _) _ _) (Nat.le_refl _) _ _⟩
  · have d0 : decide (d < 0) = false := decide_eq_false cd
    rw [if_neg cd] at ed
    subst ed
    rw [d0, absI_pos z0.1] at OD
    clear z0
    go_enter Try.func27, Try.ntmps27
    go_wp2_with fail
    refine (OD.out _).mono ?_
    rintro e w1 ⟨rfl, M1⟩
    have N1' : Mo W w1 := (Mor.out : Mo W _).trans M1
    have b4 : Blk w1 W.heap.size 79 #[.int .i64 0, .int .i64 0] := M1.blk inferInstance
    clear M1
    go_upto_region 4 with (fail)
    refine wp_name ?_
    intro w2 hw2
    have b5 : Blk w2 w1.heap.size 107 (numC false (lim z)) := by rw [hw2]; infer_instance
    have b4 : Blk w2 W.heap.size 79 #[.int .i64 0, .int .i64 0] := by rw [hw2]; infer_instance
    have N2 : Mo W w2 := by rw [hw2]; exact N1'.trans Mor.out
    clear hw2
    go_wp2_with fail
    refine (OO.out _).mono ?_
    rintro e w3 ⟨rfl, M3⟩
    have b5 := M3.blk b5
    have b4 := M3.blk b4
    have N3 := N2.trans M3
    clear M3
    go_upto_region 5 with (fail)
    refine wp_name ?_
    intro w4 hw4
    have b6 : Blk w4 w3.heap.size 107 (numC so (lim ao)) := by rw [hw4]; infer_instance
    have M4 : Mo w3 w4 := by rw [hw4]; exact Mor.out
    have b5 := M4.blk b5
    have b4 := M4.blk b4
    have N4 := N3.trans M4
    clear hw4 M4
    first | (refine wp_region_mo (by kernel_rfl) (by kernel_rfl) ?_) | (refine wp_region_mo' (by kernel_rfl) (by kernel_rfl) ?_)
    repeat (go_big_quiet_step (first | (with_reducible exact quiet_mo (N1.out _)) | (with_reducible exact quiet_mo (A1.out _)) | (with_reducible exact quiet_mo (X1.out _)) | (with_reducible exact quiet_mo (C1.out _))))
    refine wpQuiet_nil ?_
    intro _ hw'
    obtain ⟨⟨J9, d9⟩, hw''⟩ := hw'
    subst hw''
    go_wp2_with fail
    refine (A2.out _).mono ?_
    rintro e w5 ⟨rfl, M5⟩
    have N5 := N4.trans ((Mor.out : Mo w4 _).trans M5)
    have b4 := ((Mor.out : Mo w4 _).trans M5).blk b4
    clear M5
    go_wp2_with fail
    refine (X2.out _).mono ?_
    rintro e w6 ⟨rfl, M6⟩
    have N6 := N5.trans M6
    have b4 := M6.blk b4
    clear M6
    go_wp2_with fail
    refine (C2.out _).mono ?_
    rintro e w7 ⟨rfl, M7⟩
    have N7 := N6.trans M7
    have b4 := M7.blk b4
    clear M7
    go_wp2_with fail
    refine retQ_iv rfl W.heap.size #[.int .i64 k1, .int .i64 k2] rfl rfl rfl ⟨(blk_setCell (blk_setCell b4 0 (.int .i64 k1)) 1 (.int .i64 k2)).out⟩ ?_
    exact ⟨rfl, mo_setCell (mo_setCell N7 (Nat.le_refl _) _ _) (Nat.le_refl _) _ _⟩
end Go.Proofs.Ytdgmcgfkammioaa
