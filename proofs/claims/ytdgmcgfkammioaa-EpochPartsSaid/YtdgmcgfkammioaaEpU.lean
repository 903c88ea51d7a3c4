/- epoch: New, Live, End, Copy; Put (printed by gen/genepu.py). -/
import Derived.Test.YtdgmcgfkammioaaEpT
import Derived.Test.YtdgmcgfkammioaaDiv
namespace Go.Proofs.Ytdgmcgfkammioaa
open Go.RowKit Go.Maps

def mk0 (wd : Int) (sv : Nat) : MkS := ⟨wd, sv, false, 0, b0F⟩
set_option maxRecDepth 20000 in
theorem run_neq_mapE (w : World) (m : Option Nat) : (binOp .eql 52 (.map m) (.map none)).run Try.prog w = .ok (.bool m.isNone) w := run_eql_map_nil_sl w _ _ _ m under_best
set_option maxRecDepth 20000 in
theorem run_build_mk (wd sv : Int) (B : Nat) (w : World) : (Instr.build 54 #[(0, .int .i64 wd), (1, .int .i64 sv), (4, .map (some B))]).run Try.prog w = .ok (.agg #[.int .i64 wd, .int .i64 sv, .bool false, .int .i64 0, .map (some B)]) w := run_build w _ _ _ (by kernel_rfl)
abbrev epz : Array Value := #[.int .i64 0, .slice none 0 0, .bool false, .int .i64 0, .int .i64 0, .int .i64 0, .slice none 0 0]
set_option maxRecDepth 20000 in
theorem run_build_ep0 (w : World) : (buildF 38 #[]).run Try.prog w = .ok (.agg epz) w := run_build w _ _ _ (by kernel_rfl)
attribute [local go_sem] blk_cell' blk_frozen' run_neq_mapE
attribute [local go_sem ↓] buildF_ep storeF_ep loadF_ep
attribute [local go_sem] run_storeF0 run_loadF0 run_build_ep0
set_option maxRecDepth 20000 in
set_option maxHeartbeats 4000000 in
theorem enew_in (wd : Int) (sv : Nat) (cw : 1 ≤ wd ∧ wd ≤ 1152921504606846976) (cs : 1 ≤ sv ∧ sv ≤ 256) (W : World) :
    Calls Try.prog 10 #[.int .i64 wd, .int .i64 (sv : Nat)] W fun e w' => ∃ M B, e = .returned (.tuple #[.pointer (some ⟨M, 0, none⟩), .int .i64 0]) ∧ W.heap.size ≤ M ∧ W.heap.size ≤ B ∧ MkIs w' M B (mk0 wd sv) ∧ Mo W w' := by
  have mk : ∀ w : World, (Instr.makeMap 52 none).run Try.prog w = .ok (.map (some w.heap.size)) (w.alloc (.map #[] 0)) := run_makeMap _
  have hb := run_build_mk
  have d1 : decide (wd < 1) = false := decide_eq_false (by omega)
  have d2 : decide (1152921504606846976 < wd) = false := decide_eq_false (by omega)
  have d3 : decide ((sv : Int) < 1) = false := decide_eq_false (by omega)
  have d4 : decide (256 < (sv : Int)) = false := decide_eq_false (by omega)
  have HW := Lib.hid cw
  have HS := Lib.hid cs
  clear cw cs
  go_enter Try.func10, Try.ntmps10
  go_wp2_with fail
  go_ret2
  have m1 : Mo W (W.alloc (.map #[] 0)) := Mo.of ((Below.refl _ _).alloc (Nat.le_refl _) _)
  refine ⟨W.heap.size + 1, W.heap.size, by simp, by omega, by omega, ⟨?_, ?_, HS.out.1, HS.out.2, HW.out.1, HW.out.2, fun s x h => by cases h⟩, m1.trans Mor.out⟩
  · rw [show W.heap.size + 1 = (W.alloc (.map #[] 0)).heap.size by simp]
    exact (inferInstance : Blk ((W.alloc (.map #[] 0)).alloc (.cells #[.int .i64 wd, .int .i64 (sv : Nat), .bool false, .int .i64 0, .map (some W.heap.size)] 54)) (W.alloc (.map #[] 0)).heap.size 54 #[.int .i64 wd, .int .i64 (sv : Nat), .bool false, .int .i64 0, .map (some W.heap.size)])
  · exact (BestIs.made W sv).keep ((Mor.out : Mo (W.alloc (.map #[] 0)) _).below.block _ (by simp))
set_option maxRecDepth 20000 in
set_option maxHeartbeats 4000000 in
theorem enew_out (wd sv : Int) (c : wd < 1 ∨ 1152921504606846976 < wd ∨ sv < 1 ∨ 256 < sv) (W : World) :
    Calls Try.prog 10 #[.int .i64 wd, .int .i64 sv] W fun e w' => e = .returned (.tuple #[.pointer none, .int .i64 2]) ∧ Mo W w' := by
  by_cases c1 : wd < 1
  · have d1 : decide (wd < 1) = true := decide_eq_true c1
    clear c
    go_enter Try.func10, Try.ntmps10
    go_wp2_with fail
    go_ret2
    exact ⟨rfl, Mor.out⟩
  · have d1 : decide (wd < 1) = false := decide_eq_false c1
    by_cases c2 : 1152921504606846976 < wd
    · have d2 : decide (1152921504606846976 < wd) = true := decide_eq_true c2
      clear c
      go_enter Try.func10, Try.ntmps10
      go_wp2_with fail
      go_ret2
      exact ⟨rfl, Mor.out⟩
    · have d2 : decide (1152921504606846976 < wd) = false := decide_eq_false c2
      by_cases c3 : sv < 1
      · have d3 : decide (sv < 1) = true := decide_eq_true c3
        clear c
        go_enter Try.func10, Try.ntmps10
        go_wp2_with fail
        go_ret2
        exact ⟨rfl, Mor.out⟩
      · have d3 : decide (sv < 1) = false := decide_eq_false c3
        have d4 : decide (256 < sv) = true := decide_eq_true (by omega)
        clear c
        go_enter Try.func10, Try.ntmps10
        go_wp2_with fail
        go_ret2
        exact ⟨rfl, Mor.out⟩
set_option maxRecDepth 20000 in
set_option maxHeartbeats 4000000 in
theorem elive_any (M B : Nat) (m : MkS) (W : World) (h : MkIs W M B m) :
    Calls Try.prog 17 #[.pointer (some ⟨M, 0, none⟩)] W fun e w' => e = .returned (.int .i64 ((keysB m.sv m.f).length : Nat)) ∧ Mo W w' := by
  have bM := h.bm
  have ln := h.b.len
  generalize (keysB m.sv m.f).length = N at *
  clear h
  go_enter Try.func17, Try.ntmps17
  go_wp2_with fail
  go_ret
  exact ⟨rfl, Mor.out⟩
set_option maxRecDepth 20000 in
set_option maxHeartbeats 4000000 in
theorem elive_nil (W : World) : Calls Try.prog 17 #[.pointer none] W fun e w' => e = .returned (.int .i64 0) ∧ Mo W w' := by
  go_enter Try.func17, Try.ntmps17
  go_wp2_with fail
  go_ret
  exact ⟨rfl, Mor.out⟩
set_option maxRecDepth 20000 in
set_option maxHeartbeats 4000000 in
theorem eend_no (M B : Nat) (m : MkS) (W : World) (h : MkIs W M B m) (no : m.some = false) :
    Calls Try.prog 15 #[.pointer (some ⟨M, 0, none⟩)] W fun e w' => e = .returned (.tuple #[.agg epz, .bool false]) ∧ Mo W w' := by
  have bM := h.bm
  rw [no] at bM
  clear h
  go_enter Try.func15, Try.ntmps15
  go_upto_region 2 with (fail)
  refine wp_name ?_
  intro w1 hw1
  have b1 : Blk w1 W.heap.size 38 epz := by rw [hw1]; infer_instance
  have M1 : Mo W w1 := by rw [hw1]; exact Mor.out
  clear hw1
  go_wp2_with fail
  refine retV_ct rfl W.heap.size epz rfl rfl rfl (blk_setRow b1) ?_
  exact ⟨rfl, mo_setRow M1 (Nat.le_refl _) _⟩
set_option maxRecDepth 20000 in
set_option maxHeartbeats 4000000 in
theorem eend_nil (W : World) : Calls Try.prog 15 #[.pointer none] W fun e w' => e = .returned (.tuple #[.agg epz, .bool false]) ∧ Mo W w' := by
  go_enter Try.func15, Try.ntmps15
  go_upto_region 2 with (fail)
  refine wp_name ?_
  intro w1 hw1
  have b1 : Blk w1 W.heap.size 38 epz := by rw [hw1]; infer_instance
  have M1 : Mo W w1 := by rw [hw1]; exact Mor.out
  clear hw1
  go_wp2_with fail
  refine retV_ct rfl W.heap.size epz rfl rfl rfl (blk_setRow b1) ?_
  exact ⟨rfl, mo_setRow M1 (Nat.le_refl _) _⟩
set_option maxRecDepth 20000 in
set_option maxHeartbeats 4000000 in
theorem eend_yes (M B : Nat) (m : MkS) (W : World) (h : MkIs W M B m) (yes : m.some = true) :
    Calls Try.prog 15 #[.pointer (some ⟨M, 0, none⟩)] W fun e w' => ∃ E v, IsTold m.num m.sv m.f E ∧ e = .returned (.tuple #[v, .bool true]) ∧ EpF w' E v ∧ Mo W w' := by
  have bM := h.bm
  rw [yes] at bM
  have TD := Lib.hid (fun w (k : Mo W w) => told_any M B m w (h.mo k))
  clear h yes
  go_enter Try.func15, Try.ntmps15
  go_wp2_with fail
  refine (TD.out _ Mor.out).mono ?_
  rintro e w1 ⟨E, v, hE, rfl, hF, M1⟩
  have b1 : Blk w1 W.heap.size 38 epz := M1.blk inferInstance
  have N1 := (Mor.out : Mo W _).trans M1
  obtain ⟨A, c, D, d, rfl, I1, I2⟩ := hF
  have HE := Lib.hid hE
  have HI1 := Lib.hid I1
  have HI2 := Lib.hid I2
  clear hE I1 I2 M1 TD
  go_wp2_with fail
  refine retV_ct rfl W.heap.size #[.int .i64 E.num, .slice A E.srv.length c, .bool E.maj, .int .i64 E.lo, .int .i64 E.hi, .int .i64 (E.fl : Nat), .slice D E.tr.length d] rfl rfl rfl (blk_setRow b1) ?_
  exact ⟨E, _, HE.out, rfl, ⟨A, c, D, d, rfl, HI1.out.setRow b1 (by decide) _, HI2.out.setRow b1 (by decide) _⟩, mo_setRow N1 (Nat.le_refl _) _⟩
/-! ### Put -/
set_option maxRecDepth 20000 in
theorem arr2_35 {cs : Array Value} (h : cs.size = 2) : ∃ a b, cs = #[a, b] := by
  match e : cs.toList, (by rw [Array.length_toList]; exact h : cs.toList.length = 2) with
  | [a, b], _ => exact ⟨a, b, Array.toList_inj.1 e⟩
set_option maxRecDepth 20000 in
set_option maxHeartbeats 4000000 in
theorem eput_nil (s o d : Int) (C : Array Value) (W : World) (zc : SzA C 2) :
    Calls Try.prog 11 #[.pointer none, .int .i64 s, .agg C, .int .i64 o, .int .i64 d] W fun e w' => e = .returned (.tuple #[.agg epz, .bool false, .int .u8 0]) ∧ Mo W w' := by
  obtain ⟨a, b, rfl⟩ := arr2_35 zc.out
  go_enter Try.func11, Try.ntmps11
  go_upto_region 2 with (fail)
  refine wp_name ?_
  intro w1 hw1
  have b1 : Blk w1 (W.heap.size + 1) 38 epz := by rw [hw1]; infer_instance
  have M1 : Mo W w1 := by rw [hw1]; exact Mor.out
  clear hw1
  go_wp2_with fail
  refine retV_ctt rfl (W.heap.size + 1) epz rfl rfl rfl (blk_setRow b1) ?_
  exact ⟨rfl, mo_setRow M1 (by omega) _⟩
set_option maxRecDepth 20000 in
set_option maxHeartbeats 4000000 in
theorem eput_other (M B : Nat) (m : MkS) (s a o d : Int) (W : World) (h : MkIs W M B m) (c : s < 0 ∨ (m.sv : Int) ≤ s) :
    Calls Try.prog 11 #[.pointer (some ⟨M, 0, none⟩), .int .i64 s, WV a, .int .i64 o, .int .i64 d] W fun e w' => e = .returned (.tuple #[.agg epz, .bool false, .int .u8 3]) ∧ Mo W w' := by
  have bM := h.bm
  clear h
  by_cases c1 : s < 0
  · have d1 : decide (s < 0) = true := decide_eq_true c1
    clear c
    go_enter Try.func11, Try.ntmps11
    go_upto_region 4 with (fail)
    refine wp_name ?_
    intro w1 hw1
    have b1 : Blk w1 (W.heap.size + 1) 38 epz := by rw [hw1]; infer_instance
    have M1 : Mo W w1 := by rw [hw1]; exact Mor.out
    clear hw1
    go_wp2_with fail
    refine retV_ctt rfl (W.heap.size + 1) epz rfl rfl rfl (blk_setRow b1) ?_
    exact ⟨rfl, mo_setRow M1 (by omega) _⟩
  · have d1 : decide (s < 0) = false := decide_eq_false c1
    have d2 : decide ((m.sv : Int) ≤ s) = true := decide_eq_true (by omega)
    clear c
    go_enter Try.func11, Try.ntmps11
    go_upto_region 4 with (fail)
    refine wp_name ?_
    intro w1 hw1
    have b1 : Blk w1 (W.heap.size + 1) 38 epz := by rw [hw1]; infer_instance
    have M1 : Mo W w1 := by rw [hw1]; exact Mor.out
    clear hw1
    go_wp2_with fail
    refine retV_ctt rfl (W.heap.size + 1) epz rfl rfl rfl (blk_setRow b1) ?_
    exact ⟨rfl, mo_setRow M1 (by omega) _⟩
set_option maxRecDepth 20000 in
/-- what Put does first: the moment's number -/
theorem nOf_clip (wd a : Int) : nOf wd a = clip (a / wd) := rfl
set_option maxRecDepth 20000 in
set_option maxHeartbeats 8000000 in
theorem eput_late (M B n : Nat) (m : MkS) (a o d : Int) (W : World) (h : MkIs W M B m) (hn : n < m.sv) (ha : InW a) (sm : m.some = true) (lt : nOf m.wd a < m.num) :
    Calls Try.prog 11 #[.pointer (some ⟨M, 0, none⟩), .int .i64 (n : Int), WV a, .int .i64 o, .int .i64 d] W fun e w' => e = .returned (.tuple #[.agg epz, .bool false, .int .u8 2]) ∧ Mo W w' := by
  have bM := h.bm
  have hwd := h.w0
  have hwd1 := h.w1
  have hs1 := h.s1
  have HM := Lib.hid h
  have wW : IntKind.u64.wrap m.wd = m.wd := by rw [IntKind.wrap_u64]; omega
  have iq : InW (a / m.wd) := inW_div ha hwd
  have DV := Lib.hid (fun w => div_any a m.wd ha (by omega) (by omega) w)
  have CL : Hid (∀ w, Calls Try.prog 24 #[.agg #[.int .i64 (hiW (a / m.wd)), .int .u64 (loW (a / m.wd))]] w fun e w' => e = .returned (.int .i64 (nOf m.wd a)) ∧ Mo w w') := Lib.hid (fun w => clip_any (a / m.wd) iq w)
  have d1 : decide ((n : Int) < 0) = false := decide_eq_false (by omega)
  have d2 : decide ((m.sv : Int) ≤ n) = false := decide_eq_false (by omega)
  generalize a / m.wd = q at *
  generalize nOf m.wd a = nO at *
  clear iq
  go_enter Try.func11, Try.ntmps11
  --@@ r5
  go_upto_region 5 with (fail)
  refine wp_name ?_
  intro w1 hw1
  have b7 : Blk w1 W.heap.size 33 #[.int .i64 (hiW a), .int .u64 (loW a)] := by rw [hw1]; infer_instance
  have b10 : Blk w1 (W.heap.size + 1) 38 epz := by rw [hw1]; infer_instance
  have M1 : Mo W w1 := by rw [hw1]; exact Mor.out
  have bM1 := M1.blk bM
  clear hw1 bM
  go_cut [13] (fun s13 wx => ∃ g, s13 = .pointer (some ⟨g, 0, none⟩) ∧ Mo w1 wx ∧ Blk wx g 33 #[.int .i64 (hiW q), .int .u64 (loW q)])
  case first =>
    go_region_held3 (fun w' => MoC w1 w') (first | exact ⟨Mor.out⟩ | exact ⟨mo_setCell (mo_setCell Mor.out (Mo.size Mor.out) _ _) (Mo.size Mor.out) _ _⟩)
      (first
        | ((with_reducible refine (DV.out _).mono ?_)
           rintro e wz ⟨rfl, M9⟩
           have iM9 : MoC _ wz := ⟨M9⟩
           have iR9 : Mor w1 wz := ⟨(Mor.out : Mo w1 _).trans M9⟩))
    all_goals (
      go_wp2_with fail
      go_meet
      first
      | exact ⟨_, rfl, Mor.out, inferInstance⟩
      | exact ⟨_, rfl, mo_setCell (mo_setCell Mor.out (Mo.size Mor.out) _ _) (Mo.size Mor.out) _ _, blk_setCell (blk_setCell (inferInstance : Blk _ _ 33 #[.int .i64 0, .int .u64 0]) 0 _) 1 _⟩)
  obtain ⟨g13, rfl, M12, b13⟩ := hcut
  rename World => w2
  have bM2 := M12.blk bM1
  have b10 := M12.blk b10
  have N2 := M1.trans M12
  clear bM1 b7 M12
  --@@ clip
  go_wp2_with fail
  refine (CL.out _).mono ?_
  rintro e w3 ⟨rfl, M23⟩
  have bM3 := M23.blk bM2
  have b10 := M23.blk b10
  have N3 := N2.trans M23
  clear bM2 b13 M23 CL DV
  have d3 : decide (nO < m.num) = true := decide_eq_true lt
  rw [sm] at bM3
  go_upto_region 8 with (fail)
  refine wp_name ?_
  intro w4 hw4
  have b4 : Blk w4 (W.heap.size + 1) 38 epz := by rw [hw4]; exact b10
  have M4 : Mo W w4 := by rw [hw4]; exact N3
  clear hw4
  go_wp2_with fail
  refine retV_ctt rfl (W.heap.size + 1) epz rfl rfl rfl (blk_setRow b4) ?_
  exact ⟨rfl, mo_setRow M4 (by omega) _⟩
set_option maxRecDepth 20000 in
theorem bestPut_ok {F : BestF} {n : Nat} {o d : Int} (h : ∀ s x, F s = some x → Is64 x.1 ∧ Is64 x.2) (ho : Is64 o) (hd : Is64 d) : ∀ s x, bestPut F n o d s = some x → Is64 x.1 ∧ Is64 x.2 := fun s x e => by
  by_cases c : s = n
  · subst c
    rw [bestPut_same] at e
    cases hf : F s with
    | none => rw [hf] at e; simp only [Option.some.injEq] at e; rw [← e]; exact ⟨ho, hd⟩
    | some y =>
      rw [hf] at e
      simp only at e
      split at e
      · simp only [Option.some.injEq] at e; rw [← e]; exact ⟨ho, hd⟩
      · injection e with e
        rw [← e]
        exact h s y hf
  · rw [bestPut_other _ _ c] at e
    exact h s x e
set_option maxRecDepth 20000 in
set_option maxHeartbeats 8000000 in
theorem eput_same (M B n : Nat) (m : MkS) (a o d : Int) (W : World) (h : MkIs W M B m) (hn : n < m.sv) (ha : InW a) (ho : Is64 o) (hd : Is64 d) (c : m.some = true → nOf m.wd a = m.num) :
    Calls Try.prog 11 #[.pointer (some ⟨M, 0, none⟩), .int .i64 (n : Int), WV a, .int .i64 o, .int .i64 d] W fun e w' => e = .returned (.tuple #[.agg epz, .bool false, .int .u8 1]) ∧ MkIs w' M B { m with some := true, num := nOf m.wd a, f := bestPut m.f n o d } ∧ KpS (fun i => i = M ∨ i = B) W w' := by
  have bM := h.bm
  have hwd := h.w0
  have hwd1 := h.w1
  have hs1 := h.s1
  have HM := Lib.hid h
  have wW : IntKind.u64.wrap m.wd = m.wd := by rw [IntKind.wrap_u64]; omega
  have iq : InW (a / m.wd) := inW_div ha hwd
  have DV := Lib.hid (fun w => div_any a m.wd ha (by omega) (by omega) w)
  have CL : Hid (∀ w, Calls Try.prog 24 #[.agg #[.int .i64 (hiW (a / m.wd)), .int .u64 (loW (a / m.wd))]] w fun e w' => e = .returned (.int .i64 (nOf m.wd a)) ∧ Mo w w') := Lib.hid (fun w => clip_any (a / m.wd) iq w)
  have d1 : decide ((n : Int) < 0) = false := decide_eq_false (by omega)
  have d2 : decide ((m.sv : Int) ≤ n) = false := decide_eq_false (by omega)
  generalize a / m.wd = q at *
  generalize nOf m.wd a = nO at *
  clear iq
  go_enter Try.func11, Try.ntmps11
  --@@ r5
  go_upto_region 5 with (fail)
  refine wp_name ?_
  intro w1 hw1
  have b7 : Blk w1 W.heap.size 33 #[.int .i64 (hiW a), .int .u64 (loW a)] := by rw [hw1]; infer_instance
  have b10 : Blk w1 (W.heap.size + 1) 38 epz := by rw [hw1]; infer_instance
  have M1 : Mo W w1 := by rw [hw1]; exact Mor.out
  have bM1 := M1.blk bM
  clear hw1 bM
  go_cut [13] (fun s13 wx => ∃ g, s13 = .pointer (some ⟨g, 0, none⟩) ∧ Mo w1 wx ∧ Blk wx g 33 #[.int .i64 (hiW q), .int .u64 (loW q)])
  case first =>
    go_region_held3 (fun w' => MoC w1 w') (first | exact ⟨Mor.out⟩ | exact ⟨mo_setCell (mo_setCell Mor.out (Mo.size Mor.out) _ _) (Mo.size Mor.out) _ _⟩)
      (first
        | ((with_reducible refine (DV.out _).mono ?_)
           rintro e wz ⟨rfl, M9⟩
           have iM9 : MoC _ wz := ⟨M9⟩
           have iR9 : Mor w1 wz := ⟨(Mor.out : Mo w1 _).trans M9⟩))
    all_goals (
      go_wp2_with fail
      go_meet
      first
      | exact ⟨_, rfl, Mor.out, inferInstance⟩
      | exact ⟨_, rfl, mo_setCell (mo_setCell Mor.out (Mo.size Mor.out) _ _) (Mo.size Mor.out) _ _, blk_setCell (blk_setCell (inferInstance : Blk _ _ 33 #[.int .i64 0, .int .u64 0]) 0 _) 1 _⟩)
  obtain ⟨g13, rfl, M12, b13⟩ := hcut
  rename World => w2
  have bM2 := M12.blk bM1
  have b10 := M12.blk b10
  have N2 := M1.trans M12
  clear bM1 b7 M12
  --@@ clip
  go_wp2_with fail
  refine (CL.out _).mono ?_
  rintro e w3 ⟨rfl, M23⟩
  have bM3 := M23.blk bM2
  have b10 := M23.blk b10
  have N3 := N2.trans M23
  clear bM2 b13 M23 CL DV
  have neMB := HM.out.ne
  have ltM := HM.out.bm.lt
  have ltB := HM.out.b.lt
  have neRB : W.heap.size + 1 ≠ B := by omega
  have neRM : W.heap.size + 1 ≠ M := by omega
  have OKF : Hid (∀ s x, bestPut m.f n o d s = some x → Is64 x.1 ∧ Is64 x.2) := Lib.hid (bestPut_ok h.ok ho hd)
  have B3 : BestIs w3 B m.sv m.f := HM.out.b.keep (N3.below.block B ltB)
  cases sm : m.some with
  | false =>
    rw [sm] at bM3
    clear c sm
    have b4 := b10
    have K4 : KpS (fun i => i = M ∨ i = B) W w3 := KpS.of_mo N3
    have B4 := B3
    have E4 : EpF w3 ep0 (.agg epz) := EpF.zero w3
    have bM4 := bM3
    generalize w3 = w4 at *
    clear bM3 B3 b10 N3 N2
    go_upto_region 13 with (fail)
    refine wp_name ?_
    intro w5 hw5
    have bM5 : Blk w5 M 54 #[.int .i64 m.wd, .int .i64 (m.sv : Nat), .bool true, .int .i64 nO, .map (some B)] := by rw [hw5]; exact ⟨(blk_setCell (blk_setCell bM4 2 (.bool true)) 3 (.int .i64 nO)).out⟩
    have b5 : Blk w5 (W.heap.size + 1) 38 epz := by rw [hw5]; exact ⟨(blk_setCell_ne (blk_setCell_ne b4 (show M ≠ W.heap.size + 1 by omega) 2 (.bool true)) (show M ≠ W.heap.size + 1 by omega) 3 (.int .i64 nO)).out⟩
    have K45 : KpS (fun i => i = M) w4 w5 := by rw [hw5]; first | exact ((KpS.refl (fun i => i = M) w4).cell rfl 2 _).cell rfl 3 _ | exact (((KpS.refl (fun i => i = M) w4).cell rfl 2 _).cell rfl 3 _).drew35
    have K5 : KpS (fun i => i = M ∨ i = B) W w5 := K4.trans (K45.mono fun _ _ q => .inl q) fun _ _ q => q
    have B5 : BestIs w5 B m.sv m.f := B4.keep (K45.block B B4.lt (Ne.symm neMB))
    have E5 := Lib.hid (E4.kp K45 fun g e => by rw [e]; exact noT_blk bM4 (by decide))
    clear hw5 b4 bM4 K4 K45 B4 E4
    cases hf : m.f n with
    | none =>
      have lk := B5.no hf (by omega)
      go_upto_region 15 with (fail)
      refine wp_name ?_
      intro w6 hw6
      have M56 : Mo w5 w6 := by rw [hw6]; exact Mor.out
      have bM6 := M56.blk bM5
      have b6 := M56.blk b5
      have K6 := K5.trans (KpS.of_mo M56 : KpS (fun i => i = M ∨ i = B) w5 w6) fun _ _ q => q
      have B6 : BestIs w6 B m.sv m.f := B5.keep (M56.below.block B B5.lt)
      obtain ⟨w7, hst, B7, T7⟩ := B6.store hn (by omega) (o, d)
      replace hst : (Instr.mapUpdate 52 (.map (some B)) (.int .i64 n) (.agg #[.int .i64 o, .int .i64 d])).run Try.prog w6 = .ok () w7 := hst
      have K67 : KpS (fun i => i = B) w6 w7 := KpS.of_row T7.grown rfl
      have bM7 := K67.blk bM6 neMB
      have b7 := K67.blk b6 neRB
      have K7 := K6.trans (K67.mono (S' := fun i => i = M ∨ i = B) fun _ _ q => .inr q) fun _ _ q => q
      have E7 := Lib.hid ((E5.out.mo M56).kp K67 fun g e => by rw [e]; exact noT_map B6.isMap)
      have HB7 := Lib.hid (show BestIs w7 B m.sv (bestPut m.f n o d) by unfold bestPut; rw [hf]; exact B7)
      clear hw6 b6 bM5 b5 K6 K5 B6 B5 E5 B7 T7 K67 M56
      go_wp2_with fail
      refine retV_ctt rfl (W.heap.size + 1) epz rfl rfl rfl (blk_setRow b7) ?_
      have bMf := blk_setRow_ne (cs' := epz) bM7 neRM
      have BBf : BestIs (w7.setRow (W.heap.size + 1) epz) B m.sv (bestPut m.f n o d) := HB7.out.keep (setRow_get_ne _ _ _ _ neRB)
      have Kf : KpS (fun i => i = M ∨ i = B) W (w7.setRow (W.heap.size + 1) epz) := ⟨K7.os, K7.tape, K7.output, by rw [setRow_size']; exact K7.size, fun k hk nk => (setRow_get_ne _ _ _ _ (by omega)).trans (K7.block k hk nk)⟩
      have Ef : EpF (w7.setRow (W.heap.size + 1) epz) ep0 (.agg epz) := by obtain ⟨A, c, D, d, e, h1, h2⟩ := E7.out; exact ⟨A, c, D, d, e, h1.setRow b7 (by decide) _, h2.setRow b7 (by decide) _⟩
      refine ⟨rfl, ⟨bMf, BBf, HM.out.s0, HM.out.s1, HM.out.w0, HM.out.w1, OKF.out⟩, Kf⟩
    | some x =>
      have lk := B5.yes hf (by omega)
      obtain ⟨xo, xd⟩ := x
      by_cases cd : d < xd
      · have d9 : decide (d < xd) = true := decide_eq_true cd
        go_upto_region 15 with (fail)
        refine wp_name ?_
        intro w6 hw6
        have M56 : Mo w5 w6 := by rw [hw6]; exact Mor.out
        have bM6 := M56.blk bM5
        have b6 := M56.blk b5
        have K6 := K5.trans (KpS.of_mo M56 : KpS (fun i => i = M ∨ i = B) w5 w6) fun _ _ q => q
        have B6 : BestIs w6 B m.sv m.f := B5.keep (M56.below.block B B5.lt)
        obtain ⟨w7, hst, B7, T7⟩ := B6.store hn (by omega) (o, d)
        replace hst : (Instr.mapUpdate 52 (.map (some B)) (.int .i64 n) (.agg #[.int .i64 o, .int .i64 d])).run Try.prog w6 = .ok () w7 := hst
        have K67 : KpS (fun i => i = B) w6 w7 := KpS.of_row T7.grown rfl
        have bM7 := K67.blk bM6 neMB
        have b7 := K67.blk b6 neRB
        have K7 := K6.trans (K67.mono (S' := fun i => i = M ∨ i = B) fun _ _ q => .inr q) fun _ _ q => q
        have E7 := Lib.hid ((E5.out.mo M56).kp K67 fun g e => by rw [e]; exact noT_map B6.isMap)
        have HB7 := Lib.hid (show BestIs w7 B m.sv (bestPut m.f n o d) by unfold bestPut; rw [hf]; simp only; rw [if_pos cd]; exact B7)
        clear hw6 b6 bM5 b5 K6 K5 B6 B5 E5 B7 T7 K67 M56
        go_wp2_with fail
        refine retV_ctt rfl (W.heap.size + 1) epz rfl rfl rfl (blk_setRow b7) ?_
        have bMf := blk_setRow_ne (cs' := epz) bM7 neRM
        have BBf : BestIs (w7.setRow (W.heap.size + 1) epz) B m.sv (bestPut m.f n o d) := HB7.out.keep (setRow_get_ne _ _ _ _ neRB)
        have Kf : KpS (fun i => i = M ∨ i = B) W (w7.setRow (W.heap.size + 1) epz) := ⟨K7.os, K7.tape, K7.output, by rw [setRow_size']; exact K7.size, fun k hk nk => (setRow_get_ne _ _ _ _ (by omega)).trans (K7.block k hk nk)⟩
        have Ef : EpF (w7.setRow (W.heap.size + 1) epz) ep0 (.agg epz) := by obtain ⟨A, c, D, d, e, h1, h2⟩ := E7.out; exact ⟨A, c, D, d, e, h1.setRow b7 (by decide) _, h2.setRow b7 (by decide) _⟩
        refine ⟨rfl, ⟨bMf, BBf, HM.out.s0, HM.out.s1, HM.out.w0, HM.out.w1, OKF.out⟩, Kf⟩
      · have d9 : decide (d < xd) = false := decide_eq_false cd
        go_upto_region 16 with (fail)
        refine wp_name ?_
        intro w6 hw6
        have M56 : Mo w5 w6 := by rw [hw6]; exact Mor.out
        have bM6 := M56.blk bM5
        have b6 := M56.blk b5
        have K6 := K5.trans (KpS.of_mo M56 : KpS (fun i => i = M ∨ i = B) w5 w6) fun _ _ q => q
        have E6 := Lib.hid (E5.out.mo M56)
        have HB6 := Lib.hid (show BestIs w6 B m.sv (bestPut m.f n o d) by unfold bestPut; rw [hf]; simp only; rw [if_neg cd]; exact B5.keep (M56.below.block B B5.lt))
        clear hw6 bM5 b5 K5 B5 E5 M56
        go_wp2_with fail
        refine retV_ctt rfl (W.heap.size + 1) epz rfl rfl rfl (blk_setRow b6) ?_
        have bMf := blk_setRow_ne (cs' := epz) bM6 neRM
        have BBf : BestIs (w6.setRow (W.heap.size + 1) epz) B m.sv (bestPut m.f n o d) := HB6.out.keep (setRow_get_ne _ _ _ _ neRB)
        have Kf : KpS (fun i => i = M ∨ i = B) W (w6.setRow (W.heap.size + 1) epz) := ⟨K6.os, K6.tape, K6.output, by rw [setRow_size']; exact K6.size, fun k hk nk => (setRow_get_ne _ _ _ _ (by omega)).trans (K6.block k hk nk)⟩
        have Ef : EpF (w6.setRow (W.heap.size + 1) epz) ep0 (.agg epz) := by obtain ⟨A, c, D, d, e, h1, h2⟩ := E6.out; exact ⟨A, c, D, d, e, h1.setRow b6 (by decide) _, h2.setRow b6 (by decide) _⟩
        refine ⟨rfl, ⟨bMf, BBf, HM.out.s0, HM.out.s1, HM.out.w0, HM.out.w1, OKF.out⟩, Kf⟩
  | true =>
    have ec := c sm
    rw [sm] at bM3
    have d3 : decide (nO < m.num) = false := decide_eq_false (by omega)
    have d4 : decide (m.num < nO) = false := decide_eq_false (by omega)
    clear c sm ec
    have b4 := b10
    have K4 : KpS (fun i => i = M ∨ i = B) W w3 := KpS.of_mo N3
    have B4 := B3
    have E4 : EpF w3 ep0 (.agg epz) := EpF.zero w3
    have bM4 := bM3
    generalize w3 = w4 at *
    clear bM3 B3 b10 N3 N2
    go_upto_region 13 with (fail)
    refine wp_name ?_
    intro w5 hw5
    have bM5 : Blk w5 M 54 #[.int .i64 m.wd, .int .i64 (m.sv : Nat), .bool true, .int .i64 nO, .map (some B)] := by rw [hw5]; exact ⟨(blk_setCell (blk_setCell bM4 2 (.bool true)) 3 (.int .i64 nO)).out⟩
    have b5 : Blk w5 (W.heap.size + 1) 38 epz := by rw [hw5]; exact ⟨(blk_setCell_ne (blk_setCell_ne b4 (show M ≠ W.heap.size + 1 by omega) 2 (.bool true)) (show M ≠ W.heap.size + 1 by omega) 3 (.int .i64 nO)).out⟩
    have K45 : KpS (fun i => i = M) w4 w5 := by rw [hw5]; first | exact ((KpS.refl (fun i => i = M) w4).cell rfl 2 _).cell rfl 3 _ | exact (((KpS.refl (fun i => i = M) w4).cell rfl 2 _).cell rfl 3 _).drew35
    have K5 : KpS (fun i => i = M ∨ i = B) W w5 := K4.trans (K45.mono fun _ _ q => .inl q) fun _ _ q => q
    have B5 : BestIs w5 B m.sv m.f := B4.keep (K45.block B B4.lt (Ne.symm neMB))
    have E5 := Lib.hid (E4.kp K45 fun g e => by rw [e]; exact noT_blk bM4 (by decide))
    clear hw5 b4 bM4 K4 K45 B4 E4
    cases hf : m.f n with
    | none =>
      have lk := B5.no hf (by omega)
      go_upto_region 15 with (fail)
      refine wp_name ?_
      intro w6 hw6
      have M56 : Mo w5 w6 := by rw [hw6]; exact Mor.out
      have bM6 := M56.blk bM5
      have b6 := M56.blk b5
      have K6 := K5.trans (KpS.of_mo M56 : KpS (fun i => i = M ∨ i = B) w5 w6) fun _ _ q => q
      have B6 : BestIs w6 B m.sv m.f := B5.keep (M56.below.block B B5.lt)
      obtain ⟨w7, hst, B7, T7⟩ := B6.store hn (by omega) (o, d)
      replace hst : (Instr.mapUpdate 52 (.map (some B)) (.int .i64 n) (.agg #[.int .i64 o, .int .i64 d])).run Try.prog w6 = .ok () w7 := hst
      have K67 : KpS (fun i => i = B) w6 w7 := KpS.of_row T7.grown rfl
      have bM7 := K67.blk bM6 neMB
      have b7 := K67.blk b6 neRB
      have K7 := K6.trans (K67.mono (S' := fun i => i = M ∨ i = B) fun _ _ q => .inr q) fun _ _ q => q
      have E7 := Lib.hid ((E5.out.mo M56).kp K67 fun g e => by rw [e]; exact noT_map B6.isMap)
      have HB7 := Lib.hid (show BestIs w7 B m.sv (bestPut m.f n o d) by unfold bestPut; rw [hf]; exact B7)
      clear hw6 b6 bM5 b5 K6 K5 B6 B5 E5 B7 T7 K67 M56
      go_wp2_with fail
      refine retV_ctt rfl (W.heap.size + 1) epz rfl rfl rfl (blk_setRow b7) ?_
      have bMf := blk_setRow_ne (cs' := epz) bM7 neRM
      have BBf : BestIs (w7.setRow (W.heap.size + 1) epz) B m.sv (bestPut m.f n o d) := HB7.out.keep (setRow_get_ne _ _ _ _ neRB)
      have Kf : KpS (fun i => i = M ∨ i = B) W (w7.setRow (W.heap.size + 1) epz) := ⟨K7.os, K7.tape, K7.output, by rw [setRow_size']; exact K7.size, fun k hk nk => (setRow_get_ne _ _ _ _ (by omega)).trans (K7.block k hk nk)⟩
      have Ef : EpF (w7.setRow (W.heap.size + 1) epz) ep0 (.agg epz) := by obtain ⟨A, c, D, d, e, h1, h2⟩ := E7.out; exact ⟨A, c, D, d, e, h1.setRow b7 (by decide) _, h2.setRow b7 (by decide) _⟩
      refine ⟨rfl, ⟨bMf, BBf, HM.out.s0, HM.out.s1, HM.out.w0, HM.out.w1, OKF.out⟩, Kf⟩
    | some x =>
      have lk := B5.yes hf (by omega)
      obtain ⟨xo, xd⟩ := x
      by_cases cd : d < xd
      · have d9 : decide (d < xd) = true := decide_eq_true cd
        go_upto_region 15 with (fail)
        refine wp_name ?_
        intro w6 hw6
        have M56 : Mo w5 w6 := by rw [hw6]; exact Mor.out
        have bM6 := M56.blk bM5
        have b6 := M56.blk b5
        have K6 := K5.trans (KpS.of_mo M56 : KpS (fun i => i = M ∨ i = B) w5 w6) fun _ _ q => q
        have B6 : BestIs w6 B m.sv m.f := B5.keep (M56.below.block B B5.lt)
        obtain ⟨w7, hst, B7, T7⟩ := B6.store hn (by omega) (o, d)
        replace hst : (Instr.mapUpdate 52 (.map (some B)) (.int .i64 n) (.agg #[.int .i64 o, .int .i64 d])).run Try.prog w6 = .ok () w7 := hst
        have K67 : KpS (fun i => i = B) w6 w7 := KpS.of_row T7.grown rfl
        have bM7 := K67.blk bM6 neMB
        have b7 := K67.blk b6 neRB
        have K7 := K6.trans (K67.mono (S' := fun i => i = M ∨ i = B) fun _ _ q => .inr q) fun _ _ q => q
        have E7 := Lib.hid ((E5.out.mo M56).kp K67 fun g e => by rw [e]; exact noT_map B6.isMap)
        have HB7 := Lib.hid (show BestIs w7 B m.sv (bestPut m.f n o d) by unfold bestPut; rw [hf]; simp only; rw [if_pos cd]; exact B7)
        clear hw6 b6 bM5 b5 K6 K5 B6 B5 E5 B7 T7 K67 M56
        go_wp2_with fail
        refine retV_ctt rfl (W.heap.size + 1) epz rfl rfl rfl (blk_setRow b7) ?_
        have bMf := blk_setRow_ne (cs' := epz) bM7 neRM
        have BBf : BestIs (w7.setRow (W.heap.size + 1) epz) B m.sv (bestPut m.f n o d) := HB7.out.keep (setRow_get_ne _ _ _ _ neRB)
        have Kf : KpS (fun i => i = M ∨ i = B) W (w7.setRow (W.heap.size + 1) epz) := ⟨K7.os, K7.tape, K7.output, by rw [setRow_size']; exact K7.size, fun k hk nk => (setRow_get_ne _ _ _ _ (by omega)).trans (K7.block k hk nk)⟩
        have Ef : EpF (w7.setRow (W.heap.size + 1) epz) ep0 (.agg epz) := by obtain ⟨A, c, D, d, e, h1, h2⟩ := E7.out; exact ⟨A, c, D, d, e, h1.setRow b7 (by decide) _, h2.setRow b7 (by decide) _⟩
        refine ⟨rfl, ⟨bMf, BBf, HM.out.s0, HM.out.s1, HM.out.w0, HM.out.w1, OKF.out⟩, Kf⟩
      · have d9 : decide (d < xd) = false := decide_eq_false cd
        go_upto_region 16 with (fail)
        refine wp_name ?_
        intro w6 hw6
        have M56 : Mo w5 w6 := by rw [hw6]; exact Mor.out
        have bM6 := M56.blk bM5
        have b6 := M56.blk b5
        have K6 := K5.trans (KpS.of_mo M56 : KpS (fun i => i = M ∨ i = B) w5 w6) fun _ _ q => q
        have E6 := Lib.hid (E5.out.mo M56)
        have HB6 := Lib.hid (show BestIs w6 B m.sv (bestPut m.f n o d) by unfold bestPut; rw [hf]; simp only; rw [if_neg cd]; exact B5.keep (M56.below.block B B5.lt))
        clear hw6 bM5 b5 K5 B5 E5 M56
        go_wp2_with fail
        refine retV_ctt rfl (W.heap.size + 1) epz rfl rfl rfl (blk_setRow b6) ?_
        have bMf := blk_setRow_ne (cs' := epz) bM6 neRM
        have BBf : BestIs (w6.setRow (W.heap.size + 1) epz) B m.sv (bestPut m.f n o d) := HB6.out.keep (setRow_get_ne _ _ _ _ neRB)
        have Kf : KpS (fun i => i = M ∨ i = B) W (w6.setRow (W.heap.size + 1) epz) := ⟨K6.os, K6.tape, K6.output, by rw [setRow_size']; exact K6.size, fun k hk nk => (setRow_get_ne _ _ _ _ (by omega)).trans (K6.block k hk nk)⟩
        have Ef : EpF (w6.setRow (W.heap.size + 1) epz) ep0 (.agg epz) := by obtain ⟨A, c, D, d, e, h1, h2⟩ := E6.out; exact ⟨A, c, D, d, e, h1.setRow b6 (by decide) _, h2.setRow b6 (by decide) _⟩
        refine ⟨rfl, ⟨bMf, BBf, HM.out.s0, HM.out.s1, HM.out.w0, HM.out.w1, OKF.out⟩, Kf⟩
set_option maxRecDepth 20000 in
set_option maxHeartbeats 8000000 in
theorem eput_end (M B n : Nat) (m : MkS) (a o d : Int) (W : World) (h : MkIs W M B m) (hn : n < m.sv) (ha : InW a) (ho : Is64 o) (hd : Is64 d) (sm : m.some = true) (lt : m.num < nOf m.wd a) :
    Calls Try.prog 11 #[.pointer (some ⟨M, 0, none⟩), .int .i64 (n : Int), WV a, .int .i64 o, .int .i64 d] W fun e w' => ∃ E v, IsTold m.num m.sv m.f E ∧ e = .returned (.tuple #[v, .bool true, .int .u8 1]) ∧ EpF w' E v ∧ MkIs w' M B { m with some := true, num := nOf m.wd a, f := bestPut b0F n o d } ∧ KpS (fun i => i = M ∨ i = B) W w' := by
  have bM := h.bm
  have hwd := h.w0
  have hwd1 := h.w1
  have hs1 := h.s1
  have HM := Lib.hid h
  have wW : IntKind.u64.wrap m.wd = m.wd := by rw [IntKind.wrap_u64]; omega
  have iq : InW (a / m.wd) := inW_div ha hwd
  have DV := Lib.hid (fun w => div_any a m.wd ha (by omega) (by omega) w)
  have CL : Hid (∀ w, Calls Try.prog 24 #[.agg #[.int .i64 (hiW (a / m.wd)), .int .u64 (loW (a / m.wd))]] w fun e w' => e = .returned (.int .i64 (nOf m.wd a)) ∧ Mo w w') := Lib.hid (fun w => clip_any (a / m.wd) iq w)
  have d1 : decide ((n : Int) < 0) = false := decide_eq_false (by omega)
  have d2 : decide ((m.sv : Int) ≤ n) = false := decide_eq_false (by omega)
  generalize a / m.wd = q at *
  generalize nOf m.wd a = nO at *
  clear iq
  go_enter Try.func11, Try.ntmps11
  --@@ r5
  go_upto_region 5 with (fail)
  refine wp_name ?_
  intro w1 hw1
  have b7 : Blk w1 W.heap.size 33 #[.int .i64 (hiW a), .int .u64 (loW a)] := by rw [hw1]; infer_instance
  have b10 : Blk w1 (W.heap.size + 1) 38 epz := by rw [hw1]; infer_instance
  have M1 : Mo W w1 := by rw [hw1]; exact Mor.out
  have bM1 := M1.blk bM
  clear hw1 bM
  go_cut [13] (fun s13 wx => ∃ g, s13 = .pointer (some ⟨g, 0, none⟩) ∧ Mo w1 wx ∧ Blk wx g 33 #[.int .i64 (hiW q), .int .u64 (loW q)])
  case first =>
    go_region_held3 (fun w' => MoC w1 w') (first | exact ⟨Mor.out⟩ | exact ⟨mo_setCell (mo_setCell Mor.out (Mo.size Mor.out) _ _) (Mo.size Mor.out) _ _⟩)
      (first
        | ((with_reducible refine (DV.out _).mono ?_)
           rintro e wz ⟨rfl, M9⟩
           have iM9 : MoC _ wz := ⟨M9⟩
           have iR9 : Mor w1 wz := ⟨(Mor.out : Mo w1 _).trans M9⟩))
    all_goals (
      go_wp2_with fail
      go_meet
      first
      | exact ⟨_, rfl, Mor.out, inferInstance⟩
      | exact ⟨_, rfl, mo_setCell (mo_setCell Mor.out (Mo.size Mor.out) _ _) (Mo.size Mor.out) _ _, blk_setCell (blk_setCell (inferInstance : Blk _ _ 33 #[.int .i64 0, .int .u64 0]) 0 _) 1 _⟩)
  obtain ⟨g13, rfl, M12, b13⟩ := hcut
  rename World => w2
  have bM2 := M12.blk bM1
  have b10 := M12.blk b10
  have N2 := M1.trans M12
  clear bM1 b7 M12
  --@@ clip
  go_wp2_with fail
  refine (CL.out _).mono ?_
  rintro e w3 ⟨rfl, M23⟩
  have bM3 := M23.blk bM2
  have b10 := M23.blk b10
  have N3 := N2.trans M23
  clear bM2 b13 M23 CL DV
  have neMB := HM.out.ne
  have ltM := HM.out.bm.lt
  have ltB := HM.out.b.lt
  have neRB : W.heap.size + 1 ≠ B := by omega
  have neRM : W.heap.size + 1 ≠ M := by omega
  have OKF : Hid (∀ s x, bestPut b0F n o d s = some x → Is64 x.1 ∧ Is64 x.2) := Lib.hid (bestPut_ok (fun s x e => by cases e) ho hd)
  have B3 : BestIs w3 B m.sv m.f := HM.out.b.keep (N3.below.block B ltB)
  rw [sm] at bM3
  have d3 : decide (nO < m.num) = false := decide_eq_false (by omega)
  have d4 : decide (m.num < nO) = true := decide_eq_true lt
  have TD := Lib.hid (fun w (k : Mo W w) => told_any M B m w (HM.out.mo k))
  clear sm lt
  --@@ told
  go_wp2_with fail
  refine (TD.out _ N3).mono ?_
  rintro e w4 ⟨E, v, hE, rfl, ⟨A, c, D, c2, rfl, I1, I2⟩, M34⟩
  have HE := Lib.hid hE
  have bM4 := M34.blk bM3
  have b4 := M34.blk b10
  have N4 := N3.trans M34
  have B4 := B3.keep (M34.below.block B B3.lt)
  clear hE M34 N3 bM3 b10 B3 TD
  obtain ⟨en, es, ej, el, eh, ef, et⟩ := E
  simp only at I1 I2 ⊢
  obtain ⟨eN, hN⟩ : ∃ x, es.length = x := ⟨_, rfl⟩
  obtain ⟨eT, hT⟩ : ∃ x, et.length = x := ⟨_, rfl⟩
  have HN := Lib.hid hN
  have HT := Lib.hid hT
  rw [hN, hT]
  clear hN hT
  --@@ r11
  go_upto_region 11 with (fail)
  refine wp_name ?_
  intro w40 hw40
  have b40 : Blk w40 (W.heap.size + 1) 38 #[.int .i64 en, .slice A eN c, .bool ej, .int .i64 el, .int .i64 eh, .int .i64 ef, .slice D eT c2] := by rw [hw40]; exact blk_setRow b4
  have bM40 := (by rw [hw40]; exact blk_setRow_ne bM4 neRM : Blk w40 M 54 #[.int .i64 m.wd, .int .i64 (m.sv : Nat), .bool true, .int .i64 m.num, .map (some B)])
  have J1 : IntT w40 A (natI es) := by rw [hw40]; exact I1.setRow b4 (by decide) _
  have J2 : IntT w40 D (natI et) := by rw [hw40]; exact I2.setRow b4 (by decide) _
  have N40 : Mo W w40 := by rw [hw40]; exact mo_setRow N4 (by omega) _
  have B40 : BestIs w40 B m.sv m.f := by rw [hw40]; exact B4.keep (setRow_get_ne _ _ _ _ neRB)
  clear hw40 b4 bM4 I1 I2 N4 B4
  obtain ⟨w41, hcl, B41, T41⟩ := B40.clear 0
  have K41 : KpS (fun i => i = B) w40 w41 := KpS.of_row T41.grown rfl
  have bM41 := K41.blk bM40 neMB
  have b41 := K41.blk b40 neRB
  have E41 : EpF w41 ⟨en, es, ej, el, eh, ef, et⟩ (.agg #[.int .i64 en, .slice A eN c, .bool ej, .int .i64 el, .int .i64 eh, .int .i64 ef, .slice D eT c2]) := ⟨A, c, D, c2, by rw [← HN.out, ← HT.out], J1.kp K41 fun g e => by rw [e]; exact noT_map B40.isMap, J2.kp K41 fun g e => by rw [e]; exact noT_map B40.isMap⟩
  have KW : KpS (fun i => i = M ∨ i = B) W w41 := (KpS.of_mo N40).trans (K41.mono (S' := fun i => i = M ∨ i = B) fun _ _ q => .inr q) fun _ _ q => q
  --@@ r12
  clear b40 J1 J2 N40 T41 B40 K41
  go_upto_region 12 with (fail)
  have bM4 := bM41
  have b4 := b41
  have K4 := KW
  have B4 := B41
  have E4 := E41
  generalize w41 = w4 at *
  clear bM41 b41 KW B41 E41 bM40 hcl
  go_upto_region 13 with (fail)
  refine wp_name ?_
  intro w5 hw5
  have bM5 : Blk w5 M 54 #[.int .i64 m.wd, .int .i64 (m.sv : Nat), .bool true, .int .i64 nO, .map (some B)] := by rw [hw5]; exact ⟨(blk_setCell (blk_setCell bM4 2 (.bool true)) 3 (.int .i64 nO)).out⟩
  have b5 : Blk w5 (W.heap.size + 1) 38 #[.int .i64 en, .slice A eN c, .bool ej, .int .i64 el, .int .i64 eh, .int .i64 ef, .slice D eT c2] := by rw [hw5]; exact ⟨(blk_setCell_ne (blk_setCell_ne b4 (show M ≠ W.heap.size + 1 by omega) 2 (.bool true)) (show M ≠ W.heap.size + 1 by omega) 3 (.int .i64 nO)).out⟩
  have K45 : KpS (fun i => i = M) w4 w5 := by rw [hw5]; first | exact ((KpS.refl (fun i => i = M) w4).cell rfl 2 _).cell rfl 3 _ | exact (((KpS.refl (fun i => i = M) w4).cell rfl 2 _).cell rfl 3 _).drew35
  have K5 : KpS (fun i => i = M ∨ i = B) W w5 := K4.trans (K45.mono fun _ _ q => .inl q) fun _ _ q => q
  have B5 : BestIs w5 B m.sv b0F := B4.keep (K45.block B B4.lt (Ne.symm neMB))
  have E5 := Lib.hid (E4.kp K45 fun g e => by rw [e]; exact noT_blk bM4 (by decide))
  clear hw5 b4 bM4 K4 K45 B4 E4
  have hf : b0F n = none := rfl
  have lk := B5.no hf (by omega)
  go_upto_region 15 with (fail)
  refine wp_name ?_
  intro w6 hw6
  have M56 : Mo w5 w6 := by rw [hw6]; exact Mor.out
  have bM6 := M56.blk bM5
  have b6 := M56.blk b5
  have K6 := K5.trans (KpS.of_mo M56 : KpS (fun i => i = M ∨ i = B) w5 w6) fun _ _ q => q
  have B6 : BestIs w6 B m.sv b0F := B5.keep (M56.below.block B B5.lt)
  obtain ⟨w7, hst, B7, T7⟩ := B6.store hn (by omega) (o, d)
  replace hst : (Instr.mapUpdate 52 (.map (some B)) (.int .i64 n) (.agg #[.int .i64 o, .int .i64 d])).run Try.prog w6 = .ok () w7 := hst
  have K67 : KpS (fun i => i = B) w6 w7 := KpS.of_row T7.grown rfl
  have bM7 := K67.blk bM6 neMB
  have b7 := K67.blk b6 neRB
  have K7 := K6.trans (K67.mono (S' := fun i => i = M ∨ i = B) fun _ _ q => .inr q) fun _ _ q => q
  have E7 := Lib.hid ((E5.out.mo M56).kp K67 fun g e => by rw [e]; exact noT_map B6.isMap)
  have HB7 := Lib.hid (show BestIs w7 B m.sv (bestPut b0F n o d) by show BestIs w7 B m.sv (putF b0F n (o, d)); exact B7)
  clear hw6 b6 bM5 b5 K6 K5 B6 B5 E5 B7 T7 K67 M56
  go_wp2_with fail
  refine retV_ctt rfl (W.heap.size + 1) #[.int .i64 en, .slice A eN c, .bool ej, .int .i64 el, .int .i64 eh, .int .i64 ef, .slice D eT c2] rfl rfl rfl (blk_setRow b7) ?_
  have bMf := blk_setRow_ne (cs' := #[.int .i64 en, .slice A eN c, .bool ej, .int .i64 el, .int .i64 eh, .int .i64 ef, .slice D eT c2]) bM7 neRM
  have BBf : BestIs (w7.setRow (W.heap.size + 1) #[.int .i64 en, .slice A eN c, .bool ej, .int .i64 el, .int .i64 eh, .int .i64 ef, .slice D eT c2]) B m.sv (bestPut b0F n o d) := HB7.out.keep (setRow_get_ne _ _ _ _ neRB)
  have Kf : KpS (fun i => i = M ∨ i = B) W (w7.setRow (W.heap.size + 1) #[.int .i64 en, .slice A eN c, .bool ej, .int .i64 el, .int .i64 eh, .int .i64 ef, .slice D eT c2]) := ⟨K7.os, K7.tape, K7.output, by rw [setRow_size']; exact K7.size, fun k hk nk => (setRow_get_ne _ _ _ _ (by omega)).trans (K7.block k hk nk)⟩
  have Ef : EpF (w7.setRow (W.heap.size + 1) #[.int .i64 en, .slice A eN c, .bool ej, .int .i64 el, .int .i64 eh, .int .i64 ef, .slice D eT c2]) ⟨en, es, ej, el, eh, ef, et⟩ (.agg #[.int .i64 en, .slice A eN c, .bool ej, .int .i64 el, .int .i64 eh, .int .i64 ef, .slice D eT c2]) := by obtain ⟨A, c, D, d, e, h1, h2⟩ := E7.out; exact ⟨A, c, D, d, e, h1.setRow b7 (by decide) _, h2.setRow b7 (by decide) _⟩
  refine ⟨_, _, HE.out, rfl, Ef, ⟨bMf, BBf, HM.out.s0, HM.out.s1, HM.out.w0, HM.out.w1, OKF.out⟩, Kf⟩
end Go.Proofs.Ytdgmcgfkammioaa
