/- horologelaw35: works (printed in part by a program). -/
import Derived.Test.YtdgmcgfkammioaaEpX
namespace Go.Proofs.Ytdgmcgfkammioaa
open Go.RowKit Go.Maps

def fA : BestF := bestPut b0F 0 5 5
def fB : BestF := bestPut fA 1 8 4
def fC : BestF := bestPut fB 0 100 6
def fD : BestF := bestPut b0F 2 0 1
def wantE : Ep := ⟨0, [0, 1], true, 4, 10, 0, [0, 1]⟩
set_option maxRecDepth 20000 in
theorem keys_C : keysB 3 fC = [0, 1] := by decide
set_option maxRecDepth 20000 in
theorem keys_D : (keysB 3 fD).length = 1 := by decide
set_option maxRecDepth 20000 in
theorem ivs_C : ivsB 3 fC = [⟨0, 10⟩, ⟨4, 12⟩] := by kernel_rfl
set_option maxRecDepth 20000 in
theorem find_C : IsFind ([⟨0, 10⟩, ⟨4, 12⟩] : List Iv) (some (⟨4, 10⟩, 0)) := by
  refine ⟨by decide, isAgr_of (by decide) (by decide) (by decide) fun p h => ?_, fun f hf => absurd hf (Nat.not_lt_zero f)⟩
  unfold had at h
  simp only [List.countP_cons, List.countP_nil, List.length_cons, List.length_nil] at h
  by_cases c1 : (0 : Int) ≤ p <;> by_cases c2 : p ≤ 10 <;> by_cases c3 : (4 : Int) ≤ p <;> by_cases c4 : p ≤ 12 <;> simp [c1, c2, c3, c4] at h <;> exact ⟨c3, c2⟩
set_option maxRecDepth 20000 in
theorem told_C {E : Ep} (h : IsTold 0 3 fC E) : E = wantE := told_uniq h ⟨some (⟨4, 10⟩, 0), by rw [ivs_C]; exact find_C, by rw [keys_C, ivs_C]; rfl⟩
def mA : MkS := ⟨100, 3, true, 0, fA⟩
def mB : MkS := ⟨100, 3, true, 0, fB⟩
def mC : MkS := ⟨100, 3, true, 0, fC⟩
def mD : MkS := ⟨100, 3, true, 1, fD⟩
set_option maxRecDepth 20000 in
theorem n10 : nOf 100 10 = 0 := by decide
set_option maxRecDepth 20000 in
theorem n20 : nOf 100 20 = 0 := by decide
set_option maxRecDepth 20000 in
theorem n30 : nOf 100 30 = 0 := by decide
set_option maxRecDepth 20000 in
theorem n150 : nOf 100 150 = 1 := by decide
set_option maxRecDepth 20000 in
theorem n90 : nOf 100 90 = 0 := by decide
set_option maxRecDepth 20000 in
theorem inW_35 (x : Int) (h : -1000 ≤ x ∧ x ≤ 1000) : InW x := by unfold InW; omega
set_option maxRecDepth 20000 in
theorem is64_35 (x : Int) (h : -1000 ≤ x ∧ x ≤ 1000) : Is64 x := by unfold Is64; omega
abbrev PutF : Nat := 11
abbrev pM (M : Nat) : Value := .pointer (some ⟨M, 0, none⟩)
def Kept35 (M B : Nat) (m : MkS) (w : World) (e : Ending) (w' : World) : Prop := e = .returned (.tuple #[.agg epz, .bool false, .int .u8 1]) ∧ MkIs w' M B m ∧ KpS (fun i => i = M ∨ i = B) w w'
set_option maxRecDepth 20000 in
theorem put_1 (w : World) (M B : Nat) (h : MkIs w M B (mk0 100 3)) : Calls Try.prog PutF #[pM M, .int .i64 0, WV 10, .int .i64 5, .int .i64 5] w (Kept35 M B mA w) := by
  have q := eput_same M B 0 (mk0 100 3) 10 5 5 w h (by decide) (inW_35 _ (by omega)) (is64_35 _ (by omega)) (is64_35 _ (by omega)) (fun c => by cases c)
  rw [show (mk0 100 3).wd = 100 from rfl, n10] at q
  exact q
set_option maxRecDepth 20000 in
theorem put_2 (w : World) (M B : Nat) (h : MkIs w M B mA) : Calls Try.prog PutF #[pM M, .int .i64 1, WV 20, .int .i64 8, .int .i64 4] w (Kept35 M B mB w) := by
  have q := eput_same M B 1 mA 20 8 4 w h (by decide) (inW_35 _ (by omega)) (is64_35 _ (by omega)) (is64_35 _ (by omega)) (fun _ => n20)
  rw [show mA.wd = 100 from rfl, n20] at q
  exact q
set_option maxRecDepth 20000 in
theorem put_3 (w : World) (M B : Nat) (h : MkIs w M B mB) : Calls Try.prog PutF #[pM M, .int .i64 0, WV 30, .int .i64 100, .int .i64 6] w (Kept35 M B mC w) := by
  have q := eput_same M B 0 mB 30 100 6 w h (by decide) (inW_35 _ (by omega)) (is64_35 _ (by omega)) (is64_35 _ (by omega)) (fun _ => n30)
  rw [show mB.wd = 100 from rfl, n30] at q
  exact q
set_option maxRecDepth 20000 in
theorem end_4 (w : World) (M B : Nat) (h : MkIs w M B mC) : Calls Try.prog 15 #[pM M] w fun e w' => ∃ v, e = .returned (.tuple #[v, .bool true]) ∧ EpF w' wantE v ∧ Mo w w' := by
  refine (eend_yes M B mC w h rfl).mono ?_
  rintro e w' ⟨E, v, hE, rfl, hF, hM⟩
  rw [told_C hE] at hF
  exact ⟨v, rfl, hF, hM⟩
set_option maxRecDepth 20000 in
theorem put_5 (w : World) (M B : Nat) (h : MkIs w M B mC) : Calls Try.prog PutF #[pM M, .int .i64 2, WV 150, .int .i64 0, .int .i64 1] w fun e w' => ∃ v, e = .returned (.tuple #[v, .bool true, .int .u8 1]) ∧ EpF w' wantE v ∧ MkIs w' M B mD ∧ KpS (fun i => i = M ∨ i = B) w w' := by
  have q := eput_end M B 2 mC 150 0 1 w h (by decide) (inW_35 _ (by omega)) (is64_35 _ (by omega)) (is64_35 _ (by omega)) rfl (by rw [show mC.wd = 100 from rfl, n150]; decide)
  rw [show mC.wd = 100 from rfl, n150] at q
  refine q.mono ?_
  rintro e w' ⟨E, v, hE, rfl, hF, hI, hK⟩
  rw [told_C hE] at hF
  exact ⟨v, rfl, hF, hI, hK⟩
set_option maxRecDepth 20000 in
theorem put_6 (w : World) (M B : Nat) (h : MkIs w M B mD) : Calls Try.prog PutF #[pM M, .int .i64 1, WV 90, .int .i64 0, .int .i64 0] w fun e w' => e = .returned (.tuple #[.agg epz, .bool false, .int .u8 2]) ∧ Mo w w' :=
  eput_late M B 1 mD 90 0 0 w h (by decide) (inW_35 _ (by omega)) rfl (by rw [show mD.wd = 100 from rfl, n90]; decide)
set_option maxRecDepth 20000 in
theorem put_7 (w : World) (M B : Nat) (h : MkIs w M B mD) : Calls Try.prog PutF #[pM M, .int .i64 3, WV 160, .int .i64 0, .int .i64 0] w fun e w' => e = .returned (.tuple #[.agg epz, .bool false, .int .u8 3]) ∧ Mo w w' :=
  eput_other M B mD 3 160 0 0 w h (.inr (by decide))
set_option maxRecDepth 20000 in
theorem live_8 (w : World) (M B : Nat) (h : MkIs w M B mD) : Calls Try.prog 17 #[pM M] w fun e w' => e = .returned (.int .i64 1) ∧ Mo w w' := by
  have q := elive_any M B mD w h
  rw [show keysB mD.sv mD.f = keysB 3 fD from rfl, keys_D] at q
  exact q
set_option maxRecDepth 20000 in
theorem new_0 (w : World) : Calls Try.prog 10 #[.int .i64 100, .int .i64 3] w fun e w' => ∃ M B, e = .returned (.tuple #[pM M, .int .i64 0]) ∧ w.heap.size ≤ M ∧ w.heap.size ≤ B ∧ MkIs w' M B (mk0 100 3) ∧ Mo w w' := enew_in 100 3 (by omega) (by omega) w
attribute [local go_sem] blk_cell' blk_frozen'
attribute [local go_sem ↓] loadF_ep
attribute [local go_sem] run_loadF0
set_option maxRecDepth 20000 in
set_option maxHeartbeats 8000000 in
theorem works35_any (W : World) : Calls Try.prog 9 #[] W fun e w' => e = .returned (.bool true) ∧ Mo W w' := by
  have OF := Lib.hid (fun x (h : -1000 ≤ x ∧ x ≤ 1000) w => of_any x (by omega) (by omega) w)
  have NW := Lib.hid new_0
  have P1 := Lib.hid put_1
  have P2 := Lib.hid put_2
  have P3 := Lib.hid put_3
  have E4 := Lib.hid end_4
  have P5 := Lib.hid put_5
  have P6 := Lib.hid put_6
  have P7 := Lib.hid put_7
  have L8 := Lib.hid live_8
  have SM := Lib.hid (fun w v v' h h' => same35_any wantE v v' w h h' (by decide) (by decide))
  go_enter Try.func9, Try.ntmps9
  go_wp2_with fail
  refine (NW.out _).mono ?_
  rintro e w0 ⟨M, B, rfl, gM, gB, I0, M0⟩
  go_wp2_with fail
  refine (OF.out 10 (by omega) _).mono ?_
  rintro e w1 ⟨rfl, M1⟩
  have I1 := I0.mo M1
  have N1 := M0.trans M1
  clear I0 M0 M1
  go_wp2_with fail
  refine (P1.out _ _ _ I1).mono ?_
  rintro e w2 ⟨rfl, I2, K2⟩
  have N2 : Mo W w2 := K2.mo N1 fun k _ q => by rcases q with rfl | rfl <;> assumption
  clear I1 N1 K2
  go_wp2_with fail
  refine (OF.out 20 (by omega) _).mono ?_
  rintro e w3 ⟨rfl, M3⟩
  have M23 := (Mor.out : Mo w2 _).trans M3
  have I3 := I2.mo M23
  have N3 := N2.trans M23
  clear I2 N2 M3 M23
  go_wp2_with fail
  refine (P2.out _ _ _ I3).mono ?_
  rintro e w4 ⟨rfl, I4, K4⟩
  have N4 : Mo W w4 := K4.mo N3 fun k _ q => by rcases q with rfl | rfl <;> assumption
  clear I3 N3 K4
  go_wp2_with fail
  refine (OF.out 30 (by omega) _).mono ?_
  rintro e w5 ⟨rfl, M5⟩
  have M45 := (Mor.out : Mo w4 _).trans M5
  have I5 := I4.mo M45
  have N5 := N4.trans M45
  clear I4 N4 M5 M45
  go_wp2_with fail
  refine (P3.out _ _ _ I5).mono ?_
  rintro e w6 ⟨rfl, I6, K6⟩
  have N6 : Mo W w6 := K6.mo N5 fun k _ q => by rcases q with rfl | rfl <;> assumption
  clear I5 N5 K6
  go_upto_region 8 with (fail)
  refine wp_name ?_
  intro w7 hw7
  have M67 : Mo w6 w7 := by rw [hw7]; exact Mor.out
  have b12 : Blk w7 (w6.heap.size + 1 + 1 + 1) 38 #[.int .i64 0, .slice (some ⟨w6.heap.size + 1, 0, none⟩) 2 2, .bool true, .int .i64 4, .int .i64 10, .int .i64 0, .slice (some ⟨w6.heap.size + 1 + 1, 0, none⟩) 2 2] := by rw [hw7]; infer_instance
  have i1 : Blk w7 (w6.heap.size + 1) 3 #[.int .i64 0, .int .i64 1] := by rw [hw7]; infer_instance
  have i2 : Blk w7 (w6.heap.size + 1 + 1) 3 #[.int .i64 0, .int .i64 1] := by rw [hw7]; infer_instance
  have tw : ∀ g, Blk w7 g 3 #[.int .i64 0, .int .i64 1] → IntT w7 (some ⟨g, 0, none⟩) (natI [0, 1]) := fun g b => .inr ⟨g, 0, _, rfl, b, fun j hj => by
    match j, hj with
    | 0, _ => rfl
    | 1, _ => rfl⟩
  have F12 : EpF w7 wantE (.agg #[.int .i64 0, .slice (some ⟨w6.heap.size + 1, 0, none⟩) 2 2, .bool true, .int .i64 4, .int .i64 10, .int .i64 0, .slice (some ⟨w6.heap.size + 1 + 1, 0, none⟩) 2 2]) := ⟨_, 2, _, 2, rfl, tw _ i1, tw _ i2⟩
  have I7 := I6.mo M67
  have N7 := N6.trans M67
  generalize w6.heap.size + 1 + 1 + 1 = g3 at *
  generalize w6.heap.size + 1 + 1 = g2 at *
  generalize w6.heap.size + 1 = g1 at *
  clear hw7 tw i1 i2 I6 N6 M67
  go_wp2_with fail
  refine (E4.out _ _ _ I7).mono ?_
  rintro e w8 ⟨v8, rfl, F8, M8⟩
  have I8 := I7.mo M8
  have N8 := N7.trans M8
  have b12 := M8.blk b12
  have F12 := F12.mo M8
  clear I7 N7 M8
  obtain ⟨a8, c8, d8, e8, rfl, j8, k8⟩ := F8
  have F8 : EpF w8 wantE (.agg #[.int .i64 0, .slice a8 2 c8, .bool true, .int .i64 4, .int .i64 10, .int .i64 0, .slice d8 2 e8]) := ⟨a8, c8, d8, e8, rfl, j8, k8⟩
  clear j8 k8
  go_upto_region 9 with (fail)
  refine wp_name ?_
  intro w9 hw9
  have b13 : Blk w9 w8.heap.size 38 #[.int .i64 0, .slice a8 2 c8, .bool true, .int .i64 4, .int .i64 10, .int .i64 0, .slice d8 2 e8] := by rw [hw9]; infer_instance
  have M89 : Mo w8 w9 := by rw [hw9]; exact Mor.out
  have I9 := I8.mo M89
  have N9 := N8.trans M89
  have b12 := M89.blk b12
  have F12 := F12.mo M89
  have F13 := F8.mo M89
  generalize w8.heap.size = g13 at *
  clear hw9 F8 I8 N8 M89
  go_wp2_with fail
  refine (OF.out 150 (by omega) _).mono ?_
  rintro e w10 ⟨rfl, M10⟩
  have I10 := I9.mo M10
  have N10 := N9.trans M10
  have b12 := M10.blk b12
  have b13 := M10.blk b13
  have F12 := F12.mo M10
  have F13 := F13.mo M10
  clear I9 N9 M10
  go_wp2_with fail
  have noI := I10.noM (t := 3) (by decide)
  have noE := I10.noM (t := 38) (by decide)
  refine (P5.out _ _ _ I10).mono ?_
  rintro e w11 ⟨v11, rfl, F11', I11, K11⟩
  have N11 : Mo W w11 := K11.mo N10 fun k _ q => by rcases q with rfl | rfl <;> assumption
  have b12 := K11.blk b12 (fun q => noE _ q _ _ b12.out)
  have b13 := K11.blk b13 (fun q => noE _ q _ _ b13.out)
  have F12 := F12.kp K11 noI
  have F13 := F13.kp K11 noI
  clear I10 N10 K11 noI noE
  obtain ⟨a8', c8', d8', e8', rfl, j8, k8⟩ := F11'
  have F15 : EpF w11 wantE (.agg #[.int .i64 0, .slice a8' 2 c8', .bool true, .int .i64 4, .int .i64 10, .int .i64 0, .slice d8' 2 e8']) := ⟨a8', c8', d8', e8', rfl, j8, k8⟩
  clear j8 k8
  go_upto_region 10 with (fail)
  refine wp_name ?_
  intro w12 hw12
  have b15 : Blk w12 w11.heap.size 38 #[.int .i64 0, .slice a8' 2 c8', .bool true, .int .i64 4, .int .i64 10, .int .i64 0, .slice d8' 2 e8'] := by rw [hw12]; infer_instance
  have M12 : Mo w11 w12 := by rw [hw12]; exact Mor.out
  have I12 := I11.mo M12
  have N12 := N11.trans M12
  have b12 := M12.blk b12
  have b13 := M12.blk b13
  have F12 := F12.mo M12
  have F13 := F13.mo M12
  have F15 := F15.mo M12
  generalize w11.heap.size = g15 at *
  clear hw12 I11 N11 M12
  go_wp2_with fail
  refine (OF.out 90 (by omega) _).mono ?_
  rintro e w13 ⟨rfl, M13⟩
  have I13 := I12.mo M13
  have T13 := M13
  clear M13
  go_wp2_with fail
  refine (P6.out _ _ _ I13).mono ?_
  rintro e w14 ⟨rfl, M14⟩
  have T14 := T13.trans M14
  have I14 := I13.mo M14
  clear M14 T13 I13
  go_wp2_with fail
  refine (OF.out 160 (by omega) _).mono ?_
  rintro e w15 ⟨rfl, M15⟩
  have M15' := (Mor.out : Mo w14 _).trans M15
  have T15 := T14.trans M15'
  have I15 := I14.mo M15'
  clear M15 M15' T14 I14
  go_wp2_with fail
  refine (P7.out _ _ _ I15).mono ?_
  rintro e w16 ⟨rfl, M16⟩
  have T16 := T15.trans M16
  have I16 := I15.mo M16
  clear M16 T15 I15
  go_upto_region 12 with (fail)
  refine wp_name ?_
  intro w17 hw17
  have M17 : Mo w16 w17 := by rw [hw17]; exact Mor.out
  have T17 := T16.trans M17
  have b12 := T17.blk b12
  have b13 := T17.blk b13
  have b15 := T17.blk b15
  have F12 := F12.mo T17
  have F13 := F13.mo T17
  have F15 := F15.mo T17
  have I17 := I16.mo M17
  have N17 := N12.trans T17
  clear hw17 M17 T17 T16 I16 I12 N12
  go_wp2_with fail
  refine (SM.out _ _ _ F13 F12).mono ?_
  rintro e w18 ⟨rfl, M18⟩
  have b12 := M18.blk b12
  have b15 := M18.blk b15
  have F12 := F12.mo M18
  have F15 := F15.mo M18
  have I18 := I17.mo M18
  have N18 := N17.trans M18
  clear M18 F13 b13 I17 N17
  go_wp2_with fail
  refine (SM.out _ _ _ F15 F12).mono ?_
  rintro e w19 ⟨rfl, M19⟩
  have I19 := I18.mo M19
  have N19 := N18.trans M19
  clear M19 F15 F12 b12 b15 I18 N18
  go_wp2_with fail
  refine (L8.out _ _ _ I19).mono ?_
  rintro e w20 ⟨rfl, M20⟩
  go_wp2_with fail
  go_ret
  exact ⟨rfl, N19.trans M20⟩
end Go.Proofs.Ytdgmcgfkammioaa
