/- horologelaw35.EpochKnown returns true: the walk. -/
import Derived.Test.YtdgmcgfkammioaaEpY
namespace Go.Proofs.Ytdgmcgfkammioaa
open Go.RowKit Go.Maps

attribute [local go_sem] blk_cell' blk_frozen' run_neq_mapE
attribute [local go_sem ↓] buildF_ep storeF_ep loadF_ep
attribute [local go_sem] run_storeF0 run_loadF0 run_build_ep0 run_build_ep1
set_option maxRecDepth 20000 in
set_option maxHeartbeats 4000000 in
theorem eput_zero (M : Nat) (s o d : Int) (C : Array Value) (W : World) (zc : C.size = 2) (bM : Blk W M 54 #[.int .i64 0, .int .i64 0, .bool false, .int .i64 0, .map none]) :
    Calls Try.prog 11 #[.pointer (some ⟨M, 0, none⟩), .int .i64 s, .agg C, .int .i64 o, .int .i64 d] W fun e w' => e = .returned (.tuple #[.agg epz, .bool false, .int .u8 0]) ∧ Mo W w' := by
  obtain ⟨a, b, rfl⟩ := arr2_35 zc
  go_enter Try.func11, Try.ntmps11
  go_upto_region 2 with (fail)
  refine wp_name ?_
  intro w1 hw1
  have b1 : Blk w1 (W.heap.size + 1) 38 epz := by rw [hw1]; infer_instance
  have M1 : Mo W w1 := by rw [hw1]; exact Mor.out
  clear hw1
  go_wp2_with fail
  refine retV_ctt rfl (W.heap.size + 1) epz rfl rfl rfl (blk_setRow b1) ?_
  exact ⟨rfl, mo_setRow M1 (by omega) _⟩
set_option maxRecDepth 20000 in
set_option maxHeartbeats 4000000 in
theorem ecopy_nil (W : World) : Calls Try.prog 19 #[.pointer none] W fun e w' => e = .returned (.pointer none) ∧ Mo W w' := by
  go_enter Try.func19, Try.ntmps19
  go_wp2_with fail
  go_ret
  exact ⟨rfl, Mor.out⟩
def fE : BestF := bestPut b0F 255 0 1
def fF : BestF := bestPut fE 7 10 1
def wantK : Ep := ⟨-5, [7, 255], false, 0, 0, 0, []⟩
set_option maxRecDepth 20000 in
theorem keys_F : keysB 256 fF = [7, 255] := by kernel_rfl
set_option maxRecDepth 20000 in
theorem ivs_F : ivsB 256 fF = [⟨9, 11⟩, ⟨-1, 1⟩] := by kernel_rfl
set_option maxRecDepth 20000 in
theorem find_F : IsFind ([⟨9, 11⟩, ⟨-1, 1⟩] : List Iv) none := by
  intro f hf
  have hf' : 2 * f < 2 := hf
  obtain rfl : f = 0 := by omega
  intro x hx
  simp only [List.mem_cons, List.not_mem_nil, or_false] at hx
  rcases hx with rfl | rfl <;> decide
set_option maxRecDepth 20000 in
theorem told_F {E : Ep} (h : IsTold (-5) 256 fF E) : E = wantK := told_uniq h ⟨none, by rw [ivs_F]; exact find_F, by rw [keys_F, ivs_F]; rfl⟩
def mE : MkS := ⟨1, 256, true, -5, fE⟩
def mF : MkS := ⟨1, 256, true, -5, fF⟩
set_option maxRecDepth 20000 in
theorem n_5 : nOf 1 (-5) = -5 := by decide
set_option maxRecDepth 20000 in
theorem put_k1 (w : World) (M B : Nat) (h : MkIs w M B (mk0 1 256)) : Calls Try.prog PutF #[pM M, .int .i64 255, WV (-5), .int .i64 0, .int .i64 1] w (Kept35 M B mE w) := by
  have q := eput_same M B 255 (mk0 1 256) (-5) 0 1 w h (by decide) (inW_35 _ (by omega)) (is64_35 _ (by omega)) (is64_35 _ (by omega)) (fun c => by cases c)
  rw [show (mk0 1 256).wd = 1 from rfl, n_5] at q
  exact q
set_option maxRecDepth 20000 in
theorem put_k2 (w : World) (M B : Nat) (h : MkIs w M B mE) : Calls Try.prog PutF #[pM M, .int .i64 7, WV (-5), .int .i64 10, .int .i64 1] w (Kept35 M B mF w) := by
  have q := eput_same M B 7 mE (-5) 10 1 w h (by decide) (inW_35 _ (by omega)) (is64_35 _ (by omega)) (is64_35 _ (by omega)) (fun _ => n_5)
  rw [show mE.wd = 1 from rfl, n_5] at q
  exact q
abbrev vK (A : Option Addr) (c : Nat) (D : Option Addr) (d : Nat) : Array Value := #[.int .i64 (-5), .slice A 2 c, .bool false, .int .i64 0, .int .i64 0, .int .i64 0, .slice D 0 d]
set_option maxRecDepth 20000 in
theorem end_k3 (w : World) (M B : Nat) (h : MkIs w M B mF) : Calls Try.prog 15 #[pM M] w fun e w' => ∃ A c D d, e = .returned (.tuple #[.agg (vK A c D d), .bool true]) ∧ EpF w' wantK (.agg (vK A c D d)) ∧ Mo w w' := by
  refine (eend_yes M B mF w h rfl).mono ?_
  rintro e w' ⟨E, v, hE, rfl, hF, hM⟩
  rw [told_F hE] at hF
  obtain ⟨A, c, D, d, rfl, h1, h2⟩ := hF
  exact ⟨A, c, D, d, rfl, ⟨A, c, D, d, rfl, h1, h2⟩, hM⟩
set_option maxRecDepth 20000 in
theorem new_k (w : World) : Calls Try.prog 10 #[.int .i64 1, .int .i64 256] w fun e w' => ∃ M B, e = .returned (.tuple #[pM M, .int .i64 0]) ∧ w.heap.size ≤ M ∧ w.heap.size ≤ B ∧ MkIs w' M B (mk0 1 256) ∧ Mo w w' := enew_in 1 256 (by omega) (by omega) w
set_option maxRecDepth 20000 in
set_option maxHeartbeats 8000000 in
theorem known35_any (W : World) : Calls Try.prog 4 #[] W fun e w' => e = .returned (.bool true) ∧ Mo W w' := by
  have OF : Hid (∀ w, Calls Try.prog 18 #[.int .i64 (-5)] w fun e w' => e = .returned (WV (-5)) ∧ Mo w w') := Lib.hid (fun w => of_any (-5) (by omega) (by omega) w)
  have A1 := Lib.hid (fun w => enew_out 0 1 (by omega) w)
  have A2 := Lib.hid (fun w => enew_out 1152921504606846977 1 (by omega) w)
  have A3 := Lib.hid (fun w => enew_out 1 0 (by omega) w)
  have A4 := Lib.hid (fun w => enew_out 1 257 (by omega) w)
  have NW := Lib.hid new_k
  have EN := Lib.hid (fun w M B h => eend_no M B (mk0 1 256) w h rfl)
  have P1 := Lib.hid put_k1
  have P2 := Lib.hid put_k2
  have E3 := Lib.hid end_k3
  have PN := Lib.hid (fun w => eput_nil 0 0 0 #[.int .i64 0, .int .u64 0] w ⟨rfl⟩)
  have EN0 := Lib.hid eend_nil
  have PZ := Lib.hid (fun w M b => eput_zero M 0 0 0 #[.int .i64 0, .int .u64 0] w rfl b)
  have LN := Lib.hid elive_nil
  have CN := Lib.hid ecopy_nil
  have WK := Lib.hid works35_any
  have SM := Lib.hid (fun w v v' h h' => same35_any wantK v v' w h h' (by decide) (by decide))
  go_enter Try.func4, Try.ntmps4
  go_wp2_with fail
  refine (A1.out _).mono ?_
  rintro e w1 ⟨rfl, M1⟩
  go_wp2_with fail
  refine (A2.out _).mono ?_
  rintro e w2 ⟨rfl, M2⟩
  have N2 := M1.trans M2
  go_wp2_with fail
  refine (A3.out _).mono ?_
  rintro e w3 ⟨rfl, M3⟩
  have N3 := N2.trans M3
  go_wp2_with fail
  refine (A4.out _).mono ?_
  rintro e w4 ⟨rfl, M4⟩
  have N4 := N3.trans M4
  clear M1 M2 N2 M3 N3 M4
  go_wp2_with fail
  refine (NW.out _).mono ?_
  rintro e w5 ⟨M, B, rfl, gM, gB, I5, M5⟩
  have N5 := N4.trans M5
  have gM' := Nat.le_trans N4.size gM
  have gB' := Nat.le_trans N4.size gB
  clear gM gB M5 N4
  go_wp2_with fail
  refine (EN.out _ _ _ I5).mono ?_
  rintro e w6 ⟨rfl, M6⟩
  have I6 := I5.mo M6
  have N6 := N5.trans M6
  clear I5 N5 M6
  go_wp2_with fail
  refine (OF.out _).mono ?_
  rintro e w7 ⟨rfl, M7⟩
  have M67 := (Mor.out : Mo w6 _).trans M7
  have I7 := I6.mo M67
  have N7 := N6.trans M67
  clear I6 N6 M7 M67
  go_wp2_with fail
  refine (P1.out _ _ _ I7).mono ?_
  rintro e w8 ⟨rfl, I8, K8⟩
  have N8 : Mo W w8 := K8.mo N7 fun k _ q => by rcases q with rfl | rfl <;> assumption
  clear I7 N7 K8
  go_wp2_with fail
  refine (OF.out _).mono ?_
  rintro e w9 ⟨rfl, M9⟩
  have I9 := I8.mo M9
  have N9 := N8.trans M9
  clear I8 N8 M9
  go_wp2_with fail
  refine (P2.out _ _ _ I9).mono ?_
  rintro e w10 ⟨rfl, I10, K10⟩
  have N10 : Mo W w10 := K10.mo N9 fun k _ q => by rcases q with rfl | rfl <;> assumption
  clear I9 N9 K10
  go_wp2_with fail
  refine (E3.out _ _ _ I10).mono ?_
  rintro e w11 ⟨A, c, D, d, rfl, F11, M11⟩
  have N11 := N10.trans M11
  clear I10 N10 M11
  go_upto_region 13 with (fail)
  refine wp_name ?_
  intro w12 hw12
  have b13 : Blk w12 w11.heap.size 38 (vK A c D d) := by rw [hw12]; infer_instance
  have M12 : Mo w11 w12 := by rw [hw12]; exact Mor.out
  have F12 := F11.mo M12
  have N12 := N11.trans M12
  generalize w11.heap.size = g13 at *
  clear hw12 F11 N11 M12
  go_wp2_with fail
  refine (PN.out _).mono ?_
  rintro e w13 ⟨rfl, M13⟩
  go_wp2_with fail
  refine (EN0.out _).mono ?_
  rintro e w14 ⟨rfl, M14⟩
  have T14 := M13.trans ((Mor.out : Mo w13 _).trans M14)
  clear M13 M14
  go_wp2_with fail
  refine (PZ.out _ _ inferInstance).mono ?_
  rintro e w15 ⟨rfl, M15⟩
  have T15 := T14.trans ((Mor.out : Mo w14 _).trans M15)
  clear M15 T14
  go_upto_region 16 with (fail)
  refine wp_name ?_
  intro w16 hw16
  have M16 : Mo w15 w16 := by rw [hw16]; exact Mor.out
  have T16 := T15.trans M16
  have b13 := T16.blk b13
  have F16 := F12.mo T16
  have N16 := N12.trans T16
  clear hw16 M16 T15 T16 F12 N12
  go_wp2_with fail
  have i1 : Blk (w16.alloc (.cells #[.int .i64 7, .int .i64 255] 3)) w16.heap.size 3 #[.int .i64 7, .int .i64 255] := inferInstance
  have FW : EpF (w16.alloc (.cells #[.int .i64 7, .int .i64 255] 3)) wantK (.agg #[.int .i64 (-5), .slice (some ⟨w16.heap.size, 0, none⟩) 2 2, .bool false, .int .i64 0, .int .i64 0, .int .i64 0, .slice none 0 0]) := ⟨_, 2, none, 0, rfl, .inr ⟨_, 0, _, rfl, i1, fun j hj => by
    match j, hj with
    | 0, _ => rfl
    | 1, _ => rfl⟩, .inl rfl⟩
  refine (SM.out _ _ _ (F16.mo Mor.out) FW).mono ?_
  rintro e w17 ⟨rfl, M17⟩
  have N17 := N16.trans ((Mor.out : Mo w16 _).trans M17)
  clear M17 N16 F16 FW i1 b13
  go_wp2_with fail
  refine (LN.out _).mono ?_
  rintro e w18 ⟨rfl, M18⟩
  have N18 := N17.trans M18
  go_wp2_with fail
  refine (CN.out _).mono ?_
  rintro e w19 ⟨rfl, M19⟩
  have N19 := N18.trans M19
  go_wp2_with fail
  refine (WK.out _).mono ?_
  rintro e w20 ⟨rfl, M20⟩
  go_wp2_with fail
  go_ret
  exact ⟨rfl, N19.trans M20⟩
end Go.Proofs.Ytdgmcgfkammioaa
