/- horologelaw35.EpochMoved: the walk. -/
import Derived.Test.YtdgmcgfkammioaaEpL
namespace Go.Proofs.Ytdgmcgfkammioaa
open Go.RowKit Go.Maps

attribute [local go_sem] blk_cell' blk_frozen'
attribute [local go_sem ↓] loadF_ep storeF_ep
attribute [local go_sem] run_loadF0 run_storeF0
set_option maxRecDepth 20000 in
set_option maxHeartbeats 16000000 in
theorem moved35_any (A : Option Addr) (cap L : Nat) (l : List PtS) (on up : Int) (W : World) (hL : l.length = L) (h : PutsS W A cap l) (bo : -2147483648 ≤ on ∧ on ≤ 2147483647) (bu : -2147483648 ≤ up ∧ up ≤ 2147483647) :
    Calls Try.prog 7 #[.slice A L cap, .int .i32 on, .int .i32 up] W fun e w' => e = .returned (.bool true) ∧ Mo W w' := by
  have WK := Lib.hid works35_any
  by_cases c : 100 < L
  · have d1 : decide ((100 : Int) < L) = true := decide_eq_true (by omega)
    have d1' : decide (100 < L) = true := decide_eq_true c
    clear h hL c
    go_enter Try.func7, Try.ntmps7
    go_wp2_with fail
    refine (WK.out _).mono ?_
    rintro e w1 ⟨rfl, M1⟩
    go_wp2_with fail
    go_ret
    exact ⟨rfl, (Mor.out : Mo W _).trans (M1.trans Mor.out)⟩
  have d1 : decide ((100 : Int) < L) = false := decide_eq_false (by omega)
  have d1' : decide (100 < L) = false := decide_eq_false c
  have G0 := Lib.hid (fun w (m : Mo W w) => going_any A cap L l 0 0 w hL (h.mo m) (by omega) (by omega) (by omega))
  have G1 := Lib.hid (fun w (m : Mo W w) => going_any A cap L l on up w hL (h.mo m) (by omega) (by omega) bu)
  have GM := Lib.hid (fun Es Es' (t : TG (grpG (goS 0 0 l)) Es) (t' : TG (grpG (goS on up l)) Es') => going_moved t t' h.ok (by omega) bu)
  have HLn := Lib.hid (fun Es (t : TG (grpG (goS 0 0 l)) Es) => t.1)
  have HDn := Lib.hid (goS_done 0 0 l L)
  have ETk : l.take L = l := List.take_of_length_le (by omega)
  rw [ETk] at HDn
  have L100 : Hid (L ≤ 100) := Lib.hid (by omega)
  have wo : IntKind.i64.wrap on = on := by rw [IntKind.wrap_i64]; omega
  have wu : IntKind.i64.wrap up = up := by rw [IntKind.wrap_i64]; omega
  clear h hL c ETk
  go_enter Try.func7, Try.ntmps7
  go_wp2_with fail
  refine (G0.out _ Mor.out).mono ?_
  rintro e w0 ⟨v, Es, CL, rfl, HA0, HT0, M0⟩
  have N0 : Mo W w0 := (Mor.out : Mo W _).trans M0
  obtain ⟨A9, c9, rfl⟩ := own_slE HA0.row
  have HA0' := Lib.hid HA0
  have HT0' := Lib.hid HT0
  clear HA0 HT0 M0 d1 d1'
  go_wp2_with fail
  refine (G1.out _ (N0.trans Mor.out)).mono ?_
  rintro e w1 ⟨v', Es', CL', rfl, HB, HT1, M1⟩
  have M01 : Mo w0 w1 := (Mor.out : Mo w0 _).trans M1
  have N1 := N0.trans M01
  have HA := Lib.hid (HA0'.out.mo M01)
  obtain ⟨B9, b9, rfl⟩ := own_slE HB.row
  have HB' := Lib.hid HB
  have MV := Lib.hid (GM.out Es Es' HT0'.out HT1)
  obtain ⟨N, hN⟩ : ∃ N, Es.length = N := ⟨_, rfl⟩
  have hN' : Es'.length = N := by rw [MV.out.1, hN]
  have N101 : N ≤ 101 := by
    have h1 := HLn.out Es HT0'.out
    have h2 := HDn.out
    have h3 : (grpG (goS 0 0 l)).length ≤ (goS 0 0 l).done.length + 1 := by
      unfold grpG
      split
      · exact Nat.le_succ _
      · rw [List.length_append]; exact Nat.le_refl _
    have h4 := L100.out
    omega
  have HN := Lib.hid hN
  have HN' := Lib.hid hN'
  clear HB HT1 HT0' HA0' GM G0 G1 HLn HDn M1 M01 N0 L100
  rw [hN] at HA ⊢
  rw [hN'] at HB' ⊢
  clear hN hN'
  go_wp2_with fail
  go_loopw [46] (fun i wr => ∃ j : Nat, j ≤ N ∧ i = .int .i64 j ∧ Mo w1 wr) (fun i _ => N - (intOf i).toNat)
  case atStart => exact ⟨0, by omega, rfl, Mor.out⟩
  case round =>
    obtain ⟨j, hj, rfl, hM⟩ := hrel
    by_cases cj : j < N
    · have hjl : j < Es.length := by rw [HN.out]; exact cj
      have hjl' : j < Es'.length := by rw [HN'.out]; exact cj
      obtain ⟨g, c2, A1, k1, A2, k2, ev, J1, J2, ld⟩ := HA.out.get j hjl
      obtain ⟨g', c2', B1, k3, B2, k4, ev2, J3, J4, ld2⟩ := HB'.out.get j hjl'
      obtain ⟨eqE, bE⟩ := MV.out.2 j hjl hjl'
      rw [HN.out] at ev
      rw [HN'.out] at ev2
      rw [eqE] at J3 J4 ld2
      injection ev with ev ev' ev''
      subst ev ev''
      injection ev2 with ev2 ev2' ev2''
      subst ev2 ev2''
      clear eqE hjl' ev' ev2'
      generalize Es[j] = E at *
      clear hjl
      have SM := Lib.hid (fun w (m : Mo w1 w) v v' h h' => same35_any (mvEp on up E) v v' w h h' (by have := bE.s; show E.srv.length ≤ 1000; omega) (by have := bE.t; show E.tr.length ≤ 1000; omega))
      have V2 : Hid (∀ w, Mo w1 w → EpF w (mvEp on up E) (.agg (eC (mvEp on up E) B1 k3 B2 k4))) := Lib.hid (fun w m => ⟨B1, k3, B2, k4, rfl, J3.mo m, J4.mo m⟩)
      have V1 : Hid (∀ w, Mo w1 w → EpF w (mvEp on up E) (.agg (eC (mvEp on up E) A1 k1 A2 k2))) := Lib.hid (fun w m => ⟨A1, k1, A2, k2, rfl, J1.mo m, J2.mo m⟩)
      obtain ⟨num, srv, maj, lo, hi, fl, tr⟩ := E
      have b1 := bE.n
      have b2 := bE.lo
      have b3 := bE.hi
      simp only at b1 b2 b3
      clear bE J1 J2 J3 J4
      have HLD := Lib.hid ld
      have HLD2 := Lib.hid ld2
      have ld' : ∀ J d, (loadF 38 (.pointer (some ⟨g, j * 7, none⟩))).run Try.prog (more wr J d) = .ok (.agg (eC ⟨num, srv, maj, lo, hi, fl, tr⟩ A1 k1 A2 k2)) (more wr J d) := fun J d => ld _ (hM.trans Mor.out)
      have ld0 := ld wr hM
      have e0 : (0 : Int) ≤ j := by omega
      have e1 : (j : Int) < N := by omega
      have hw : IntKind.i64.wrap ((j : Int) + 1) = j + 1 := by rw [IntKind.wrap_i64]; omega
      have w1' : IntKind.i64.wrap (num + on) = num + on := by rw [IntKind.wrap_i64]; omega
      have w2' : IntKind.i64.wrap (lo + up) = lo + up := by rw [IntKind.wrap_i64]; omega
      have w3' : IntKind.i64.wrap (hi + up) = hi + up := by rw [IntKind.wrap_i64]; omega
      clear ld ld2
      go_upto_region 10 with (fail)
      refine wp_name ?_
      intro w2 hw2
      have b6 : Blk w2 wr.heap.size 38 (eC ⟨num, srv, maj, lo, hi, fl, tr⟩ A1 k1 A2 k2) := by rw [hw2]; infer_instance
      have M2 : Mo w1 w2 := by rw [hw2]; exact hM.trans Mor.out
      have gw := hM.size
      generalize wr.heap.size = g6 at *
      clear hw2 ld0 ld' hM
      unfold eC at b6
      simp only at b6
      go_upto_region 11 with (fail)
      refine wp_name ?_
      intro w3 hw3
      have hw3' : w3 = w2.setCell ⟨g6, 0, none⟩ (.int .i64 (num + on)) := by rw [hw3]
      have c6 : Blk w3 g6 38 #[.int .i64 (num + on), .slice A1 srv.length k1, .bool maj, .int .i64 lo, .int .i64 hi, .int .i64 (fl : Nat), .slice A2 tr.length k2] := by rw [hw3']; exact blk_setCell b6 0 _
      have M3 : Mo w1 w3 := by rw [hw3']; exact mo_setCell M2 gw _ _
      clear hw3 hw3' b6 M2
      cases maj with
      | false =>
        go_upto_region 14 with (fail)
        obtain ⟨C, hC⟩ : ∃ C : Array Value, eC (mvEp on up ⟨num, srv, false, lo, hi, fl, tr⟩) A1 k1 A2 k2 = C := ⟨_, rfl⟩
        have cX : Blk w3 g6 38 C := by rw [← hC]; exact c6
        have zC : SzA C 7 := ⟨by rw [← hC]; rfl⟩
        obtain ⟨C2, hC2⟩ : ∃ C : Array Value, eC (mvEp on up ⟨num, srv, false, lo, hi, fl, tr⟩) B1 k3 B2 k4 = C := ⟨_, rfl⟩
        rw [hC] at V1
        rw [hC2] at V2 HLD2
        have SM' : Hid (∀ w, Mo w3 w → Calls Try.prog 13 #[.agg C, .agg C2] w fun e w' => e = .returned (.bool true) ∧ Mo w w') := Lib.hid (fun w m => SM.out w (M3.trans m) _ _ (V1.out w (M3.trans m)) (V2.out w (M3.trans m)))
        have ldB : ∀ J d, (loadF 38 (.pointer (some ⟨g', j * 7, none⟩))).run Try.prog (more w3 J d) = .ok (.agg C2) (more w3 J d) := fun J d => HLD2.out _ (M3.trans Mor.out)
        have ldB0 := HLD2.out w3 M3
        clear c6 hC hC2 V1 V2 SM w1' w2' w3' HLD HLD2
        first | (refine wp_region_mo (by kernel_rfl) (by kernel_rfl) ?_) | (refine wp_region_mo' (by kernel_rfl) (by kernel_rfl) ?_)
        repeat (go_big_quiet_step (first | (with_reducible exact quiet_mo (SM'.out _ Mor.out))))
        refine wpQuiet_nil ?_
        intro _ hw'
        obtain ⟨⟨J9, d9⟩, hw''⟩ := hw'
        subst hw''
        go_wp2_with fail
        go_roundw
        case rel => exact ⟨j + 1, by omega, by go_num, M3.trans Mor.out⟩
        case measure => simp [intOf]; omega
      | true =>
        go_upto_region 13 with (fail)
        refine wp_name ?_
        intro w4 hw4
        have hw4' : w4 = w3.setCell ⟨g6, 3, none⟩ (.int .i64 (lo + up)) := by rw [hw4]
        have c7 : Blk w4 g6 38 #[.int .i64 (num + on), .slice A1 srv.length k1, .bool true, .int .i64 (lo + up), .int .i64 hi, .int .i64 (fl : Nat), .slice A2 tr.length k2] := by rw [hw4']; exact blk_setCell c6 3 _
        have M4 : Mo w1 w4 := by rw [hw4']; exact mo_setCell M3 gw _ _
        clear hw4 hw4' c6 M3
        go_upto_region 14 with (fail)
        refine wp_name ?_
        intro w5 hw5
        have hw5' : w5 = w4.setCell ⟨g6, 4, none⟩ (.int .i64 (hi + up)) := by rw [hw5]
        have c8 : Blk w5 g6 38 #[.int .i64 (num + on), .slice A1 srv.length k1, .bool true, .int .i64 (lo + up), .int .i64 (hi + up), .int .i64 (fl : Nat), .slice A2 tr.length k2] := by rw [hw5']; exact blk_setCell c7 4 _
        have M5 : Mo w1 w5 := by rw [hw5']; exact mo_setCell M4 gw _ _
        clear hw5 hw5' c7 M4
        obtain ⟨C, hC⟩ : ∃ C : Array Value, eC (mvEp on up ⟨num, srv, true, lo, hi, fl, tr⟩) A1 k1 A2 k2 = C := ⟨_, rfl⟩
        have cX : Blk w5 g6 38 C := by rw [← hC]; exact c8
        have zC : SzA C 7 := ⟨by rw [← hC]; rfl⟩
        obtain ⟨C2, hC2⟩ : ∃ C : Array Value, eC (mvEp on up ⟨num, srv, true, lo, hi, fl, tr⟩) B1 k3 B2 k4 = C := ⟨_, rfl⟩
        rw [hC] at V1
        rw [hC2] at V2 HLD2
        have SM' : Hid (∀ w, Mo w5 w → Calls Try.prog 13 #[.agg C, .agg C2] w fun e w' => e = .returned (.bool true) ∧ Mo w w') := Lib.hid (fun w m => SM.out w (M5.trans m) _ _ (V1.out w (M5.trans m)) (V2.out w (M5.trans m)))
        have ldB : ∀ J d, (loadF 38 (.pointer (some ⟨g', j * 7, none⟩))).run Try.prog (more w5 J d) = .ok (.agg C2) (more w5 J d) := fun J d => HLD2.out _ (M5.trans Mor.out)
        have ldB0 := HLD2.out w5 M5
        clear c8 hC hC2 V1 V2 SM w1' w2' w3' HLD HLD2
        first | (refine wp_region_mo (by kernel_rfl) (by kernel_rfl) ?_) | (refine wp_region_mo' (by kernel_rfl) (by kernel_rfl) ?_)
        repeat (go_big_quiet_step (first | (with_reducible exact quiet_mo (SM'.out _ Mor.out))))
        refine wpQuiet_nil ?_
        intro _ hw'
        obtain ⟨⟨J9, d9⟩, hw''⟩ := hw'
        subst hw''
        go_wp2_with fail
        go_roundw
        case rel => exact ⟨j + 1, by omega, by go_num, M5.trans Mor.out⟩
        case measure => simp [intOf]; omega
    · obtain rfl : N = j := by omega
      go_wp2_with fail
      refine (WK.out _).mono ?_
      rintro e w5 ⟨rfl, M5⟩
      go_wp2_with fail
      go_ret
      exact ⟨rfl, N1.trans (hM.trans (M5.trans Mor.out))⟩
end Go.Proofs.Ytdgmcgfkammioaa
