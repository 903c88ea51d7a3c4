/- horologelaw30.MatchTakes returns true: the walk. -/
import Derived.Test.YtcflebggepmmcaaMatQ
import Derived.Test.YtcflebggepmmcaaMatU
import Derived.Test.YtcflebggepmmcaaMatW
import Derived.Test.YtcflebggepmmcaaMatX
namespace Go.Proofs.Ytcflebggepmmcaa
open Go.RowKit

set_option maxRecDepth 20000 in
theorem great_no {l : List Dg} (h : GreatM l = false) : l.length ≤ 80 ∧ ∀ d ∈ l, d.bs.length ≤ 300 := by
  unfold GreatM at h
  rw [Bool.or_eq_false_iff] at h
  refine ⟨?_, fun d hd => ?_⟩
  · have := of_decide_eq_false h.2; omega
  · have := List.any_eq_false.1 h.1 d hd
    simpa using this
set_option maxRecDepth 20000 in
theorem matV_cell {W : World} {M T B : Nat} {room win : Int} {c : Nat → Int} {E : List En} {P : Nat → Prop} {g : Nat} (h : MatV W M T B room win c E P) (hg : ¬ P g) (hM : M ≠ g) (i : Nat) (v : Value) : MatV (W.setCell ⟨g, i, none⟩ v) M T B room win c E P :=
  ⟨blk_setCell_ne h.m (Ne.symm hM) i v, h.t.keep fun k _ hp => heap_setCell_other W ⟨g, i, none⟩ k v (fun e => hg (show P g from (show k = g from e) ▸ hp)), h.np⟩
attribute [local go_sem] blk_cell' blk_frozen' dg_at dg_b dg_src dg_dst
attribute [local go_sem ↓] loadF_dg storeF_dg' loadF_cnt storeF_cnt loadF_samp storeF_samp buildF_samp eqlF_samp eqlF_cnt neqF_samp neqF_cnt
attribute [local go_sem] run_loadF0 run_storeF0 run_loadFo run_loadFz run_build_samp0
set_option maxRecDepth 20000 in
set_option maxHeartbeats 16000000 in
theorem takes30_any (A : Option Addr) (cap L : Nat) (l : List Dg) (k win : Int) (W : World) (hL : l.length = L) (h : DgsS W A cap l) (bw : -9223372036854775808 ≤ win ∧ win ≤ 9223372036854775807) :
    Calls Try.prog 3 #[.slice A L cap, .int .i64 k, .int .i64 win] W fun e w' => e = .returned (.bool true) ∧ Mo W w' := by
  have GR := Lib.hid (fun w (m : Mo W w) => great_any A cap L l w hL (h.mo m))
  have WK := Lib.hid (fun w => works30_any w)
  cases hg : GreatM l with
  | true =>
    rw [hg] at GR
    clear h hL hg
    go_enter Try.func3, Try.ntmps3
    go_wp2_with fail
    refine (GR.out _ Mor.out).mono ?_
    rintro e w1 ⟨rfl, M1⟩
    have N1 := (Mor.out : Mo W _).trans M1
    clear M1 GR
    go_wp2_with fail
    refine (WK.out _).mono ?_
    rintro e w2 ⟨rfl, M2⟩
    have N2 := N1.trans ((Mor.out : Mo w1 _).trans M2)
    clear M2 N1
    go_wp2_with fail
    go_ret
    exact ⟨rfl, N2.trans Mor.out⟩
  | false =>
    rw [hg] at GR
    obtain ⟨hl80, hb3⟩ := great_no hg
    rw [hL] at hl80
    have HD := Lib.hid h
    have HL := Lib.hid hL
    have HB : Hid (∀ d ∈ l, d.bs.length ≤ 200000) := Lib.hid fun d hd => by have := hb3 d hd; omega
    clear h hL hg hb3
    by_cases ck : (1 ≤ k ∧ k ≤ 65536) ∧ 0 ≤ win ∧ win ≤ 1152921504606846976
    · have NI := Lib.hid (fun w => mnew_in k win ck.1 ck.2 w)
      have d1 : decide (k < 1) = false := decide_eq_false (by omega)
      have d2 : decide (65536 < k) = false := decide_eq_false (by omega)
      have d3 : decide (win < 0) = false := decide_eq_false (by omega)
      have d4 : decide (1152921504606846976 < win) = false := decide_eq_false (by omega)
      go_enter Try.func3, Try.ntmps3
      go_wp2_with fail
      refine (GR.out _ Mor.out).mono ?_
      rintro e w1 ⟨rfl, M1⟩
      have N1 := (Mor.out : Mo W _).trans M1
      clear M1 GR
      go_wp2_with fail
      refine (NI.out _).mono ?_
      rintro e w2 ⟨M, T, B, rfl, V2, lM, M2⟩
      have E2 : Mo w1 w2 := Mo.trans Mor.out M2
      have lM' : w1.heap.size ≤ M := Nat.le_trans (Mo.size Mor.out) lM
      have V2' := Lib.hid (show MatV w2 M T B k win (fun _ => 0) [] (fun i => w1.heap.size ≤ i ∧ i ≠ M) from ⟨V2.m, V2.t.weak fun i _ q => ⟨Nat.le_trans (Mo.size Mor.out) q.1, q.2⟩, fun q => q.2 rfl⟩)
      have N2 := N1.trans E2
      have lM2 : M < w2.heap.size := V2.m.lt
      clear V2 M2 lM NI E2
      go_upto_region 9 with (fail)
      refine wp_name ?_
      intro w3 hw3
      obtain ⟨g9, hg9⟩ : ∃ g, w2.heap.size = g := ⟨_, rfl⟩
      have V3 := Lib.hid (show MatV w3 M T B k win (fun _ => 0) [] (fun i => w1.heap.size ≤ i ∧ i ≠ M ∧ i ≠ g9) from by
        rw [hw3]
        have q := V2'.out.mo (Mor.out : Mo w2 (w2.alloc (.cells cn0 29)))
        have q2 : MatV w2 M T B k win (fun _ => 0) [] (fun i => w1.heap.size ≤ i ∧ i ≠ M ∧ i ≠ g9) := ⟨V2'.out.m, V2'.out.t.weak fun i hi p => ⟨p.1, p.2, by omega⟩, fun q => q.2.1 rfl⟩
        exact q2.mo Mor.out)
      have c3 : Blk w3 g9 29 (cnC (fun _ => 0)) := by rw [hw3, ← hg9]; infer_instance
      have N3 : Mo W w3 := by rw [hw3]; exact N2.trans Mor.out
      rw [hg9] at lM2 ⊢
      clear hw3 V2' hg9
      go_wp2_with fail
      go_loopw [55] (fun i wr => ∃ j : Nat, j ≤ L ∧ i = .int .i64 j ∧ Mo W wr ∧ MatV wr M T B k win (runC win k l j) (playM k l j) (fun i => w1.heap.size ≤ i ∧ i ≠ M ∧ i ≠ g9) ∧ Blk wr g9 29 (cnC (runC win k l j))) (fun i _ => L - (intOf i).toNat)
      case atStart => exact ⟨0, by omega, rfl, N3, V3.out, c3⟩
      case round =>
        obtain ⟨j, hj, rfl, hM, hV, c9⟩ := hrel
        have HV := Lib.hid hV
        clear hV
        by_cases cj : j < L
        · have hjl : j < l.length := by rw [HL.out]; exact cj
          obtain ⟨g, off, B1, bc, rfl, ldW, hb⟩ := HD.out.get2 j hjl
          have ld := ldW _ hM
          have hbr := hb.mo hM
          have XO := HD.out.ok _ (List.getElem_mem hjl)
          have ok : HdOk (classP l[j].bs).1.h := by rw [classP_fst]; exact takeP_ok _ hb.byte
          have i0' : (0 : Int) ≤ j := by omega
          have i1 : (j : Int) < L := by omega
          have za := sz_wide XO.at_
          have zs := sz_ends XO.src
          have zt := sz_ends XO.dst
          have oa := one_of_fits XO.at_
          have os := one_of_fits XO.src
          have ot := one_of_fits XO.dst
          have PL := playM_len (room := k) (by omega) l j
          have PE := playM_succ k l j hjl
          have RC := runC_succ win k l j hjl
          have RB := runC_bd win k l j
          have RNG := clsM_rng win (playM k l j) l[j]
          have HV2 := Lib.hid (show MatV wr M T B k win (runC win k l j) (playM k l j) (fun i => (w1.heap.size ≤ i ∧ i ≠ M ∧ i ≠ g9) ∧ i < wr.heap.size) from ⟨HV.out.m, HV.out.t.weak fun i hi p => ⟨p, hi⟩, fun q => q.1.2.1 rfl⟩)
          have TK := Lib.hid (fun w (m : Mo wr w) => mtake_any M T B k win (runC win k l j) (playM k l j) _ l[j] _ w (HV2.out.mo m) ⟨B1, bc, rfl, hbr.mo m⟩ XO (by omega) (fun i => by have := RB i; omega) (by omega) (by omega))
          rw [← PE, ← RC] at TK
          have RCL := Lib.hid (fun w (m : Mo W w) => rcls_any _ cap L j l k win w HL.out (HD.out.mo m) HB.out hjl (by omega) (by omega) (by omega) (by omega))
          have KY : Hid (∀ w, Mo W w → Calls Try.prog 16 #[.slice (some ⟨g, off, none⟩) L cap, .int .i64 ((j : Int) + 1), .int .i64 k] w fun e w' => e = .returned (.int .i64 (playM k l (j + 1)).length) ∧ Mo w w') := Lib.hid (fun w (m : Mo W w) => by
            have := keys_any _ cap L (j + 1) l k w HL.out (HD.out.mo m) HB.out (by omega) (by omega) (by omega)
            rwa [show ((j + 1 : Nat) : Int) = (j : Int) + 1 by omega] at this)
          have FS := Lib.hid (fits_smM (win := win) (E := playM k l j) XO ok)
          have SQ : Hid (clsM win (playM k l j) l[j] = 4 → (smM win (playM k l j) l[j] = smpC (l[j].dst ++ l[j].src) (classP l[j].bs).1.h.o (classP l[j].bs).1.h (wI l[j].at_)) ∧ (classP l[j].bs).2 = 4) := Lib.hid fun c => ⟨by unfold smM; rw [if_pos c], by
            by_cases c1 : (classP l[j].bs).2 = 1
            · unfold clsM at c
              rw [if_pos c1] at c
              split at c <;> omega
            · by_cases c4 : (classP l[j].bs).2 = 4
              · exact c4
              · rw [cls_rest c1 c4] at c; exact c⟩
          have SN : Hid (clsM win (playM k l j) l[j] ≠ 4 → smM win (playM k l j) l[j] = sm0) := Lib.hid fun c => by unfold smM; rw [if_neg c]
          have RSM := Lib.hid (fun (c : (classP l[j].bs).2 = 4) w (m : Mo W w) => rsample_any l[j] _ w ⟨B1, bc, rfl, hb.mo m⟩ XO (HB.out _ (List.getElem_mem hjl)) c)
          have zq : SzA (smM win (playM k l j) l[j]) 48 := smM_sz XO
          have oq : OneA (smM win (playM k l j) l[j]) := smM_one XO
          generalize smM win (playM k l j) l[j] = SM at *
          generalize clsM win (playM k l j) l[j] = q at *
          generalize smpC (l[j].dst ++ l[j].src) (classP l[j].bs).1.h.o (classP l[j].bs).1.h (wI l[j].at_) = SR at *
          generalize (classP l[j].bs).2 = qc at *
          generalize l[j].at_ = da at *
          generalize l[j].src = ds at *
          generalize l[j].dst = dd at *
          generalize l[j].bs.length = n at *
          have hw : IntKind.i64.wrap ((j : Int) + 1) = j + 1 := by rw [IntKind.wrap_i64]; omega
          have lg : g9 < wr.heap.size := c9.lt
          have RC' := Lib.hid RC
          clear hjl XO PE hb hbr ldW RC PL ok
          go_wp2_with fail
          refine (TK.out _ Mor.out).mono ?_
          rintro e w5 ⟨rfl, V5, K5⟩
          have N5 : Mo W w5 := K5.mo (hM.trans Mor.out) fun i hi s => by
            have := N1.size
            rcases s with s | rfl
            · omega
            · omega
          have b11 := K5.blk (inferInstance : Blk _ wr.heap.size _ (dgC da ds dd (.slice B1 n bc))) (fun s => by have := hM.size; rcases s with s | s <;> omega)
          have c5 := K5.blk (inferInstance : Blk _ g9 _ (cnC (runC win k l j))) (fun s => by rcases s with s | s <;> omega)
          have V5' := Lib.hid (show MatV w5 M T B k win (runC win k l (j + 1)) (playM k l (j + 1)) (fun i => w1.heap.size ≤ i ∧ i ≠ M ∧ i ≠ g9) from ⟨V5.m, V5.t.weak fun i _ p => by
            rcases p with p | p
            · exact p.1
            · have h1 : wr.heap.size + 1 ≤ i := by simpa using p
              have h2 := HV.out.m.lt
              exact ⟨by omega, by omega, by omega⟩, fun q => q.2.1 rfl⟩)
          clear V5 K5 TK ld c9
          go_upto_region 13 with (fail)
          refine wp_name ?_
          intro w6 hw6
          have M56 : Mo w5 w6 := by rw [hw6]; exact Mor.out
          have s6 : Blk w6 w5.heap.size 45 SM := by rw [hw6]; infer_instance
          have b6 := M56.blk b11
          have c6 := M56.blk c5
          have V6 := Lib.hid (V5'.out.mo M56)
          have N6 := N5.trans M56
          have lw5 := c5.lt
          clear hw6 b11 c5 V5' M56
          go_wp2_with fail
          refine (RCL.out _ N6).mono ?_
          rintro e w7 ⟨rfl, M7⟩
          have s7 := M7.blk s6
          have b7 := M7.blk b6
          have c7 := M7.blk c6
          have V7 := Lib.hid (V6.out.mo M7)
          have N7 := N6.trans M7
          have dq : (q != q) = false := by simp
          have wq : IntKind.i64.wrap q = q := by rw [IntKind.wrap_i64]; omega
          have d9 : decide (9 ≤ q) = false := decide_eq_false (by omega)
          have wc : IntKind.i64.wrap (runC win k l j q.toNat + 1) = runC win k l j q.toNat + 1 := by have := RB q.toNat; rw [IntKind.wrap_i64]; omega
          have q0 := RNG.1
          have q9 : q < 9 := by omega
          have CG := cn_get (runC win k l j) q RNG.1 RNG.2
          have CS := cn_set (runC win k l j) q RNG.1 RNG.2
          rw [← RC'.out] at CS
          generalize runC win k l j q.toNat = x at *
          have zc : SzA (cnC (runC win k l j)) 9 := ⟨rfl⟩
          generalize cnC (runC win k l j) = CC at *
          have HCS := Lib.hid CS
          clear CS
          clear s6 b6 c6 V6 N6 M7 RCL N5
          go_upto_region 17 with (fail)
          refine wp_name ?_
          intro w8 hw8
          have hw8' : w8 = w7.setCell ⟨g9, q.toNat, none⟩ (.int .i64 (x + 1)) := by rw [hw8]
          have s8 : Blk w8 w5.heap.size 45 SM := by rw [hw8']; exact blk_setCell_ne s7 (by omega) _ _
          have b8 : Blk w8 wr.heap.size 41 (dgC da ds dd (.slice B1 n bc)) := by rw [hw8']; exact blk_setCell_ne b7 (by omega) _ _
          have c8 : Blk w8 g9 29 (cnC (runC win k l (j + 1))) := by rw [hw8', ← HCS.out]; exact blk_setCell c7 _ _
          have V8 := Lib.hid (show MatV w8 M T B k win (runC win k l (j + 1)) (playM k l (j + 1)) (fun i => w1.heap.size ≤ i ∧ i ≠ M ∧ i ≠ g9) by rw [hw8']; exact matV_cell V7.out (fun p => p.2.2 rfl) (by omega) _ _)
          have N8 : Mo W w8 := by rw [hw8']; exact mo_setCell N7 (by have := N1.size; omega) _ _
          clear hw8 hw8' s7 b7 c7 V7 N7 HCS CG dq wq d9 wc
          have LN := Lib.hid (fun w (m : Mo w8 w) => mlen_any M T B k win _ _ _ w (V8.out.mo m))
          have KY' := Lib.hid (fun w (m : Mo w8 w) => KY.out w (N8.trans m))
          generalize ((playM k l (j + 1)).length : Int) = len at LN KY'
          have dl : (len != len) = false := by simp
          by_cases c4 : q = 4
          · subst c4
            obtain ⟨e1, e2⟩ := SQ.out rfl
            have RSM' := Lib.hid (fun w (m : Mo w8 w) => RSM.out e2 w (N8.trans m))
            rw [← e1] at RSM'
            have nq := fun w => run_neq_self fl_samp w FS.out
            clear SQ SN RSM KY e1 e2
            first | (refine wp_region_mo (by kernel_rfl) (by kernel_rfl) ?_) | (refine wp_region_mo' (by kernel_rfl) (by kernel_rfl) ?_)
            repeat (go_big_quiet_step (first | (with_reducible exact quiet_mo (RSM'.out _ Mor.out)) | (with_reducible exact quiet_mo (LN.out _ Mor.out)) | (with_reducible exact quiet_mo (KY'.out _ Mor.out))))
            refine wpQuiet_nil ?_
            intro _ hw'
            obtain ⟨⟨J9, d9⟩, hw''⟩ := hw'
            subst hw''
            go_wp2_with fail
            go_roundw
            case rel => exact ⟨j + 1, by omega, by go_num, N8.trans Mor.out, V8.out.mo Mor.out, inferInstance⟩
            case measure => simp [intOf]; omega
          · have RSM' := LN
            have e1 := SN.out c4
            subst e1
            have nq := fun w => run_neq_self fl_samp w fits_sm0
            have q4 : (q == 4) = false := by simp [c4]
            have q4' : (q != 4) = true := by simp [c4]
            clear SQ SN RSM KY c4
            first | (refine wp_region_mo (by kernel_rfl) (by kernel_rfl) ?_) | (refine wp_region_mo' (by kernel_rfl) (by kernel_rfl) ?_)
            repeat (go_big_quiet_step (first | (with_reducible exact quiet_mo (RSM'.out _ Mor.out)) | (with_reducible exact quiet_mo (LN.out _ Mor.out)) | (with_reducible exact quiet_mo (KY'.out _ Mor.out))))
            refine wpQuiet_nil ?_
            intro _ hw'
            obtain ⟨⟨J9, d9⟩, hw''⟩ := hw'
            subst hw''
            go_wp2_with fail
            go_roundw
            case rel => exact ⟨j + 1, by omega, by go_num, N8.trans Mor.out, V8.out.mo Mor.out, inferInstance⟩
            case measure => simp [intOf]; omega
        · have ej : j = L := by omega
          subst ej
          have RB := runC_bd win k l j
          have FC : Hid (Fits (ksOf 29) (cnC (runC win k l j)).toList) := Lib.hid (fits_cnC fun i => by have := RB i; omega)
          have CT := Lib.hid (fun w (m : Mo wr w) => mcounts_any M T B k win _ _ _ w (HV.out.mo m))
          have zc : SzA (cnC (runC win k l j)) 9 := ⟨rfl⟩
          generalize cnC (runC win k l j) = CC at *
          have eq := fun w => run_eqlF_self fl_cnt w FC.out
          clear RB FC
          go_upto_region 20 with (fail)
          first | (refine wp_region_mo (by kernel_rfl) (by kernel_rfl) ?_) | (refine wp_region_mo' (by kernel_rfl) (by kernel_rfl) ?_)
          repeat (go_big_quiet_step (first | (with_reducible exact quiet_mo (CT.out _ Mor.out)) | (with_reducible exact quiet_mo (WK.out _))))
          refine wpQuiet_nil ?_
          intro _ hw'
          obtain ⟨⟨J9, d9⟩, hw''⟩ := hw'
          subst hw''
          go_wp2_with fail
          go_ret
          exact ⟨rfl, hM.trans Mor.out⟩
    · have NO := Lib.hid (fun w => mnew_out k win ck w)
      obtain ⟨dk, hdk⟩ : ∃ b, (decide (k < 1) || decide (65536 < k) || decide (win < 0) || decide (1152921504606846976 < win)) = b := ⟨_, rfl⟩
      obtain rfl : dk = true := by
        rw [← hdk]
        simp only [Bool.or_eq_true, decide_eq_true_eq]
        omega
      go_enter Try.func3, Try.ntmps3
      go_wp2_with fail
      refine (GR.out _ Mor.out).mono ?_
      rintro e w1 ⟨rfl, M1⟩
      have N1 := (Mor.out : Mo W _).trans M1
      clear M1 GR
      go_wp2_with fail
      refine (NO.out _).mono ?_
      rintro e w2 ⟨rfl, M2⟩
      have N2 := N1.trans (Mo.trans Mor.out M2)
      clear M2 NO
      go_upto_region 4 with (fail)
      go_cut [37] (fun s37 wx => s37 = .bool true ∧ wx = w2)
      case first =>
        have f : ∀ p : Prop, [Decidable p] → ¬ p → decide p = false := fun p _ h => decide_eq_false h
        by_cases c1 : k < 1
        · have d1 : decide (k < 1) = true := decide_eq_true c1
          clear hdk
          go_wp2_with fail
          go_meet
          exact ⟨rfl, rfl⟩
        · by_cases c2 : 65536 < k
          · have d1 : decide (k < 1) = false := decide_eq_false c1
            have d2 : decide (65536 < k) = true := decide_eq_true c2
            clear hdk
            go_wp2_with fail
            go_meet
            exact ⟨rfl, rfl⟩
          · by_cases c3 : win < 0
            · have d1 : decide (k < 1) = false := decide_eq_false c1
              have d2 : decide (65536 < k) = false := decide_eq_false c2
              have d3 : decide (win < 0) = true := decide_eq_true c3
              clear hdk
              go_wp2_with fail
              go_meet
              exact ⟨rfl, rfl⟩
            · have d1 : decide (k < 1) = false := decide_eq_false c1
              have d2 : decide (65536 < k) = false := decide_eq_false c2
              have d3 : decide (win < 0) = false := decide_eq_false c3
              have d4 : decide (1152921504606846976 < win) = true := decide_eq_true (by omega)
              clear hdk
              go_wp2_with fail
              go_meet
              exact ⟨rfl, rfl⟩
      obtain ⟨rfl, rfl⟩ := hcut
      go_wp2_with fail
      refine (WK.out _).mono ?_
      rintro e w3 ⟨rfl, M3⟩
      have N3 := N2.trans (Mo.trans Mor.out M3)
      go_wp2_with fail
      go_ret
      exact ⟨rfl, N3.trans Mor.out⟩
end Go.Proofs.Ytcflebggepmmcaa
