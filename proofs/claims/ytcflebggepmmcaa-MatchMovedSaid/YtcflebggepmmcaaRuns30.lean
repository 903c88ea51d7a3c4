/- horologelaw30.MatchRuns returns true: the walk. -/
import Derived.Test.YtcflebggepmmcaaTakes30
namespace Go.Proofs.Ytcflebggepmmcaa
open Go.RowKit

set_option maxRecDepth 20000 in
theorem runS_pre (win k : Int) (l : List Dg) : ∀ n m, n ≤ m → m ≤ l.length → runS win k l n <+: runS win k l m
  | n, 0, h, _ => by rw [show n = 0 by omega]; exact List.prefix_refl _
  | n, m + 1, h, hm => by
    by_cases e : n = m + 1
    · rw [e]; exact List.prefix_refl _
    · refine (runS_pre win k l n m (by omega) (by omega)).trans ?_
      rw [runS_succ win k l m (by omega)]
      split
      · exact List.prefix_append _ _
      · exact List.prefix_refl _
set_option maxRecDepth 20000 in
theorem runS_at (win k : Int) (l : List Dg) (j : Nat) (hj : j < l.length) (c : clsM win (playM k l j) l[j] = 4) : ∃ h : (runS win k l j).length < (runS win k l l.length).length, (runS win k l l.length)[(runS win k l j).length] = smM win (playM k l j) l[j] := by
  obtain ⟨r, hr⟩ := runS_pre win k l (j + 1) l.length (by omega) (Nat.le_refl _)
  rw [runS_succ win k l j hj, if_pos c, List.append_assoc] at hr
  generalize runS win k l l.length = R at *
  subst hr
  refine ⟨by simp, ?_⟩
  rw [List.getElem_append_right (Nat.le_refl _)]
  simp
set_option maxRecDepth 20000 in
theorem owns_set {w : World} {b : Nat} {e : TypeId} {size : Nat} {v : Value} {n : Nat} {xs : List Value} (h : w.ownsRow b e size v n xs) {g : Nat} (hg : ∀ k, v.ownBlock = some k → k ≠ g) (i : Nat) (x : Value) : (w.setCell ⟨g, i, none⟩ x).ownsRow b e size v n xs := by
  refine ⟨h.1, ?_⟩
  rcases h.2 with hn | ⟨g', cap, cur, rfl, hb, h2, rest⟩
  · exact .inl hn
  · exact .inr ⟨g', cap, cur, rfl, hb, (heap_setCell_other w ⟨g, i, none⟩ g' x (hg g' rfl)).trans h2, rest⟩
set_option maxRecDepth 20000 in
theorem runS_szs (win k : Int) (l : List Dg) (ok : ∀ d ∈ l, DgOk d) : ∀ n, ∀ a ∈ runS win k l n, a.size = 48
  | 0, a, h => by cases h
  | n + 1, a, h => by
    rw [runS] at h
    cases e : l[n]? with
    | none => rw [e] at h; exact runS_szs win k l ok n a h
    | some d =>
      rw [e] at h
      simp only at h
      split at h
      · rcases List.mem_append.1 h with h | h
        · exact runS_szs win k l ok n a h
        · rw [List.mem_singleton] at h
          rw [h]
          exact (smM_sz (ok d (List.mem_of_getElem? e))).out
      · exact runS_szs win k l ok n a h
attribute [local go_sem] blk_cell' blk_frozen' dg_at dg_b dg_src dg_dst
attribute [local go_sem ↓] loadF_dg storeF_dg' loadF_cnt storeF_cnt buildF_cnt loadF_samp storeF_samp buildF_samp eqlF_samp eqlF_cnt neqF_samp neqF_cnt
attribute [local go_sem] run_loadF0 run_storeF0 run_loadFo run_loadFz run_build_samp0 run_build_cn0
set_option maxRecDepth 20000 in
theorem fits_cn0 : Fits (ksOf 29) cn0.toList := fits_cnC (c := fun _ => 0) (fun i => ⟨by simp, by simp⟩)
set_option maxRecDepth 20000 in
theorem run_eql_cn0 (w : World) : (eqlF 29 (.agg cn0) (.agg cn0)).run Try.prog w = .ok (.bool true) w := run_eqlF_self fl_cnt w fits_cn0
attribute [local go_sem] run_eql_cn0
set_option maxRecDepth 20000 in
set_option maxHeartbeats 16000000 in
theorem runs30_any (A : Option Addr) (cap L : Nat) (l : List Dg) (k win : Int) (W : World) (hL : l.length = L) (h : DgsS W A cap l) (bw : -9223372036854775808 ≤ win ∧ win ≤ 9223372036854775807) :
    Calls Try.prog 4 #[.slice A L cap, .int .i64 k, .int .i64 win] W fun e w' => e = .returned (.bool true) ∧ Mo W w' := by
  have GR := Lib.hid (fun w (m : Mo W w) => great_any A cap L l w hL (h.mo m))
  have WK := Lib.hid (fun w => works30_any w)
  cases hg : GreatM l with
  | true =>
    rw [hg] at GR
    clear h hL hg
    go_enter Try.func4, Try.ntmps4
    go_wp2_with fail
    refine (GR.out _ Mor.out).mono ?_
    rintro e w1 ⟨rfl, M1⟩
    have N1 := (Mor.out : Mo W _).trans M1
    clear M1 GR
    go_wp2_with fail
    refine (WK.out _).mono ?_
    rintro e w2 ⟨rfl, M2⟩
    have N2 := N1.trans ((Mor.out : Mo w1 _).trans M2)
    clear M2 N1
    go_wp2_with fail
    go_ret
    exact ⟨rfl, N2.trans Mor.out⟩
  | false =>
    rw [hg] at GR
    obtain ⟨hl80, hb3⟩ := great_no hg
    rw [hL] at hl80
    have HD := Lib.hid h
    have HL := Lib.hid hL
    have HB : Hid (∀ d ∈ l, d.bs.length ≤ 200000) := Lib.hid fun d hd => by have := hb3 d hd; omega
    clear h hL hg hb3
    by_cases ck : (1 ≤ k ∧ k ≤ 65536) ∧ 0 ≤ win ∧ win ≤ 1152921504606846976
    · have NI := Lib.hid (fun w (m : Mo W w) => mrun_in A cap L l k win w HL.out (HD.out.mo m) (by omega) ck.1 ck.2)
      have d1 : decide (k < 1) = false := decide_eq_false (by omega)
      have d2 : decide (65536 < k) = false := decide_eq_false (by omega)
      have d3 : decide (win < 0) = false := decide_eq_false (by omega)
      have d4 : decide (1152921504606846976 < win) = false := decide_eq_false (by omega)
      go_enter Try.func4, Try.ntmps4
      go_wp2_with fail
      refine (GR.out _ Mor.out).mono ?_
      rintro e w1 ⟨rfl, M1⟩
      have N1 := (Mor.out : Mo W _).trans M1
      clear M1 GR
      go_wp2_with fail
      refine (NI.out _ N1).mono ?_
      rintro e w2 ⟨v, rfl, O2, M2⟩
      have N2 := N1.trans M2
      obtain ⟨N, hN⟩ : ∃ N, (runS win k l L).length = N := ⟨_, rfl⟩
      rw [hN] at O2
      obtain ⟨Av, cv, rfl⟩ := row_slS O2
      have RN : Hid ((runS win k l L).length = N) := Lib.hid hN
      have SZ := Lib.hid (runS_szs win k l HD.out.ok L)
      have hl2 := fun g e => (O2.lt g e)
      clear M2 NI hN
      go_upto_region 8 with (fail)
      refine wp_name ?_
      intro w3 hw3
      obtain ⟨g8, hg8⟩ : ∃ g, w2.heap.size = g := ⟨_, rfl⟩
      rw [hg8] at hl2
      have c8 : Blk w3 g8 29 (cnC (runC win k l L)) := by rw [hw3, ← hg8]; infer_instance
      have c11 : Blk w3 (g8 + 1) 29 (cnC (fun _ => 0)) := by rw [hw3, ← hg8]; infer_instance
      have M23 : Mo w2 w3 := by rw [hw3]; exact Mor.out
      have O3 := Lib.hid (owns_mo O2 M23)
      have N3 : Mo W w3 := N2.trans M23
      have lW := N2.size
      rw [hg8] at lW
      rw [hg8]
      clear hw3 hg8 O2 M23
      go_wp2_with fail
      go_loopw [10, 57] (fun nn i wr => ∃ j : Nat, j ≤ L ∧ i = .int .i64 j ∧ nn = .int .i64 (runS win k l j).length ∧ Mo W wr ∧ wr.ownsRow w1.heap.size 45 48 (.slice Av N cv) N (rowS (runS win k l L)) ∧ Blk wr g8 29 (cnC (runC win k l L)) ∧ Blk wr (g8 + 1) 29 (cnC (runC win k l j))) (fun _ i _ => L - (intOf i).toNat)
      case atStart => exact ⟨0, by omega, rfl, rfl, N3, O3.out, c8, c11⟩
      case round =>
        obtain ⟨j, hj, rfl, rfl, hM, hO, e8, e11⟩ := hrel
        have HO := Lib.hid hO
        clear hO
        by_cases cj : j < L
        · have hjl : j < l.length := by rw [HL.out]; exact cj
          obtain ⟨g, off, B1, bc, rfl, ldW, hb⟩ := HD.out.get2 j hjl
          have ld := ldW _ hM
          have XO := HD.out.ok _ (List.getElem_mem hjl)
          have ok : HdOk (classP l[j].bs).1.h := by rw [classP_fst]; exact takeP_ok _ hb.byte
          have i0' : (0 : Int) ≤ j := by omega
          have i1 : (j : Int) < L := by omega
          have za := sz_wide XO.at_
          have zs := sz_ends XO.src
          have zt := sz_ends XO.dst
          have oa := one_of_fits XO.at_
          have os := one_of_fits XO.src
          have ot := one_of_fits XO.dst
          have RC := runC_succ win k l j hjl
          have RS := runS_succ win k l j hjl
          have RB := runC_bd win k l j
          have RL := runS_len win k l j
          have RNG := clsM_rng win (playM k l j) l[j]
          have RCL := Lib.hid (fun w (m : Mo W w) => rcls_any _ cap L j l k win w HL.out (HD.out.mo m) HB.out hjl (by omega) (by omega) (by omega) (by omega))
          have FS := Lib.hid (fits_smM (win := win) (E := playM k l j) XO ok)
          have SQ : Hid (clsM win (playM k l j) l[j] = 4 → (smM win (playM k l j) l[j] = smpC (l[j].dst ++ l[j].src) (classP l[j].bs).1.h.o (classP l[j].bs).1.h (wI l[j].at_)) ∧ (classP l[j].bs).2 = 4) := Lib.hid fun c => ⟨by unfold smM; rw [if_pos c], by
            by_cases c1 : (classP l[j].bs).2 = 1
            · unfold clsM at c
              rw [if_pos c1] at c
              split at c <;> omega
            · by_cases c4 : (classP l[j].bs).2 = 4
              · exact c4
              · rw [cls_rest c1 c4] at c; exact c⟩
          obtain ⟨m, hm⟩ : ∃ m, (runS win k l j).length = m := ⟨_, rfl⟩
          have RA : Hid (clsM win (playM k l j) l[j] = 4 → ∃ h : m < (runS win k l L).length, (runS win k l L)[m] = smM win (playM k l j) l[j]) := Lib.hid fun c => by
            subst hm
            have := runS_at win k l j hjl c
            rwa [HL.out] at this
          have RSM := Lib.hid (fun (c : (classP l[j].bs).2 = 4) w (m : Mo W w) => rsample_any l[j] _ w ⟨B1, bc, rfl, hb.mo m⟩ XO (HB.out _ (List.getElem_mem hjl)) c)
          have zq : SzA (smM win (playM k l j) l[j]) 48 := smM_sz XO
          have oq : OneA (smM win (playM k l j) l[j]) := smM_one XO
          generalize smM win (playM k l j) l[j] = SM at *
          generalize clsM win (playM k l j) l[j] = q at *
          generalize smpC (l[j].dst ++ l[j].src) (classP l[j].bs).1.h.o (classP l[j].bs).1.h (wI l[j].at_) = SR at *
          generalize (classP l[j].bs).2 = qc at *
          generalize l[j].at_ = da at *
          generalize l[j].src = ds at *
          generalize l[j].dst = dd at *
          generalize l[j].bs.length = n at *
          have HRS := Lib.hid RS
          have HM := Lib.hid hm
          rw [hm] at RL ⊢
          have hw : IntKind.i64.wrap ((j : Int) + 1) = j + 1 := by rw [IntKind.wrap_i64]; omega
          have hwm : IntKind.i64.wrap ((m : Int) + 1) = m + 1 := by rw [IntKind.wrap_i64]; omega
          have RC' := Lib.hid RC
          clear hjl XO hb ldW RC ok RS hm
          go_wp2_with fail
          refine (RCL.out _ (hM.trans Mor.out)).mono ?_
          rintro e w7 ⟨rfl, M7⟩
          have M07 : Mo wr w7 := (Mor.out : Mo wr _).trans M7
          have b7 : Blk w7 wr.heap.size 41 (dgC da ds dd (.slice B1 n bc)) := M7.blk inferInstance
          have f8 := M07.blk e8
          have f11 := M07.blk e11
          have O7 := Lib.hid (owns_mo HO.out M07)
          have N7 := hM.trans M07
          have lg : g8 + 1 < wr.heap.size := e11.lt
          have q0 := RNG.1
          have q9 : q < 9 := by omega
          have wc : IntKind.i64.wrap (runC win k l j q.toNat + 1) = runC win k l j q.toNat + 1 := by have := RB q.toNat; rw [IntKind.wrap_i64]; omega
          have CG := cn_get (runC win k l j) q RNG.1 RNG.2
          have CS := cn_set (runC win k l j) q RNG.1 RNG.2
          rw [← RC'.out] at CS
          generalize runC win k l j q.toNat = x at *
          have zc : SzA (cnC (runC win k l j)) 9 := ⟨rfl⟩
          generalize cnC (runC win k l j) = CC at *
          have HCS := Lib.hid CS
          clear CS M7 M07 e8 e11 HO RCL ld RB
          go_upto_region 13 with (fail)
          refine wp_name ?_
          intro w8 hw8
          have hw8' : w8 = w7.setCell ⟨g8 + 1, q.toNat, none⟩ (.int .i64 (x + 1)) := by rw [hw8]
          have b8 : Blk w8 wr.heap.size 41 (dgC da ds dd (.slice B1 n bc)) := by rw [hw8']; exact blk_setCell_ne b7 (by omega) _ _
          have h8 : Blk w8 g8 29 (cnC (runC win k l L)) := by rw [hw8']; exact blk_setCell_ne f8 (by omega) _ _
          have h11 : Blk w8 (g8 + 1) 29 (cnC (runC win k l (j + 1))) := by rw [hw8', ← HCS.out]; exact blk_setCell f11 _ _
          have O8 : Hid (w8.ownsRow w1.heap.size 45 48 (.slice Av N cv) N (rowS (runS win k l L))) := Lib.hid (by rw [hw8']; exact owns_set O7.out (fun a ea => by have := (hl2 a ea).2; omega) _ _)
          have N8 : Mo W w8 := by rw [hw8']; exact mo_setCell N7 (by omega) _ _
          clear hw8 hw8' b7 f8 f11 O7 N7 HCS CG wc
          by_cases c4 : q = 4
          · subst c4
            obtain ⟨e1, e2⟩ := SQ.out rfl
            obtain ⟨mlt, mat⟩ := RA.out rfl
            have mN : m < N := by rw [← RN.out]; exact mlt
            obtain ⟨gv, c2, ev, -, hcell⟩ := own_cellsS O8.out SZ.out (by omega)
            injection ev with ev ev' ev''
            subst ev ev''
            have hc := hcell m mlt
            rw [mat] at hc
            have lds : ∀ J d, (loadF 45 (.pointer (some ⟨gv, m * 48, none⟩))).run Try.prog (more w8 J d) = .ok (.agg SM) (more w8 J d) := fun J d => run_loadC 45 48 _ gv (m * 48) _ zq.out (fun jj u hj => by
              have h1 := hc jj u hj
              have : LtW gv w8 := LtW.of_cell h1
              rw [(Mor.out : Mo w8 (more w8 J d)).cell, h1])
            have LG : LtW gv w8 := ⟨by
              rcases O8.out.2 with ⟨h1, _⟩ | ⟨g', _, _, h1, _, h2, _⟩
              · cases h1
              · injection h1 with h1; injection h1 with h1; injection h1 with h1; rw [h1]; exact (Array.getElem?_eq_some_iff.1 h2).1⟩
            have RSM' := Lib.hid (fun w (m : Mo w8 w) => RSM.out e2 w (N8.trans m))
            rw [← e1] at RSM'
            have nq := fun w => run_neq_self fl_samp w FS.out
            have m0 : (0 : Int) ≤ m := by omega
            have m1 : (m : Int) < N := by omega
            have d1 : decide ((N : Int) ≤ m) = false := decide_eq_false (by omega)
            have d1' : decide (N ≤ m) = false := decide_eq_false (by omega)
            have HRS4 : Hid ((runS win k l (j + 1)).length = m + 1) := Lib.hid (by rw [HRS.out, if_pos rfl, List.length_append, HM.out]; rfl)
            clear SQ RSM RA e1 e2 hcell hc mlt mat mN
            go_upto_region 14 with (fail)
            first | (refine wp_region_mo (by kernel_rfl) (by kernel_rfl) ?_) | (refine wp_region_mo' (by kernel_rfl) (by kernel_rfl) ?_)
            repeat (go_big_quiet_step (first | (with_reducible exact quiet_mo (RSM'.out _ Mor.out))))
            refine wpQuiet_nil ?_
            intro _ hw'
            obtain ⟨⟨J9, d9⟩, hw''⟩ := hw'
            subst hw''
            go_wp2_with fail
            go_roundw
            case rel => exact ⟨j + 1, by omega, by go_num, by rw [HRS4.out]; go_num, N8.trans Mor.out, owns_mo O8.out Mor.out, inferInstance, inferInstance⟩
            case measure => simp [intOf]; omega
          · have q4 : (q != 4) = true := by simp [c4]
            have HRS4 : Hid ((runS win k l (j + 1)).length = m) := Lib.hid (by rw [HRS.out, if_neg c4, HM.out])
            clear SQ RA RSM c4
            go_wp2_with fail
            go_roundw
            case rel => exact ⟨j + 1, by omega, by go_num, by rw [HRS4.out], N8.trans Mor.out, owns_mo O8.out Mor.out, inferInstance, inferInstance⟩
            case measure => simp [intOf]; omega
        · have ej : j = L := by omega
          subst ej
          have RB := runC_bd win k l j
          have FC : Hid (Fits (ksOf 29) (cnC (runC win k l j)).toList) := Lib.hid (fits_cnC fun i => by have := RB i; omega)
          have zc : SzA (cnC (runC win k l j)) 9 := ⟨rfl⟩
          generalize cnC (runC win k l j) = CC at *
          have eq := fun w => run_eqlF_self fl_cnt w FC.out
          rw [RN.out]
          have dN : ((N : Int) == (N : Int)) = true := by simp
          clear RB FC
          go_wp2_with fail
          refine (WK.out _).mono ?_
          rintro e w9 ⟨rfl, M9⟩
          go_wp2_with fail
          go_ret
          exact ⟨rfl, hM.trans ((Mor.out : Mo wr _).trans (M9.trans Mor.out))⟩
    · have NO := Lib.hid (fun w => mrun_out A L cap k win ck w)
      obtain ⟨dk, hdk⟩ : ∃ b, (decide (k < 1) || decide (65536 < k) || decide (win < 0) || decide (1152921504606846976 < win)) = b := ⟨_, rfl⟩
      obtain rfl : dk = true := by
        rw [← hdk]
        simp only [Bool.or_eq_true, decide_eq_true_eq]
        omega
      go_enter Try.func4, Try.ntmps4
      go_wp2_with fail
      refine (GR.out _ Mor.out).mono ?_
      rintro e w1 ⟨rfl, M1⟩
      have N1 := (Mor.out : Mo W _).trans M1
      clear M1 GR
      go_wp2_with fail
      refine (NO.out _).mono ?_
      rintro e w2 ⟨rfl, M2⟩
      have N2 := N1.trans (Mo.trans Mor.out M2)
      clear M2 NO
      go_upto_region 4 with (fail)
      refine wp_name ?_
      intro w3 hw3
      have c3 : Blk w3 w2.heap.size 29 cn0 := by rw [hw3]; infer_instance
      have N3 : Mo W w3 := by rw [hw3]; exact N2.trans Mor.out
      clear hw3
      go_cut [39] (fun s39 wx => s39 = .bool true ∧ wx = w3)
      case first =>
        have f : ∀ p : Prop, [Decidable p] → ¬ p → decide p = false := fun p _ h => decide_eq_false h
        by_cases c1 : k < 1
        · have d1 : decide (k < 1) = true := decide_eq_true c1
          clear hdk
          go_wp2_with fail
          go_meet
          exact ⟨rfl, rfl⟩
        · by_cases c2 : 65536 < k
          · have d1 : decide (k < 1) = false := decide_eq_false c1
            have d2 : decide (65536 < k) = true := decide_eq_true c2
            clear hdk
            go_wp2_with fail
            go_meet
            exact ⟨rfl, rfl⟩
          · by_cases c3 : win < 0
            · have d1 : decide (k < 1) = false := decide_eq_false c1
              have d2 : decide (65536 < k) = false := decide_eq_false c2
              have d3 : decide (win < 0) = true := decide_eq_true c3
              clear hdk
              go_wp2_with fail
              go_meet
              exact ⟨rfl, rfl⟩
            · have d1 : decide (k < 1) = false := decide_eq_false c1
              have d2 : decide (65536 < k) = false := decide_eq_false c2
              have d3 : decide (win < 0) = false := decide_eq_false c3
              have d4 : decide (1152921504606846976 < win) = true := decide_eq_true (by omega)
              clear hdk
              go_wp2_with fail
              go_meet
              exact ⟨rfl, rfl⟩
      obtain ⟨rfl, rfl⟩ := hcut
      go_wp2_with fail
      refine (WK.out _).mono ?_
      rintro e w4 ⟨rfl, M3⟩
      have N4 := N3.trans (Mo.trans Mor.out M3)
      go_wp2_with fail
      go_ret
      exact ⟨rfl, N4.trans Mor.out⟩
end Go.Proofs.Ytcflebggepmmcaa
