/- horologeref35: Told. -/
import Derived.Test.YtdgmcgfkammioaaEpR
import Derived.Test.YtdgmcgfkammioaaEpU
namespace Go.Proofs.Ytdgmcgfkammioaa
open Go.RowKit Go.Maps

set_option maxRecDepth 20000 in
theorem infoRIv35 : (Try.prog.info? 79).map (fun i => (i.zero, i.size, i.bytes)) = some (some (.agg #[.int .i64 0, .int .i64 0]), 2, 16) := by kernel_rfl
set_option maxRecDepth 20000 in
theorem own_noT35 {w : World} {b T s n : Nat} {v : Value} {xs : List Value} (h : w.ownsRow b T s v n xs) {t : TypeId} (ne : T ≠ t) : ∀ g, v.ownBlock = some g → NoT t w g := fun g hg => by
  rcases h.2 with ⟨rfl, _⟩ | ⟨g', cap, cur, rfl, hb, hB, _⟩
  · simp [Value.ownBlock] at hg
  · have e : g' = g := by simpa [Value.ownBlock] using hg
    subst e
    exact noT_blk (⟨hB⟩ : Blk w g' T cur) ne
set_option maxRecDepth 20000 in
theorem own_kp35 {S : Nat → Prop} {w w' : World} {b T s n : Nat} {v : Value} {xs : List Value} (h : w.ownsRow b T s v n xs) (k : KpS S w w') (q : ∀ g, S g → NoT T w g) : w'.ownsRow b T s v n xs := by
  refine ⟨h.1, ?_⟩
  rcases h.2 with e | ⟨g', cap, cur, rfl, hb, hB, rest⟩
  · exact .inl e
  · refine .inr ⟨g', cap, cur, rfl, hb, ?_, rest⟩
    exact (k.block g' (Array.getElem?_eq_some_iff.1 hB).1 fun e => q g' e cur _ hB).trans hB
set_option maxRecDepth 20000 in
theorem kpS_grown35 {w w' : World} {row : Option Nat} (hg : w.grownBy w' row) : KpS (fun i => row = some i) w w' := ⟨hg.os, hg.tape, hg.output, hg.size, fun k hk nk => hg.block k hk fun e => nk e.symm⟩
attribute [local go_sem] blk_cell' blk_frozen'
attribute [local go_sem ↓] loadF_wide35 app35_fold loadF_ep storeF_ep
attribute [local go_sem] run_loadF0 run_storeF0
set_option maxRecDepth 20000 in
set_option maxHeartbeats 16000000 in
theorem rtold_any (R b : Nat) (v : Value) (wd : Int) (sv : Nat) (L : List RS) (num : Int) (W : World) (h : RfIs W R b v wd sv L) (hl : L.length ≤ 1000) (w0 : 1 ≤ wd) (w1 : wd ≤ 1152921504606846976) (s1 : sv ≤ 256) :
    Calls Try.prog 14 #[.pointer (some ⟨R, 0, none⟩), .int .i64 num] W fun e w' => ∃ E v, IsTold num sv (bestL (flS wd num L)) E ∧ e = .returned v ∧ EpF w' E v ∧ Mo W w' := by
  have HH := Lib.hid h
  have bR := h.m
  have HOK := Lib.hid h.ok
  have HNU := Lib.hid (fun (a : Int) (ha : InW a) w (bm : Blk w R 30 #[.int .i64 wd, .int .i64 (sv : Nat), v]) => rnum35_any R wd (.int .i64 (sv : Nat)) v a w bm w0 w1 ha)
  have KL := fun k => keysB_len k (bestL (flS wd num L))
  have KS := Lib.hid (fun k => keysB_succ k (bestL (flS wd num L)))
  have IS := Lib.hid (fun k => ivsB_succ k (bestL (flS wd num L)))
  obtain ⟨f, hf⟩ : ∃ f, bestL (flS wd num L) = f := ⟨_, rfl⟩
  have HF := Lib.hid hf
  rw [hf] at KL KS IS ⊢
  obtain ⟨N, hN⟩ : ∃ N, L.length = N := ⟨_, rfl⟩
  have HN := Lib.hid hN
  rw [hN] at hl
  obtain ⟨A, cap, hv⟩ := own_sl35 h.row
  rw [hN] at hv
  subst hv
  obtain ⟨tb, hib, hb0, hb1, hb2⟩ := info_parts infoInt
  obtain ⟨tv, hiv, hv0, hv1, hv2⟩ := info_parts infoRIv35
  clear hf hN h
  go_enter Try.func14, Try.ntmps14
  --@@ r2
  go_upto_region 2 with (fail)
  refine wp_name ?_
  intro wA hwA
  have b4 : Blk wA W.heap.size 38 epz := by rw [hwA]; infer_instance
  have b5 : Blk wA (W.heap.size + 1) 38 #[.int .i64 num, .slice none 0 0, .bool false, .int .i64 0, .int .i64 0, .int .i64 0, .slice none 0 0] := by rw [hwA]; infer_instance
  have MA : Mo W wA := by rw [hwA]; exact Mor.out
  have ltA : W.heap.size + 1 < wA.heap.size := b5.lt
  have HA := Lib.hid (HH.out.mo MA)
  generalize hg4 : W.heap.size = g4 at *
  clear hwA bR
  --@@ loop1
  go_wp2_with fail
  go_loopw [6, 7] (fun x i wr => ∃ (k : Nat) (T : Value), k ≤ sv ∧ i = .int .i64 k ∧ KpS (fun i => i = g4 + 1) wA wr ∧ Blk wr (g4 + 1) 38 #[.int .i64 num, T, .bool false, .int .i64 0, .int .i64 0, .int .i64 0, .slice none 0 0] ∧ wr.ownsRow wA.heap.size 3 1 T (keysB k f).length (i64L (natI (keysB k f))) ∧ wr.ownsRow wA.heap.size 79 2 x (ivsB k f).length (ivL (ivsB k f))) (fun _ i _ => sv - (intOf i).toNat)
  case atStart => exact ⟨0, _, by omega, rfl, KpS.of_mo Mor.out, inferInstance, ⟨rfl, .inl ⟨rfl, rfl⟩⟩, ⟨rfl, .inl ⟨rfl, rfl⟩⟩⟩
  case round =>
    obtain ⟨k, T, hk, rfl, hK, bx, hoT, hoV⟩ := hrel
    have HoT := Lib.hid hoT
    have HoV := Lib.hid hoV
    have nR : R ≠ g4 + 1 := by have := HH.out.m.lt; omega
    have HR : Hid (RfIs wr R b (.slice A N cap) wd sv L) := Lib.hid ⟨hK.blk HA.out.m nR, own_kp35 HA.out.row hK (fun g e => by rw [e]; exact noT_blk b5 (by decide)), HA.out.lt, HOK.out⟩
    have bR : Blk wr R 30 #[.int .i64 wd, .int .i64 (sv : Nat), .slice A N cap] := HR.out.m
    have b4r := hK.blk b4 (by omega)
    have HK := Lib.hid hK
    have hw : IntKind.i64.wrap ((k : Int) + 1) = k + 1 := by rw [IntKind.wrap_i64]; omega
    clear hoT hoV hK
    by_cases ck : k < sv
    · have e1k : (k : Int) < sv := by omega
      --@@ loop2
      go_wp2_with fail
      rename World => wk
      go_loopw [8, 9] (fun bi i wr => ∃ (j : Nat) (bv : Int), j ≤ N ∧ i = .int .i64 j ∧ bi = .int .i64 bv ∧ BIdx wd num L k j bv ∧ Mo wk wr) (fun _ i _ => N - (intOf i).toNat)
      case atStart => exact ⟨0, -1, by omega, rfl, rfl, BIdx.start _ _ _ _, Mor.out⟩
      case round =>
        rename World => wi
        obtain ⟨j, bv, hj, rfl, rfl, hB, hM⟩ := hrel
        have HB := Lib.hid hB
        by_cases cj : j < N
        · have hjl : j < L.length := by rw [HN.out]; exact cj
          have HRi := HR.out.mo hM
          have bRi := HRi.m
          obtain ⟨g, cap', eA, z0, y0, y3, y4, ld⟩ := HRi.get j hjl
          obtain rfl : A = some ⟨g, 0, none⟩ := by injection eA
          have ok := HOK.out _ (List.getElem_mem hjl)
          have HRl : RfIs wi R b (.slice (some ⟨g, 0, none⟩) L.length cap) wd sv L := by rw [HN.out]; exact HRi
          have lds := fun J d => HRl.ld j hjl (Mor.out : Mo wi (more wi J d))
          obtain ⟨sj, hsj⟩ : ∃ x, L[j].s = x := ⟨_, rfl⟩
          obtain ⟨aj, haj⟩ : ∃ x, L[j].at_ = x := ⟨_, rfl⟩
          obtain ⟨dj, hdj⟩ : ∃ x, L[j].d = x := ⟨_, rfl⟩
          obtain ⟨nj, hnj⟩ : ∃ x, nOf wd aj = x := ⟨_, rfl⟩
          have HSJ := Lib.hid hsj
          have HAJ := Lib.hid haj
          have HDJ := Lib.hid hdj
          have HNJ := Lib.hid hnj
          rw [haj] at lds ok
          rw [hsj] at y0 ok
          rw [hdj] at y4
          have NU := Lib.hid (fun w (m : Mo wi w) => HNU.out aj ok.2.2.1 w (m.blk bRi))
          rw [hnj] at NU
          have s0 : 0 ≤ sj := ok.1
          have SK : ∀ q : sj ≠ (k : Int), L[j].s.toNat ≠ k := fun q e => q (by rw [HSJ.out] at e; omega)
          have SY : ∀ q : sj = (k : Int), L[j].s = k := fun q => by rw [HSJ.out]; exact q
          have NN' : ∀ q : nj ≠ num, nOf wd L[j].at_ ≠ num := fun q e => q (by rw [← HNJ.out, ← HAJ.out]; exact e)
          have NY : ∀ q : nj = num, nOf wd L[j].at_ = num := fun q => by rw [HAJ.out, HNJ.out]; exact q
          have HSK := Lib.hid SK
          have HSY := Lib.hid SY
          have HNN := Lib.hid NN'
          have HNY := Lib.hid NY
          have e0 : (0 : Int) ≤ j := by omega
          have e1 : (j : Int) < N := by omega
          have hwj : IntKind.i64.wrap ((j : Int) + 1) = j + 1 := by rw [IntKind.wrap_i64]; omega
          clear hsj haj hdj hnj SK SY NN' NY ok ld y3 eA HRi
          rcases HB.out with ⟨rfl, hb⟩ | ⟨p, rfl, hp, hpl, hb⟩
          · clear hb hB
            by_cases c1 : sj = (k : Int)
            · have d1 : (sj == (k : Int)) = true := by simp [c1]
              by_cases c2 : nj = num
              · have d2 : (nj == num) = true := by simp [c2]
                have HC1 := Lib.hid c1
                have HC2 := Lib.hid c2
                clear c1 c2
                --@@ first
                go_upto_region 10 with (fail)
                first | (refine wp_region_mo (by kernel_rfl) (by kernel_rfl) ?_) | (refine wp_region_mo' (by kernel_rfl) (by kernel_rfl) ?_)
                repeat (go_big_quiet_step (first | (with_reducible exact quiet_mo (NU.out _ Mor.out))))
                refine wpQuiet_nil ?_
                intro _ hw'
                obtain ⟨⟨J9, d9⟩, hw''⟩ := hw'
                subst hw''
                go_wp2_with fail
                go_roundw
                case rel => exact ⟨j + 1, j, by omega, by go_num, rfl, HB.out.first hjl (HSY.out HC1.out) (HNY.out HC2.out), hM.trans Mor.out⟩
                case measure => simp [intOf]; omega
              · have d2 : (nj == num) = false := by simp [c2]
                have HC2 := Lib.hid c2
                clear c1 c2
                --@@ skip1
                go_upto_region 10 with (fail)
                first | (refine wp_region_mo (by kernel_rfl) (by kernel_rfl) ?_) | (refine wp_region_mo' (by kernel_rfl) (by kernel_rfl) ?_)
                repeat (go_big_quiet_step (first | (with_reducible exact quiet_mo (NU.out _ Mor.out))))
                refine wpQuiet_nil ?_
                intro _ hw'
                obtain ⟨⟨J9, d9⟩, hw''⟩ := hw'
                subst hw''
                go_wp2_with fail
                go_roundw
                case rel => exact ⟨j + 1, -1, by omega, by go_num, rfl, HB.out.skip hjl (.inr (HNN.out HC2.out)), hM.trans Mor.out⟩
                case measure => simp [intOf]; omega
            · have d1 : (sj == (k : Int)) = false := by simp [c1]
              have HC1 := Lib.hid c1
              clear c1
              --@@ skip2
              go_upto_region 10 with (fail)
              first | (refine wp_region_mo (by kernel_rfl) (by kernel_rfl) ?_) | (refine wp_region_mo' (by kernel_rfl) (by kernel_rfl) ?_)
              repeat (go_big_quiet_step (first | (with_reducible exact quiet_mo (NU.out _ Mor.out))))
              refine wpQuiet_nil ?_
              intro _ hw'
              obtain ⟨⟨J9, d9⟩, hw''⟩ := hw'
              subst hw''
              go_wp2_with fail
              go_roundw
              case rel => exact ⟨j + 1, -1, by omega, by go_num, rfl, HB.out.skip hjl (.inl (HSK.out HC1.out)), hM.trans Mor.out⟩
              case measure => simp [intOf]; omega
          · have yp : wi.cell? ⟨g, p * 5 + 4, none⟩ = some (.int .i64 L[p].d) := by
              obtain ⟨g', cap', eA', -, -, -, yp, -⟩ := HRl.get p hpl
              injection eA' with eA'
              injection eA' with eA'
              injection eA' with eA'
              rw [eA']
              exact yp
            obtain ⟨dp, hdp⟩ : ∃ x, L[p].d = x := ⟨_, rfl⟩
            have HDP := Lib.hid hdp
            rw [hdp] at yp
            have e2 : (0 : Int) ≤ p := by omega
            have e3 : (p : Int) < N := by omega
            have d3 : decide ((p : Int) < 0) = false := decide_eq_false (by omega)
            have HP := Lib.hid hpl
            clear hb hB hdp
            by_cases c1 : sj = (k : Int)
            · have d1 : (sj == (k : Int)) = true := by simp [c1]
              by_cases c2 : nj = num
              · have d2 : (nj == num) = true := by simp [c2]
                have HC1 := Lib.hid c1
                have HC2 := Lib.hid c2
                clear c1 c2
                by_cases c3 : dj < dp
                · have d4 : decide (dj < dp) = true := decide_eq_true c3
                  --@@ less
                  go_upto_region 10 with (fail)
                  first | (refine wp_region_mo (by kernel_rfl) (by kernel_rfl) ?_) | (refine wp_region_mo' (by kernel_rfl) (by kernel_rfl) ?_)
                  repeat (go_big_quiet_step (first | (with_reducible exact quiet_mo (NU.out _ Mor.out))))
                  refine wpQuiet_nil ?_
                  intro _ hw'
                  obtain ⟨⟨J9, d9⟩, hw''⟩ := hw'
                  subst hw''
                  go_wp2_with fail
                  go_roundw
                  case rel => exact ⟨j + 1, j, by omega, by go_num, rfl, HB.out.less hjl HP.out (HSY.out HC1.out) (HNY.out HC2.out) (by rw [HDJ.out, HDP.out]; exact c3), hM.trans Mor.out⟩
                  case measure => simp [intOf]; omega
                · have d4 : decide (dj < dp) = false := decide_eq_false c3
                  --@@ keep
                  go_upto_region 10 with (fail)
                  first | (refine wp_region_mo (by kernel_rfl) (by kernel_rfl) ?_) | (refine wp_region_mo' (by kernel_rfl) (by kernel_rfl) ?_)
                  repeat (go_big_quiet_step (first | (with_reducible exact quiet_mo (NU.out _ Mor.out))))
                  refine wpQuiet_nil ?_
                  intro _ hw'
                  obtain ⟨⟨J9, d9⟩, hw''⟩ := hw'
                  subst hw''
                  go_wp2_with fail
                  go_roundw
                  case rel => exact ⟨j + 1, p, by omega, by go_num, rfl, HB.out.keep hjl HP.out (HSY.out HC1.out) (HNY.out HC2.out) (by rw [HDJ.out, HDP.out]; exact c3), hM.trans Mor.out⟩
                  case measure => simp [intOf]; omega
              · have d2 : (nj == num) = false := by simp [c2]
                have HC2 := Lib.hid c2
                clear c1 c2
                --@@ skip3
                go_upto_region 10 with (fail)
                first | (refine wp_region_mo (by kernel_rfl) (by kernel_rfl) ?_) | (refine wp_region_mo' (by kernel_rfl) (by kernel_rfl) ?_)
                repeat (go_big_quiet_step (first | (with_reducible exact quiet_mo (NU.out _ Mor.out))))
                refine wpQuiet_nil ?_
                intro _ hw'
                obtain ⟨⟨J9, d9⟩, hw''⟩ := hw'
                subst hw''
                go_wp2_with fail
                go_roundw
                case rel => exact ⟨j + 1, p, by omega, by go_num, rfl, HB.out.skip hjl (.inr (HNN.out HC2.out)), hM.trans Mor.out⟩
                case measure => simp [intOf]; omega
            · have d1 : (sj == (k : Int)) = false := by simp [c1]
              have HC1 := Lib.hid c1
              clear c1
              --@@ skip4
              go_upto_region 10 with (fail)
              first | (refine wp_region_mo (by kernel_rfl) (by kernel_rfl) ?_) | (refine wp_region_mo' (by kernel_rfl) (by kernel_rfl) ?_)
              repeat (go_big_quiet_step (first | (with_reducible exact quiet_mo (NU.out _ Mor.out))))
              refine wpQuiet_nil ?_
              intro _ hw'
              obtain ⟨⟨J9, d9⟩, hw''⟩ := hw'
              subst hw''
              go_wp2_with fail
              go_roundw
              case rel => exact ⟨j + 1, p, by omega, by go_num, rfl, HB.out.skip hjl (.inl (HSK.out HC1.out)), hM.trans Mor.out⟩
              case measure => simp [intOf]; omega
        · obtain rfl : N = j := by omega
          have HB' : BIdx wd num L k L.length bv := by rw [HN.out]; exact hB
          have b4i := hM.blk b4r
          have bxi := hM.blk bx
          have oTi := Lib.hid (owns_mo HoT.out hM)
          have oVi := Lib.hid (owns_mo HoV.out hM)
          have HRi := HR.out.mo hM
          have bRi := HRi.m
          have HKi := Lib.hid (HK.out.trans (KpS.of_mo hM) fun _ _ q => q)
          clear hB HB b4r bx HoT HoV bR
          by_cases cb : bv < 0
          · have fk : f k = none := by rw [← HF.out]; exact HB'.none cb
            have d5 : decide ((0 : Int) ≤ bv) = false := decide_eq_false (by omega)
            have K1 : Hid (keysB (k + 1) f = keysB k f) := Lib.hid (by rw [KS.out, fk]; simp)
            have V1 : Hid (ivsB (k + 1) f = ivsB k f) := Lib.hid (by rw [IS.out, fk]; simp)
            clear HB' fk cb
            --@@ none
            go_wp2_with fail
            go_roundw
            case rel => exact ⟨k + 1, T, by omega, by go_num, HKi.out.trans (KpS.of_mo Mor.out) (fun _ _ q => q), inferInstance, by rw [K1.out]; exact owns_mo oTi.out Mor.out, by rw [V1.out]; exact owns_mo oVi.out Mor.out⟩
            case measure => simp [intOf]; omega
          · obtain ⟨p, rfl, hpl, hfp⟩ := HB'.some (by omega)
            rw [HF.out] at hfp
            obtain ⟨g, cap', eA, -, -, y3, y4, -⟩ := HRi.get p hpl
            obtain rfl : A = some ⟨g, 0, none⟩ := by injection eA
            have okp := (HOK.out _ (List.getElem_mem hpl)).2.2.2
            have pN : p < N := by rw [← HN.out]; exact hpl
            obtain ⟨po, hpo⟩ : ∃ x, L[p].o = x := ⟨_, rfl⟩
            obtain ⟨pd, hpd⟩ : ∃ x, L[p].d = x := ⟨_, rfl⟩
            have HPO := Lib.hid hpo
            have HPD := Lib.hid hpd
            have HPL := Lib.hid hpl
            rw [hpo, hpd] at okp hfp
            rw [hpo] at y3
            rw [hpd] at y4
            have AR := Lib.hid (fun w => raround_any po pd w okp.1 okp.2)
            have K1 : Hid (i64L (natI (keysB (k + 1) f)) = i64L (natI (keysB k f)) ++ [.int .i64 (k : Int)]) := Lib.hid (by rw [KS.out, hfp, ← natI_snoc35]; simp)
            have K2 : Hid ((keysB (k + 1) f).length = (keysB k f).length + 1) := Lib.hid (by rw [KS.out, hfp]; simp)
            have V1 : Hid (ivL (ivsB (k + 1) f) = ivL (ivsB k f) ++ [.int .i64 (ivP (po, pd)).lo, .int .i64 (ivP (po, pd)).hi]) := Lib.hid (by rw [IS.out, hfp]; exact ivL_snoc _ _)
            have V2 : Hid ((ivsB (k + 1) f).length = (ivsB k f).length + 1) := Lib.hid (by rw [IS.out, hfp]; simp)
            have lT := KL k
            have lV : (ivsB k f).length ≤ k := by rw [ivsB_len]; exact lT
            generalize (ivP (po, pd)).lo = lo at *
            generalize (ivP (po, pd)).hi = hi at *
            have d5 : decide ((0 : Int) ≤ p) = true := decide_eq_true (by omega)
            have e2 : (0 : Int) ≤ p := by omega
            have e3 : (p : Int) < N := by omega
            clear HB' cb hfp okp eA hpo hpd KS IS KL
            obtain ⟨AV, cV, rfl⟩ := own_sl35 oVi.out
            --@@ r13
            go_wp2_with (at_builtin; refine wpList_append_own _ rfl _ _ 36 rfl wA.heap.size 3 tb (.int .i64 0) 1 8 Try.underlying36 hib hb0 hb1 hb2 rfl (by decide) _ _ _ rfl (owns_mo oTi.out (Mor.out : Mo wi _)) ⟨wi.heap.size, 0, none⟩ 1 1 [.int .i64 (k : Int)] rfl rfl ?c1 ?c2 ?c3 ?c4 ?c5 ?_)
            case c1 => exact cell_one_new _ _ _
            case c2 => simp [Value.oneCell']
            case c3 => unfold maxLen; omega
            case c4 => omega
            case c5 => have := HKi.out.size; simp; omega
            intro T' w5 hown1 hgrow _
            obtain ⟨g5, c5, rfl⟩ := ownsRow_succ hown1
            have KW : KpS (fun i => T.ownBlock = some i) wi w5 := (KpS.of_mo (Mor.out : Mo wi _)).trans (kpS_grown35 hgrow) fun _ _ q => q
            have lT5 := fun g => hown1.lt g
            have bx5 := KW.blk bxi (fun q => by have := (oTi.out.lt _ q).1; omega)
            have b45 := KW.blk b4i (fun q => by have := (oTi.out.lt _ q).1; omega)
            have oV5 := own_kp35 oVi.out KW (own_noT35 oTi.out (by decide))
            have R5 : RfIs w5 R b (.slice (some ⟨g, 0, none⟩) N cap) wd sv L := ⟨KW.blk bRi (fun q => own_noT35 oTi.out (t := 30) (by decide) R q _ _ bRi.out), own_kp35 HRi.row KW (own_noT35 oTi.out (by decide)), HRi.lt, HRi.ok⟩
            have K5 : KpS (fun i => i = g4 + 1) wA w5 := HKi.out.trans KW fun i hi q => by have := (oTi.out.lt i q).1; omega
            clear hgrow KW
            --@@ r14
            go_upto_region 14 with (fail)
            refine wp_name ?_
            intro w6 hw6
            have K56 : KpS (fun i => i = g4 + 1) w5 w6 := by rw [hw6]; exact (KpS.refl (fun i => i = g4 + 1) w5).cell rfl 1 _
            have bx6 : Blk w6 (g4 + 1) 38 #[.int .i64 num, .slice (some ⟨g5, 0, none⟩) ((keysB k f).length + 1) c5, .bool false, .int .i64 0, .int .i64 0, .int .i64 0, .slice none 0 0] := by rw [hw6]; exact ⟨(blk_setCell bx5 1 (.slice (some ⟨g5, 0, none⟩) ((keysB k f).length + 1) c5)).out⟩
            have oT6 := Lib.hid (show w6.ownsRow wA.heap.size 3 1 (.slice (some ⟨g5, 0, none⟩) ((keysB k f).length + 1) c5) ((keysB k f).length + 1) _ from by rw [hw6]; exact owns_set35 hown1 (fun e => by have := (hown1.lt _ e.symm).1; omega) 1 _)
            have b46 := K56.blk b45 (by omega)
            have nE : ∀ {t : TypeId}, 38 ≠ t → ∀ g, g = g4 + 1 → NoT t w5 g := fun ne g e => by rw [e]; exact noT_blk bx5 ne
            have oV6 := Lib.hid (own_kp35 oV5 K56 (nE (by decide)))
            have R6 : RfIs w6 R b (.slice (some ⟨g, 0, none⟩) N cap) wd sv L := ⟨K56.blk R5.m nR, own_kp35 R5.row K56 (nE (by decide)), R5.lt, R5.ok⟩
            have K6 := Lib.hid (K5.trans K56 fun _ _ q => q)
            have HOLD : ∀ w', KpS (fun i => (Value.slice AV (ivsB k f).length cV).ownBlock = some i) w6 w' → w'.cell? ⟨R, 2, none⟩ = some (.slice (some ⟨g, 0, none⟩) N cap) ∧ w'.cell? ⟨g, p * 5 + 3, none⟩ = some (.int .i64 po) ∧ w'.cell? ⟨g, p * 5 + 4, none⟩ = some (.int .i64 pd) := fun w' kk => by
              have R' : RfIs w' R b (.slice (some ⟨g, 0, none⟩) N cap) wd sv L := ⟨kk.blk R6.m (fun q => own_noT35 oV6.out (t := 30) (by decide) R q _ _ R6.m.out), own_kp35 R6.row kk (own_noT35 oV6.out (by decide)), R6.lt, R6.ok⟩
              obtain ⟨g', cap', e', -, -, z3, z4, -⟩ := R'.get p HPL.out
              injection e' with e'
              injection e' with e'
              injection e' with e'
              refine ⟨by rw [blk_cell R'.m]; rfl, ?_, ?_⟩
              · rw [e', ← HPO.out]; exact z3
              · rw [e', ← HPD.out]; exact z4
            clear hw6 K5 bx5 b45 oV5 R5 K56 nE y3 y4 hown1
            have H1 := HOLD w6 (KpS.refl _ _)
            go_region_held3 (fun w' => w'.cell? ⟨R, 2, none⟩ = some (.slice (some ⟨g, 0, none⟩) N cap) ∧ w'.cell? ⟨g, p * 5 + 3, none⟩ = some (.int .i64 po) ∧ w'.cell? ⟨g, p * 5 + 4, none⟩ = some (.int .i64 pd)) (first | exact HOLD _ (KpS.of_mo Mor.out) | exact HOLD _ KA)
              (first
                | ((with_reducible refine (AR.out _).mono ?_)
                   rintro e w9 ⟨rfl, M9⟩
                   have iR9 : Mor w6 w9 := ⟨(Mor.out : Mo w6 _).trans M9⟩)
                | (refine step_own2 (by rfl) (.tmp 90) (.tmp 108) 77 (by rfl) wA.heap.size 79 tv (.agg #[.int .i64 0, .int .i64 0]) 2 16 Try.underlying77 hiv hv0 hv1 hv2 rfl (by decide) _ _ _ (by rfl) (owns_mo oV6.out (Mor.out : Mo w6 _)) ⟨w9.heap.size, 0, none⟩ 1 1 [.int .i64 lo, .int .i64 hi] (by rfl) (by rfl) (news_of_blk (t := 79) (cs := #[.int .i64 lo, .int .i64 hi]) inferInstance _ rfl) (by intro u hu; simp at hu; rcases hu with rfl | rfl <;> rfl) (by unfold maxLen; omega) (by omega) (by have h1 := K6.out.size; have h2 := (Mor.out : Mo w6 w9).size; simp; omega) ?_
                   intro vc wc OC GC _
                   have KA := (KpS.of_mo (Mor.out : Mo w6 _)).trans (kpS_grown35 GC) fun _ _ q => q))
            all_goals (
              have bx7 := KA.blk bx6 (fun q => by have := (oVi.out.lt _ q).1; omega)
              have oT7 := Lib.hid (own_kp35 oT6.out KA (own_noT35 oV6.out (by decide)))
              have K7 := Lib.hid (K6.out.trans KA fun i hi q => by have := (oVi.out.lt i q).1; omega)
              have OC' := Lib.hid OC
              clear OC KA bx6 b46 oT6 oV6 H1 HOLD AR
              go_wp2_with fail
              go_roundw
              case rel => exact ⟨k + 1, .slice (some ⟨g5, 0, none⟩) ((keysB k f).length + 1) c5, by omega, by go_num, K7.out.trans (KpS.of_mo Mor.out) (fun _ _ q => q), inferInstance, by rw [K1.out, K2.out]; exact owns_mo oT7.out Mor.out, by rw [V1.out, V2.out]; exact owns_mo OC'.out Mor.out⟩
              case measure => simp [intOf]; omega)
    · obtain rfl : sv = k := by omega
      obtain ⟨AT, cT, rfl, IT⟩ := own_intT HoT.out (natI_length _)
      obtain ⟨AV, cV, rfl, RV⟩ := own_ivs HoV.out rfl
      have lV : (ivsB sv f).length ≤ 65536 := by rw [ivsB_len]; have := KL sv; omega
      have FI := Lib.hid (fun w (m : Mo wr w) => rfind_any (ivsB sv f) AV cV w (RV.mo m) lV)
      have HIT := Lib.hid IT
      have n256 := KL sv
      obtain ⟨n3, hn3⟩ : ∃ n, (keysB sv f).length = n := ⟨_, rfl⟩
      have HN3 := Lib.hid hn3
      have HNV : Hid ((ivsB sv f).length = n3) := Lib.hid (by rw [ivsB_len]; exact hn3)
      rw [hn3] at bx n256
      rw [ivsB_len, hn3] at FI ⊢
      clear hn3 HoT HoV IT RV KL KS IS lV hw
      --@@ find
      go_wp2_with fail
      refine (FI.out _ Mor.out).mono ?_
      intro e w5 h5
      obtain ⟨M5, H5⟩ : _ ∧ _ := h5
      have K5 := Lib.hid (HK.out.trans (KpS.of_mo M5) fun _ _ q => q)
      have bx5 := M5.blk bx
      have b45 := M5.blk b4r
      have I5 := Lib.hid (HIT.out.mo M5)
      have lt5 : wA.heap.size ≤ w5.heap.size := K5.out.size
      clear FI bx b4r HIT HR HK
      rcases H5 with ⟨iv, fl, vw, hfi, rfl, own⟩ | ⟨hno, rfl⟩
      · rw [natL_eq] at own
        obtain ⟨A5, c5, rfl, IW⟩ := own_intT own (natI_length _)
        have HFI := Lib.hid hfi
        have TL : (trueL (ivsB sv f) iv).length ≤ n3 := by rw [← HNV.out]; exact trueT_len (ivsB sv f) iv (ivsB sv f).length
        obtain ⟨n5, hn5⟩ : ∃ n, (trueL (ivsB sv f) iv).length = n := ⟨_, rfl⟩
        have HN5 := Lib.hid hn5
        rw [hn5] at TL ⊢
        obtain ⟨lo, hi⟩ := iv
        clear hfi own hn5 M5
        --@@ found
        go_upto_region 16 with (fail)
        refine wp_name ?_
        intro w6 hw6
        have b10 : Blk w6 w5.heap.size 79 #[.int .i64 lo, .int .i64 hi] := by rw [hw6]; infer_instance
        have M56 : Mo w5 w6 := by rw [hw6]; exact Mor.out
        have K6 := Lib.hid (K5.out.trans (KpS.of_mo M56) fun _ _ q => q)
        have bx6 := M56.blk bx5
        have b46 := M56.blk b45
        have I6 := Lib.hid (I5.out.mo M56)
        have IW6 := Lib.hid (IW.mo M56)
        generalize w5.heap.size = g10 at *
        clear hw6 M56 K5 bx5 b45 I5 IW
        --@@ r22
        go_upto_region 22 with (fail)
        refine wp_name ?_
        intro w7 hw7
        have bx7 : Blk w7 (g4 + 1) 38 #[.int .i64 num, .slice AT n3 cT, .bool true, .int .i64 lo, .int .i64 hi, .int .i64 (fl : Nat), .slice none 0 0] := by rw [hw7]; exact ⟨(blk_setCell (blk_setCell (blk_setCell (blk_setCell bx6 2 (.bool true)) 3 (.int .i64 lo)) 4 (.int .i64 hi)) 5 (.int .i64 (fl : Nat))).out⟩
        have K67 : KpS (fun i => i = g4 + 1) w6 w7 := by rw [hw7]; exact ((((KpS.refl (fun i => i = g4 + 1) w6).cell rfl 2 _).cell rfl 3 _).cell rfl 4 _).cell rfl 5 _
        have nE : ∀ g, g = g4 + 1 → NoT 3 w6 g := fun g e => by rw [e]; exact noT_blk bx6 (by decide)
        have b47 := K67.blk b46 (by omega)
        have I7 := Lib.hid (I6.out.kp K67 nE)
        have IW7 := Lib.hid (IW6.out.kp K67 nE)
        have K7 := Lib.hid (K6.out.trans K67 fun _ _ q => q)
        have lt7 : wA.heap.size ≤ w7.heap.size := K7.out.size
        clear hw7 bx6 b46 I6 IW6 K67 K6 nE b10
        --@@ loop3
        go_wp2_with fail
        go_loopw [14] (fun i wr => ∃ (k : Nat) (T : Value), k ≤ n5 ∧ i = .int .i64 k ∧ KpS (fun i => i = g4 + 1) w7 wr ∧ Blk wr (g4 + 1) 38 #[.int .i64 num, .slice AT n3 cT, .bool true, .int .i64 lo, .int .i64 hi, .int .i64 (fl : Nat), T] ∧ wr.ownsRow w7.heap.size 3 1 T k (i64L (natI (((trueL (ivsB sv f) ⟨lo, hi⟩).take k).map fun q => (keysB sv f).getD q 0)))) (fun i _ => n5 - (intOf i).toNat)
        case atStart => exact ⟨0, _, by omega, rfl, KpS.of_mo Mor.out, inferInstance, ⟨rfl, .inl ⟨rfl, rfl⟩⟩⟩
        case round =>
          rename World => wx
          obtain ⟨k, T, hk, rfl, hK, bx, hown⟩ := hrel
          have noT7 : ∀ g, g = g4 + 1 → NoT 3 w7 g := fun g e => by rw [e]; exact noT_blk bx7 (by decide)
          by_cases ck : k < n5
          · have hkl : k < (trueL (ivsB sv f) ⟨lo, hi⟩).length := by rw [HN5.out]; exact ck
            obtain ⟨gW, offW, rfl, hcW⟩ := (IW7.out.kp hK noT7).row.resolve_left (fun e => by have h0 := congrArg List.length e; rw [natI_length] at h0; have h1 : (trueL (ivsB sv f) ⟨lo, hi⟩).length = 0 := h0; omega)
            have yW := hcW k (by rw [natI_length]; exact hkl)
            rw [natI_get35 hkl] at yW
            have hq : (trueL (ivsB sv f) ⟨lo, hi⟩)[k] < n3 := by
              have := trueL_lt _ _ _ (List.getElem_mem hkl)
              rwa [HNV.out] at this
            have SN := Lib.hid (trT_snoc (ivsB sv f) ⟨lo, hi⟩ (keysB sv f) k hkl)
            generalize (trueL (ivsB sv f) ⟨lo, hi⟩)[k] = q at *
            have hql : q < (keysB sv f).length := by rw [HN3.out]; exact hq
            obtain ⟨gS, offS, rfl, hcS⟩ := (I7.out.kp hK noT7).row.resolve_left (fun e => by have h0 := congrArg List.length e; rw [natI_length] at h0; have h1 : (keysB sv f).length = 0 := h0; omega)
            have yS := hcS q (by rw [natI_length]; exact hql)
            obtain ⟨x, hx⟩ : ∃ x, (keysB sv f).getD q 0 = x := ⟨_, rfl⟩
            have ex : (natI (keysB sv f))[q]'(by rw [natI_length]; exact hql) = (x : Int) := by
              rw [← hx, List.getD_eq_getElem?_getD, List.getElem?_eq_getElem hql]
              unfold natI
              rw [List.getElem_map]
              rfl
            rw [ex] at yS
            rw [hx] at SN
            have zW : LtW gW wx := LtW.of_cell yW
            have zS : LtW gS wx := LtW.of_cell yS
            have e0 : (0 : Int) ≤ k := by omega
            have e1 : (k : Int) < n5 := by omega
            have e2 : (0 : Int) ≤ q := by omega
            have e3 : (q : Int) < n3 := by omega
            have hw : IntKind.i64.wrap ((k : Int) + 1) = k + 1 := by rw [IntKind.wrap_i64]; omega
            have yT : wx.cell? ⟨g4 + 1, 6, none⟩ = some T := by rw [blk_cell bx]; rfl
            have hT := (Mor.out : Mo wx ((wx.alloc (.cells #[.int .i64 (x : Int)] 3)).drew))
            obtain ⟨v4, w4, hrun, hown4, hgrow4, -, -⟩ := run_append_own_at (P := Try.prog) ((wx.alloc (.cells #[.int .i64 (x : Int)] 3)).drew) w7.heap.size 36 36 3 tb (.int .i64 0) 1 8 Try.underlying36 hib hb0 hb1 hb2 rfl (by decide) _ _ _ (owns_mo hown hT) ⟨wx.heap.size, 0, none⟩ 1 1 [.int .i64 (x : Int)] rfl (news_of_blk (g := wx.heap.size) (t := 3) (cs := #[.int .i64 (x : Int)]) inferInstance _ rfl) (by intro u hu; simp at hu; subst hu; rfl) (by unfold maxLen; omega) (by omega) (by have := hK.size; simp; omega)
            replace hrun : (app35 #[36, 36] 36 #[T, .slice (some ⟨wx.heap.size, 0, none⟩) 1 1]).run Try.prog _ = .ok v4 w4 := hrun
            obtain ⟨g9, c9, rfl⟩ := ownsRow_succ hown4
            have ltg : g4 + 1 < w7.heap.size := bx7.lt
            have gne : some (g4 + 1) ≠ T.ownBlock := fun e => by
              have := (hown.lt _ e.symm).1
              omega
            have hB4 : Blk w4 (g4 + 1) 38 #[.int .i64 num, .slice (some ⟨gS, offS, none⟩) n3 cT, .bool true, .int .i64 lo, .int .i64 hi, .int .i64 (fl : Nat), T] := ⟨(hgrow4.block (g4 + 1) (by have := bx.lt; simp; omega) gne).trans (hT.blk bx).out⟩
            rw [← natI_snoc35] at hown4
            have K4 : KpS (fun i => i = g4 + 1) w7 w4 := by
              refine (hK.trans (KpS.of_mo hT) fun _ _ q => q).grown35 hgrow4 fun j e => ?_
              exact (hown.lt j e).1
            have HOR := Lib.hid (owns_set35 hown4 (R := g4 + 1) (fun e => by have := (hown4.lt _ e.symm).1; omega) 6 (.slice (some ⟨g9, 0, none⟩) (k + 1) c9))
            have HOB := Lib.hid (blk_setCell hB4 6 (.slice (some ⟨g9, 0, none⟩) (k + 1) c9))
            have HOK := Lib.hid (K4.cell rfl 6 (.slice (some ⟨g9, 0, none⟩) (k + 1) c9))
            clear hown4 hgrow4 gne hT K4 hK hcW hcS hx ex noT7 hkl hq hql hown
            --@@ r25
            go_upto_region 25 with (fail)
            go_region
            go_wp2_with fail
            go_roundw
            case rel => exact ⟨k + 1, _, by omega, by go_num, HOK.out.trans (KpS.of_mo Mor.out) (fun _ _ q => q), Mo.blk Mor.out ⟨HOB.out.out⟩, by rw [SN.out]; exact owns_mo HOR.out Mor.out⟩
            case measure => simp [intOf]; omega
          · obtain rfl : n5 = k := by omega
            have et : (trueL (ivsB sv f) ⟨lo, hi⟩).take n5 = trueL (ivsB sv f) ⟨lo, hi⟩ := List.take_of_length_le (by rw [HN5.out]; exact Nat.le_refl _)
            rw [et] at hown
            obtain ⟨A6, c6, rfl, I6⟩ := own_intT hown (by rw [natI_length, List.length_map]; exact HN5.out)
            have I3x := I7.out.kp hK noT7
            have b4x := hK.blk b47 (show g4 ≠ g4 + 1 by omega)
            have Mx : Mo W wx := (K7.out.trans hK fun _ _ q => q).mo MA fun q _ e => by rw [e]; omega
            have HI6 := Lib.hid I6
            have HI3x := Lib.hid I3x
            clear hown I6 I3x et noT7 hK
            --@@ end
            go_wp2_with fail
            refine retV_c rfl g4 #[.int .i64 num, .slice AT n3 cT, .bool true, .int .i64 lo, .int .i64 hi, .int .i64 (fl : Nat), .slice A6 n5 c6] rfl rfl rfl (blk_setRow b4x) ?_
            refine ⟨⟨num, keysB sv f, true, lo, hi, fl, (trueL (ivsB sv f) ⟨lo, hi⟩).map fun q => (keysB sv f).getD q 0⟩, _, ⟨_, HFI.out, rfl⟩, rfl, ⟨AT, cT, A6, c6, ?_, HI3x.out.setRow b4x (by decide) _, HI6.out.setRow b4x (by decide) _⟩, mo_setRow Mx (by omega) _⟩
            simp only [List.length_map]
            rw [HN3.out, HN5.out]
      · have HNO := Lib.hid hno
        have M5' : Mo W w5 := K5.out.mo MA fun q _ e => by rw [e]; omega
        clear hno M5
        --@@ none
        go_upto_region 16 with (fail)
        refine wp_name ?_
        intro w6 hw6
        have M56 : Mo w5 w6 := by rw [hw6]; exact Mor.out
        have bx6 := M56.blk bx5
        have b46 := M56.blk b45
        clear hw6 bx5 b45
        --@@ none2
        go_wp2_with fail
        refine retV_c rfl g4 #[.int .i64 num, .slice AT n3 cT, .bool false, .int .i64 0, .int .i64 0, .int .i64 0, .slice none 0 0] rfl rfl rfl (blk_setRow b46) ?_
        refine ⟨⟨num, keysB sv f, false, 0, 0, 0, []⟩, _, ⟨_, HNO.out, rfl⟩, rfl, ⟨AT, cT, none, 0, ?_, (I5.out.mo M56).setRow b46 (by decide) _, .inl rfl⟩, mo_setRow (M5'.trans M56) (by omega) _⟩
        rw [HN3.out]
        rfl
end Go.Proofs.Ytdgmcgfkammioaa
