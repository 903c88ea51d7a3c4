/- horologeref36.Of: the walk. -/
import Derived.Test.YthgkhllkhhnlpaaPlT
namespace Go.Proofs.Ythgkhllkhhnlpaa
open Go.RowKit Go.Maps

noncomputable def ofK (o : Nat) (x : Int) (L : List Deed) (num : Int) : List Tau := if num < 0 then [] else taus (gridD x (smpD L)) o
def ofS (wd : Nat) (bd : Int) (L : List Deed) (num : Int) : List (Nat × Int × Int) := if num < 0 then [] else stepsR wd bd ((smpD L).map odS)
noncomputable def ofV (o wd : Nat) (x bd : Int) (L : List Deed) (num : Int) : Int := if num < 0 then 0 else 1 + (liveM (gridD x (smpD L)) o : Nat) + (min (smpD L).length (2 * wd) : Nat) + (min (stepsR wd bd ((smpD L).map odS)).length 16 : Nat)
/-- the told value of a number -/
structure OfIs (b : Nat) (w : World) (o wd : Nat) (x bd : Int) (L : List Deed) (num : Int) (v : Value) : Prop where
  ex : ∃ tv sv, v = .agg (tdC (cntD L) (totS6 (sumL ((smpD L).map (·.o)))) (totS6 (sumL ((smpD L).map (·.d)))) (totS6 (sumL ((smpD L).map (·.s)))) tv sv (ofV o wd x bd L num)) ∧ w.ownsRow b 117 5 tv (ofK o x L num).length (tauRow (ofK o x L num)) ∧ w.ownsRow b 115 3 sv (ofS wd bd L num).length (stpL (ofS wd bd L num))
  neg : num < 0 → v = .agg (tdC (cntD L) (totS6 (sumL ((smpD L).map (·.o)))) (totS6 (sumL ((smpD L).map (·.d)))) (totS6 (sumL ((smpD L).map (·.s)))) (.slice none 0 0) (.slice none 0 0) 0)
set_option maxRecDepth 20000 in
theorem KeptP.ads {b b' : Nat} {w w' : World} {v : Value} {ns : List (Array Value)} (h : AdsIs b' w v ns) (k : KeptP b w w') : AdsIs b' w' v ns := h.keep fun q cs B => k.k q _ cs (by decide) (by decide) B
set_option maxRecDepth 20000 in
theorem RefR.cnt {b : Nat} {w : World} {p : Nat} {L : List Deed} {v9 v10 v11 v12 : Value} (h : RefR b w p L v9 v10 v11 v12) {d : Deed} (hp : d.put = false) (hk : d.k < 9) : RefR b (w.setCell ⟨p, d.k, none⟩ (.int .i64 (cntD L d.k + 1))) p (L ++ [d]) v9 v10 v11 v12 := by
  have es := smp_no (L := L) hp
  refine ⟨⟨?_, ?_⟩, ?_, ?_, ?_, h.ad, h.ae, h.de, ?_⟩
  · rw [es]; exact owns_cellT h.s.row h.o (by decide) _ _
  · rw [es]; exact h.s.ok
  · rw [es]; exact owns_cellT h.a h.o (by decide) _ _
  · rw [es]; exact owns_cellT h.d h.o (by decide) _ _
  · rw [es]; exact owns_cellT h.e h.o (by decide) _ _
  · rw [cnt_no hp, if_pos hk]
    have := blk_setCell h.o d.k (.int .i64 (cntD L d.k + 1))
    rwa [td_inc rfl rfl rfl d.k hk] at this
set_option maxRecDepth 20000 in
theorem RefR.skip {b : Nat} {w : World} {p : Nat} {L : List Deed} {v9 v10 v11 v12 : Value} (h : RefR b w p L v9 v10 v11 v12) {d : Deed} (hp : d.put = false) (hk : ¬ d.k < 9) : RefR b w p (L ++ [d]) v9 v10 v11 v12 := by
  have es := smp_no (L := L) hp
  exact ⟨⟨by rw [es]; exact h.s.row, by rw [es]; exact h.s.ok⟩, by rw [es]; exact h.a, by rw [es]; exact h.d, by rw [es]; exact h.e, h.ad, h.ae, h.de, by rw [cnt_no hp, if_neg hk]; exact h.o⟩
set_option maxRecDepth 20000 in
theorem sel_take (ns : List (Array Value)) (num : Int) (l : List Deed) (j : Nat) (hj : j < l.length) : selD ns num (l.take (j + 1)) = selD ns num (l.take j ++ [l[j]]) := by
  rw [List.take_add_one, List.getElem?_eq_getElem hj]
  rfl
set_option maxRecDepth 20000 in
theorem cntD_bd (L : List Deed) (k : Nat) : 0 ≤ cntD L k ∧ cntD L k ≤ L.length := by
  refine snoc_indD (p := fun L => 0 ≤ cntD L k ∧ cntD L k ≤ L.length) ⟨Int.le_refl _, Int.le_refl _⟩ (fun L d ih => ?_) L
  rw [cnt_snoc, List.length_append, List.length_singleton]
  unfold cntF incF
  split
  · omega
  · split
    · show 0 ≤ (if k = d.k then cntD L k + 1 else cntD L k) ∧ (if k = d.k then cntD L k + 1 else cntD L k) ≤ _
      split <;> omega
    · omega
set_option maxRecDepth 20000 in
instance sz_zdoP : SzA Try.zeroCells47 67 := ⟨by kernel_rfl⟩
abbrev z30 : Array Value := #[.int .i64 0, .int .i64 0, .int .i64 0, .int .i64 0, .int .i64 0, .int .i64 0, .int .i64 0, .int .i64 0, .int .i64 0, .int .i64 0, .int .i64 0, .int .i64 0, .int .i64 0, .int .i64 0, .int .u64 0, .int .i64 0, .int .i64 0, .int .i64 0, .int .i64 0, .int .i64 0, .int .u64 0, .int .i64 0, .int .i64 0, .int .i64 0, .int .i64 0, .int .i64 0, .int .u64 0, .slice none 0 0, .slice none 0 0, .int .i64 0]
set_option maxRecDepth 20000 in
theorem z30_eq : z30 = tdC (fun _ => 0) z6L z6L z6L (.slice none 0 0) (.slice none 0 0) 0 := rfl
attribute [local go_sem] blk_cell' blk_frozen'
attribute [local go_sem ↓] loadF_addr storeF_addr loadF_do storeF_do loadF_smp storeF_smp buildSM_fold appS_fold storeF_totS6 loadF_td storeF_td
attribute [local go_sem] run_loadF0 run_storeF0 run_buildSM
set_option maxRecDepth 20000 in
set_option maxHeartbeats 16000000 in
theorem rwhole36_any (A : Option Addr) (cap n : Nat) (l : List Deed) (C : CfgS) (o wd : Nat) (cok : CfgOk C o wd) (num : Int) (hnum : num = -1 ∨ 0 ≤ num) (W : World) (h : DdsS W A cap l) (hn : l.length = n) (hl : n ≤ 200) :
    Calls Try.prog 17 #[.slice A n cap, .agg (cfC C), .int .i64 num] W fun e w' => ∃ v, e = .returned v ∧ OfIs W.heap.size w' o wd C.sl C.st (selD (nmS C.sv l) num l) num v ∧ Mo W w' := by
  have HD := Lib.hid h
  have HL := Lib.hid hn
  have COK := Lib.hid cok
  have SV := Lib.hid (fun w (m : Mo W w) => rservers36_any A cap n l C.sv w (h.mo m) hn (by omega))
  have nl : (nmS C.sv l).length ≤ n := Nat.le_trans (nm_len C.sv l) (Nat.le_of_eq hn)
  generalize nmS C.sv l = ns at *
  clear h hn cok
  go_enter Try.func17, Try.ntmps17
  go_upto_region 2 with (fail)
  refine wp_name ?_
  intro w1 hw1
  have b4 : Blk w1 W.heap.size 26 (cfC C) := by rw [hw1]; infer_instance
  have b6 : Blk w1 (W.heap.size + 1) 67 z30 := by
    rw [hw1]
    have : Blk (((W.alloc (.cells (cfC C) 26)).alloc (.cells z30 67)).alloc (.cells z30 67)) (W.alloc (.cells (cfC C) 26)).heap.size 67 z30 := inferInstance
    simpa using this
  have b7 : Blk w1 (W.heap.size + 1 + 1) 67 z30 := by
    rw [hw1]
    have : Blk (((W.alloc (.cells (cfC C) 26)).alloc (.cells z30 67)).alloc (.cells z30 67)) ((W.alloc (.cells (cfC C) 26)).alloc (.cells z30 67)).heap.size 67 z30 := inferInstance
    simpa using this
  rw [z30_eq] at b6 b7
  have M1 : Mo W w1 := by rw [hw1]; exact Mor.out
  obtain ⟨g4, hg4⟩ : ∃ g, W.heap.size = g := ⟨_, rfl⟩
  rw [hg4] at b4 b6 b7
  have HG4 := Lib.hid hg4
  have gne1 : g4 + 1 ≠ g4 + 1 + 1 := by omega
  rw [hg4]
  obtain ⟨g6, hg6⟩ : ∃ g, g4 + 1 = g := ⟨_, rfl⟩
  rw [hg6] at b6 b7 gne1 ⊢
  obtain ⟨g7, hg7⟩ : ∃ g, g6 + 1 = g := ⟨_, rfl⟩
  rw [hg7] at b7 gne1 ⊢
  have G6 : g4 ≤ g6 := by omega
  have G7 : g4 ≤ g7 := by omega
  clear hw1 hg6 hg7 hg4
  --@@ servers
  go_wp2_with fail
  refine (SV.out _ (M1.trans Mor.out)).mono ?_
  rintro e w2 ⟨v8, rfl, AD, M2⟩
  have N2 : Mo w1 w2 := (Mor.out : Mo w1 _).trans M2
  have HAD := Lib.hid AD
  have HM2 := Lib.hid (M1.trans N2)
  have c4 := N2.blk b4
  have c6 := N2.blk b6
  have R0 := Lib.hid (RefR.start (b := g4) (N2.blk b7))
  obtain ⟨A8, k8, e8⟩ := AD.len
  subst e8
  generalize w1.heap.size = b8 at HAD
  clear AD M2 N2 M1 b4 b6 b7 SV
  --@@ loop1
  go_wp2_with fail
  go_loopw [9, 10, 11, 12, 13] (fun s9 s10 s11 s12 s13 wr => ∃ (j : Nat) (v9 v10 v11 v12 : Value), j ≤ n ∧ s9 = v9 ∧ s10 = v10 ∧ s11 = v11 ∧ s12 = v12 ∧ s13 = .int .i64 j ∧ RefR g4 wr g7 (selD ns num (l.take j)) v9 v10 v11 v12 ∧ (∃ b, AdsIs b wr (.slice A8 ns.length k8) ns) ∧ Blk wr g4 26 (cfC C) ∧ Blk wr g6 67 (tdC (fun _ => 0) z6L z6L z6L (.slice none 0 0) (.slice none 0 0) 0) ∧ Mo W wr) (fun _ _ _ _ s13 _ => n - (intOf s13).toNat)
  case atStart => exact ⟨0, _, _, _, _, by omega, rfl, rfl, rfl, rfl, rfl, R0.out.mo Mor.out, ⟨_, HAD.out.mo Mor.out⟩, Mo.blk Mor.out c4, Mo.blk Mor.out c6, HM2.out.trans Mor.out⟩
  case round =>
    obtain ⟨j, v9, v10, v11, v12, hj, rfl, rfl, rfl, rfl, rfl, hR, ⟨b8', hA⟩, d4, d6, hM⟩ := hrel
    clear R0 HAD HM2 c4 c6
    by_cases cj : j < n
    · have hjl : j < l.length := by rw [HL.out]; exact cj
      obtain ⟨g, off, rfl, zg, ldm⟩ := (HD.out.mo hM).getM j hjl
      have ld := ldm wr (Mo.refl wr)
      have i0 : (0 : Int) ≤ j := by omega
      have i2 : (j : Int) < n := by omega
      have hw : IntKind.i64.wrap ((j : Int) + 1) = j + 1 := by rw [IntKind.wrap_i64]; omega
      obtain ⟨okd, oned⟩ := HD.out.ok _ (List.getElem_mem hjl)
      have HS := Lib.hid (sel_take ns num l j hjl)
      have iz : SzA (ddC l[j]) 67 := ⟨dd_size okd⟩
      have hsl : (selD ns num (l.take j)).length ≤ j := Nat.le_trans (sel_len _ _ _) (by rw [List.length_take]; omega)
      generalize l[j] = d at *
      have HR := Lib.hid hR
      have HA := Lib.hid hA
      have HM := Lib.hid hM
      have gw : g4 ≤ wr.heap.size := by have := d4.lt; omega
      obtain ⟨L, hLD⟩ : ∃ L, selD ns num (l.take j) = L := ⟨_, rfl⟩
      have HLD := Lib.hid hLD
      rw [hLD] at HR hsl
      clear hLD
      have OF := Lib.hid (fun w => rof36_any d okd w)
      have wok := whoD_ok okd
      have NU := Lib.hid (fun w (m : Mo wr w) => rnumber36_any (hA.mo m) wok (by omega))
      have HOK := Lib.hid okd
      have y0 := dd_0 okd
      have yk := dd_k okd
      obtain ⟨X, hX⟩ : ∃ X, ddC d = X := ⟨_, rfl⟩
      have HX := Lib.hid hX
      rw [hX] at ld iz y0 yk oned
      have iw : SzA (whoD d) 17 := ⟨wok.z⟩
      have io : OneA (whoD d) := one_of_fits wok.p
      rw [hX] at OF
      obtain ⟨wh, hwh⟩ : ∃ a, whoD d = a := ⟨_, rfl⟩
      have HWH := Lib.hid hwh
      rw [hwh] at OF NU iw io wok
      obtain ⟨z, hz⟩ : ∃ z, numI ns wh = z := ⟨_, rfl⟩
      have HZ := Lib.hid hz
      rw [hz] at NU
      obtain ⟨pb, hpb⟩ : ∃ b, d.put = b := ⟨_, rfl⟩
      have HPB := Lib.hid hpb
      rw [hpb] at y0
      clear hR hA hM ldm hjl okd hX hwh hz hpb
      --@@ r9
      go_upto_region 9 with (fail)
      refine wp_name ?_
      intro wa hwa
      have b14 : Blk wa wr.heap.size 47 X := by rw [hwa]; infer_instance
      have Ma : Mo wr wa := by rw [hwa]; exact Mor.out
      generalize wr.heap.size = g14 at *
      clear hwa ld zg
      --@@ of
      go_wp2_with fail
      refine (OF.out _).mono ?_
      rintro e wb ⟨rfl, Mb⟩
      have Nb : Mo wr wb := (Ma.trans (Mor.out : Mo wa _)).trans Mb
      have b14b := ((Mor.out : Mo wa _).trans Mb).blk b14
      clear Mb Ma b14
      --@@ number
      go_wp2_with fail
      refine (NU.out _ (Nb.trans Mor.out)).mono ?_
      rintro e wc ⟨rfl, Mc⟩
      have Nbc := ((Mor.out : Mo wb _).trans Mc)
      have b14c := Nbc.blk b14b
      have Nc : Mo wr wc := Nb.trans Nbc
      have RC := Lib.hid (HR.out.mo Nc)
      have AC := Lib.hid (HA.out.mo Nc)
      have e4 := Nc.blk d4
      have e6 := Nc.blk d6
      have MC := Lib.hid (HM.out.trans Nc)
      clear Mc Nb Nbc b14b NU OF HR HA d4 d6 HM
      have gw2 : g4 ≤ wc.heap.size := Nat.le_trans gw (Nat.le_of_lt b14c.lt)
      clear gw
      by_cases cz : z = num
      · rw [cz]
        have SEL := Lib.hid (show selD ns num (l.take (j + 1)) = L ++ [d] by rw [HS.out]; exact (sel_yes (by rw [HWH.out, HZ.out]; exact cz)).trans (by rw [HLD.out]))
        clear cz
        cases pb with
        | false =>
          have PB := Lib.hid HPB.out
          by_cases ck : d.k < 9
          · have k0 : (0 : Int) ≤ (d.k : Nat) := by omega
            have k1 : ((d.k : Nat) : Int) < 9 := by omega
            have kd : decide (((d.k : Nat) : Int) < 9) = true := decide_eq_true k1
            have yo := td_lo (c := cntD L) (A := z6L) (B := z6L) (D := z6L) (tv := .slice none 0 0) (sv := .slice none 0 0) (lv := 0) rfl rfl rfl d.k ck
            have bo := RC.out.o
            have RN := Lib.hid (RC.out.cnt PB.out ck)
            obtain ⟨q1, q2⟩ := cntD_bd L d.k
            have hw2 : IntKind.i64.wrap (cntD L d.k + 1) = cntD L d.k + 1 := by rw [IntKind.wrap_i64]; omega
            have ne47 : g4 ≠ g7 := fun e => by
              subst e
              have := e4.out.symm.trans bo.out
              simp at this
            have e4' := Lib.hid (blk_setCell_ne e4 (Ne.symm ne47) d.k (.int .i64 (cntD L d.k + 1)))
            have e6' := Lib.hid (blk_setCell_ne e6 (Ne.symm gne1) d.k (.int .i64 (cntD L d.k + 1)))
            have MN := Lib.hid (mo_setCell MC.out (g := g7) (by rw [HG4.out]; exact G7) d.k (.int .i64 (cntD L d.k + 1)))
            have AN : Hid (AdsIs b8' (wc.setCell ⟨g7, d.k, none⟩ (.int .i64 (cntD L d.k + 1))) (.slice A8 ns.length k8) ns) := Lib.hid ⟨owns_cellT AC.out.row bo (by decide) _ _, AC.out.ok⟩
            generalize cntD L d.k = cd at *
            generalize tdC (cntD L) z6L z6L z6L (.slice none 0 0) (.slice none 0 0) 0 = T7 at *
            have gg7 : g7 < wc.heap.size := bo.lt
            clear RC ck PB HPB HS HX HWH HZ HOK e4 e6 AC MC
            --@@ count
            go_wp2_with fail
            go_roundw
            case rel => exact ⟨j + 1, _, _, _, _, by omega, rfl, rfl, rfl, rfl, by go_num, by rw [SEL.out]; exact RN.out.mo Mor.out, ⟨_, AN.out.mo Mor.out⟩, Mo.blk Mor.out e4'.out, Mo.blk Mor.out e6'.out, MN.out.trans Mor.out⟩
            case measure => simp [intOf]; omega
          · have kd : decide (((d.k : Nat) : Int) < 9) = false := decide_eq_false (by omega)
            have kd2 : ¬ (((d.k : Nat) : Int) < 9) := by omega
            have RN := Lib.hid (RC.out.skip PB.out ck)
            clear RC ck PB HPB HS HX HWH HZ HOK
            --@@ skip
            go_wp2_with fail
            go_roundw
            case rel => exact ⟨j + 1, _, _, _, _, by omega, rfl, rfl, rfl, rfl, by go_num, by rw [SEL.out]; exact RN.out.mo Mor.out, ⟨_, AC.out.mo Mor.out⟩, Mo.blk Mor.out e4, Mo.blk Mor.out e6, MC.out.trans Mor.out⟩
            case measure => simp [intOf]; omega
        | true =>
          obtain ⟨m, hm⟩ : ∃ m, (smpD L).length = m := ⟨_, rfl⟩
          have ml : m ≤ 200 := by have := smp_len L; omega
          have sok := HOK.out.S
          have X63 : X[63]? = some (.int .i64 d.S.o) := by rw [← HX.out]; exact (dd_hi HOK.out 44).trans (smpC_hiP sok.f 8)
          have X64 : X[64]? = some (.int .i64 d.S.d) := by rw [← HX.out]; exact (dd_hi HOK.out 45).trans (smpC_hiP sok.f 9)
          have X65 : X[65]? = some (.int .i64 d.S.s) := by rw [← HX.out]; exact (dd_hi HOK.out 46).trans (smpC_hiP sok.f 10)
          have l2 : (loadF 45 (.pointer (some ⟨g14, 19, none⟩))).run Try.prog wc = .ok (.agg (smpC d.S)) wc := by
            have := run_loadFo 45 48 wc g14 19 47 X 67 (by omega) (by omega)
            rwa [← HX.out, dd_S HOK.out] at this
          have oneS : OneA (smpC d.S) := ⟨by
            have := oned.out
            rw [Array.all_eq_true_iff_forall_mem] at this ⊢
            intro v hv
            refine this v ?_
            rw [← HX.out, ddC, Array.mem_append]
            exact .inr hv⟩
          have zS : SzA (smpC d.S) 48 := ⟨smpC_size sok.f⟩
          obtain ⟨p1, q1, w5, p2, q2, w6, p3, q3, w7, p4, q4, w8, run1, run2, run3, run4, K1, K2, K3, K4, RR⟩ := refR_put RC.out d HPB.out sok oneS (by omega) gw2 hm
          have RN := Lib.hid RR
          have b14e := K1.k _ _ _ (by decide) (by decide) b14c
          have b14f := K2.k _ _ _ (by decide) (by decide) b14c
          have b14g := K3.k _ _ _ (by decide) (by decide) b14c
          have e4' := K4.k _ _ _ (by decide) (by decide) e4
          have e6' := K4.k _ _ _ (by decide) (by decide) e6
          have AN := Lib.hid (K4.ads AC.out)
          have MN := Lib.hid (K4.m W (Nat.le_of_eq HG4.out) MC.out)
          clear RR RC HPB HS HX HWH HZ HOK e4 e6 AC MC K1 K2 K3 K4 sok hm
          generalize smpC d.S = XS at *
          generalize d.S.o = So at *
          generalize d.S.d = Sd' at *
          generalize d.S.s = Ss at *
          --@@ put
          go_wp2_with fail
          go_roundw
          case rel => exact ⟨j + 1, _, _, _, _, by omega, rfl, rfl, rfl, rfl, by go_num, by rw [SEL.out]; exact RN.out.mo Mor.out, ⟨_, AN.out.mo Mor.out⟩, Mo.blk Mor.out e4', Mo.blk Mor.out e6', MN.out.trans Mor.out⟩
          case measure => simp [intOf]; omega
      · have SEL := Lib.hid (show selD ns num (l.take (j + 1)) = L by rw [HS.out]; exact (sel_no (by rw [HWH.out, HZ.out]; exact cz)).trans HLD.out)
        have z1 : (z != num) = true := by simpa using cz
        have z2 : (z == num) = false := by simpa using cz
        have z3 : decide (z = num) = false := by simpa using cz
        clear HS HX HWH HZ HOK HPB
        --@@ other
        go_wp2_with fail
        go_roundw
        case rel => exact ⟨j + 1, _, _, _, _, by omega, rfl, rfl, rfl, rfl, by go_num, by rw [SEL.out]; exact RC.out.mo Mor.out, ⟨_, AC.out.mo Mor.out⟩, Mo.blk Mor.out e4, Mo.blk Mor.out e6, MC.out.trans Mor.out⟩
        case measure => simp [intOf]; omega
    · obtain rfl : j = n := by omega
      have e : l.take j = l := List.take_of_length_le (by rw [HL.out]; exact Nat.le_refl _)
      rw [e] at hR
      have hsl : (selD ns num l).length ≤ 200 := Nat.le_trans (sel_len _ _ _) (by rw [HL.out]; exact hl)
      obtain ⟨L, hLL⟩ : ∃ L, selD ns num l = L := ⟨_, rfl⟩
      have HLL := Lib.hid hLL
      rw [hLL] at hR hsl
      clear e hj cj hLL
      --@@ end1
      obtain ⟨m, hm⟩ : ∃ m, (smpD L).length = m := ⟨_, rfl⟩
      have ml : m ≤ 200 := by have := smp_len L; omega
      have HMM := Lib.hid hm
      have r9 := Lib.hid hR.s
      have r10 := hR.a
      have r11 := hR.d
      have r12 := hR.e
      have bo := hR.o
      rw [hm] at r10 r11 r12
      clear hR hA nl hsl hm
      --@@ told1
      go_wp2_with fail
      refine (rtold_row (owns_mo r10 Mor.out) (by rw [List.length_map, HMM.out]) (by omega)).mono ?_
      rintro e w3 ⟨rfl, M3⟩
      have N3 : Mo wr w3 := (Mor.out : Mo wr _).trans M3
      have bo3 := N3.blk bo
      have st1 := run_stA rfl rfl rfl bo3 (sumL ((smpD L).map (·.o)))
      have k11 := own_rowNe (owns_mo r11 N3) bo3 (by decide) (tdC (cntD L) (totS6 (sumL ((smpD L).map (·.o)))) z6L z6L (.slice none 0 0) (.slice none 0 0) 0)
      have k12 := own_rowNe (owns_mo r12 N3) bo3 (by decide) (tdC (cntD L) (totS6 (sumL ((smpD L).map (·.o)))) z6L z6L (.slice none 0 0) (.slice none 0 0) 0)
      have k9 : Hid (SmpsIs g4 (w3.setRow g7 (tdC (cntD L) (totS6 (sumL ((smpD L).map (·.o)))) z6L z6L (.slice none 0 0) (.slice none 0 0) 0)) u9 (smpD L)) := Lib.hid ⟨own_rowNe (owns_mo r9.out.row N3) bo3 (by decide) _, r9.out.ok⟩
      have bn := blk_setRow (cs' := tdC (cntD L) (totS6 (sumL ((smpD L).map (·.o)))) z6L z6L (.slice none 0 0) (.slice none 0 0) 0) bo3
      have ne47 : g7 ≠ g4 := fun e => by
        subst e
        have := d4.out.symm.trans bo.out
        simp at this
      have f4 := blk_setRow_ne (cs' := tdC (cntD L) (totS6 (sumL ((smpD L).map (·.o)))) z6L z6L (.slice none 0 0) (.slice none 0 0) 0) (N3.blk d4) ne47
      have f6 := blk_setRow_ne (cs' := tdC (cntD L) (totS6 (sumL ((smpD L).map (·.o)))) z6L z6L (.slice none 0 0) (.slice none 0 0) 0) (N3.blk d6) (Ne.symm gne1)
      have f0 := mo_setRow (hM.trans N3) (g := g7) (by rw [HG4.out]; exact G7) (tdC (cntD L) (totS6 (sumL ((smpD L).map (·.o)))) z6L z6L (.slice none 0 0) (.slice none 0 0) 0)
      obtain ⟨w4, hw4⟩ : ∃ w, w3.setRow g7 (tdC (cntD L) (totS6 (sumL ((smpD L).map (·.o)))) z6L z6L (.slice none 0 0) (.slice none 0 0) 0) = w := ⟨_, rfl⟩
      rw [hw4] at st1 k11 k12 k9 bn f4 f6 f0
      clear hw4 r9 r10 r11 r12 bo bo3 M3 N3 hM d4 d6
      obtain ⟨S1, hS1⟩ : ∃ S, sumL ((smpD L).map (·.o)) = S := ⟨_, rfl⟩
      have HS1 := Lib.hid hS1
      rw [hS1] at st1 bn ⊢
      clear hS1
      --@@ told2
      go_wp2_with fail
      refine (rtold_row (owns_mo k11 Mor.out) (by rw [List.length_map, HMM.out]) (by omega)).mono ?_
      rintro e w5 ⟨rfl, M5⟩
      have N5 : Mo w4 w5 := (Mor.out : Mo w4 _).trans M5
      have bo5 := N5.blk bn
      have st2 := run_stB rfl rfl rfl bo5 (sumL ((smpD L).map (·.d)))
      have q12 := own_rowNe (owns_mo k12 N5) bo5 (by decide) (tdC (cntD L) (totS6 S1) (totS6 (sumL ((smpD L).map (·.d)))) z6L (.slice none 0 0) (.slice none 0 0) 0)
      have q9 : Hid (SmpsIs g4 (w5.setRow g7 (tdC (cntD L) (totS6 S1) (totS6 (sumL ((smpD L).map (·.d)))) z6L (.slice none 0 0) (.slice none 0 0) 0)) u9 (smpD L)) := Lib.hid ⟨own_rowNe (owns_mo k9.out.row N5) bo5 (by decide) _, k9.out.ok⟩
      have q7 := blk_setRow (cs' := (tdC (cntD L) (totS6 S1) (totS6 (sumL ((smpD L).map (·.d)))) z6L (.slice none 0 0) (.slice none 0 0) 0)) bo5
      have q4 := blk_setRow_ne (cs' := (tdC (cntD L) (totS6 S1) (totS6 (sumL ((smpD L).map (·.d)))) z6L (.slice none 0 0) (.slice none 0 0) 0)) (N5.blk f4) ne47
      have q6 := blk_setRow_ne (cs' := (tdC (cntD L) (totS6 S1) (totS6 (sumL ((smpD L).map (·.d)))) z6L (.slice none 0 0) (.slice none 0 0) 0)) (N5.blk f6) (Ne.symm gne1)
      have q0 := mo_setRow (f0.trans N5) (g := g7) (by rw [HG4.out]; exact G7) (tdC (cntD L) (totS6 S1) (totS6 (sumL ((smpD L).map (·.d)))) z6L (.slice none 0 0) (.slice none 0 0) 0)
      obtain ⟨w6, hw6⟩ : ∃ w, w5.setRow g7 (tdC (cntD L) (totS6 S1) (totS6 (sumL ((smpD L).map (·.d)))) z6L (.slice none 0 0) (.slice none 0 0) 0) = w := ⟨_, rfl⟩
      rw [hw6] at st2 q12 q9 q7 q4 q6 q0
      clear hw6 k9 k11 k12 bn bo5 M5 N5 f0 f4 f6 st1
      obtain ⟨S2, hS2⟩ : ∃ S, sumL ((smpD L).map (·.d)) = S := ⟨_, rfl⟩
      have HS2 := Lib.hid hS2
      rw [hS2] at st2 q7 ⊢
      clear hS2
      --@@ told3
      go_wp2_with fail
      refine (rtold_row (owns_mo q12 Mor.out) (by rw [List.length_map, HMM.out]) (by omega)).mono ?_
      rintro e w7 ⟨rfl, M7⟩
      have N7 : Mo w6 w7 := (Mor.out : Mo w6 _).trans M7
      have bo7 := N7.blk q7
      have st3 := run_stD rfl rfl rfl bo7 (sumL ((smpD L).map (·.s)))
      have a9 : Hid (SmpsIs g4 (w7.setRow g7 (tdC (cntD L) (totS6 S1) (totS6 S2) (totS6 (sumL ((smpD L).map (·.s)))) (.slice none 0 0) (.slice none 0 0) 0)) u9 (smpD L)) := Lib.hid ⟨own_rowNe (owns_mo q9.out.row N7) bo7 (by decide) _, q9.out.ok⟩
      have a7 := blk_setRow (cs' := (tdC (cntD L) (totS6 S1) (totS6 S2) (totS6 (sumL ((smpD L).map (·.s)))) (.slice none 0 0) (.slice none 0 0) 0)) bo7
      have a4 := blk_setRow_ne (cs' := (tdC (cntD L) (totS6 S1) (totS6 S2) (totS6 (sumL ((smpD L).map (·.s)))) (.slice none 0 0) (.slice none 0 0) 0)) (N7.blk q4) ne47
      have a6 := blk_setRow_ne (cs' := (tdC (cntD L) (totS6 S1) (totS6 S2) (totS6 (sumL ((smpD L).map (·.s)))) (.slice none 0 0) (.slice none 0 0) 0)) (N7.blk q6) (Ne.symm gne1)
      have a0 := mo_setRow (q0.trans N7) (g := g7) (by rw [HG4.out]; exact G7) (tdC (cntD L) (totS6 S1) (totS6 S2) (totS6 (sumL ((smpD L).map (·.s)))) (.slice none 0 0) (.slice none 0 0) 0)
      obtain ⟨w8, hw8⟩ : ∃ w, w7.setRow g7 (tdC (cntD L) (totS6 S1) (totS6 S2) (totS6 (sumL ((smpD L).map (·.s)))) (.slice none 0 0) (.slice none 0 0) 0) = w := ⟨_, rfl⟩
      rw [hw8] at st3 a9 a7 a4 a6 a0
      clear hw8 q9 q12 q7 bo7 M7 N7 q0 q4 q6 st2
      obtain ⟨S3, hS3⟩ : ∃ S, sumL ((smpD L).map (·.s)) = S := ⟨_, rfl⟩
      have HS3 := Lib.hid hS3
      rw [hS3] at st3 a7 ⊢
      clear hS3
      rcases hnum with rfl | hnum
      · have zT : SzA (tdC (cntD L) (totS6 S1) (totS6 S2) (totS6 S3) (.slice none 0 0) (.slice none 0 0) 0) 30 := ⟨td_size rfl rfl rfl⟩
        have oT : OneA (tdC (cntD L) (totS6 S1) (totS6 S2) (totS6 S3) (.slice none 0 0) (.slice none 0 0) 0) := td_one rfl rfl
        have zZ : SzA (tdC (fun _ => 0) z6L z6L z6L (.slice none 0 0) (.slice none 0 0) 0) 30 := ⟨td_size rfl rfl rfl⟩
        have PO : Hid (∀ w, OfIs g4 w o wd C.sl C.st L (-1) (.agg (tdC (cntD L) (totS6 S1) (totS6 S2) (totS6 S3) (.slice none 0 0) (.slice none 0 0) 0))) := Lib.hid fun w => ⟨⟨_, _, by rw [HS1.out, HS2.out, HS3.out]; rfl, ⟨rfl, .inl ⟨rfl, rfl⟩⟩, ⟨rfl, .inl ⟨rfl, rfl⟩⟩⟩, fun _ => by rw [HS1.out, HS2.out, HS3.out]⟩
        have l4 := a4.lt
        have l6 := a6.lt
        have l7 := a7.lt
        generalize tdC (cntD L) (totS6 S1) (totS6 S2) (totS6 S3) (.slice none 0 0) (.slice none 0 0) 0 = X7 at *
        generalize tdC (fun _ => 0) z6L z6L z6L (.slice none 0 0) (.slice none 0 0) 0 = X6 at *
        --@@ neg
        go_wp2_with fail
        --@@ neg2
        refine ret_cS rfl g6 X7 rfl rfl (blk_setRow (cs' := X7) a6) ?_
        --@@ neg3
        rw [HG4.out, HLL.out]
        exact ⟨_, rfl, PO.out _, mo_setRow a0 (by rw [HG4.out]; exact G6) _⟩
      · have dn : decide (num < 0) = false := decide_eq_false (by omega)
        have f1 := COK.out.eo
        have f2 := COK.out.ew
        have x1 := COK.out.x1
        have x2 := COK.out.x2
        have o2 := COK.out.o2
        have wd1 := COK.out.w1
        have wd2 := COK.out.w2
        have t1 := COK.out.t1
        have t2 := COK.out.t2
        obtain ⟨A9, k9', e9⟩ := a9.out.len
        rw [HMM.out] at e9
        subst e9
        have ne67 := gne1
        --@@ pos
        go_upto_region 23 with (fail)
        refine wp_name ?_
        intro w9 hw9
        obtain ⟨g15, hg15⟩ : ∃ g, w8.heap.size = g := ⟨_, rfl⟩
        have bG : Blk w9 g15 112 #[.int .i64 C.sl, .int .i64 (o : Int), .slice none 0 0, .slice none 0 0, .slice none 0 0] := by rw [hw9, ← hg15]; infer_instance
        have M9 : Mo w8 w9 := by rw [hw9]; exact Mor.out
        have RG0 := Lib.hid (RGE.start (base := g15) bG)
        have c9 := Lib.hid (a9.out.mo M9)
        have c7 := M9.blk a7
        have c4 := M9.blk a4
        have c6 := M9.blk a6
        have c0 := a0.trans M9
        have g47 : g4 ≤ g15 := by have := a4.lt; omega
        have gb15 : g15 ≤ w9.heap.size := by rw [← hg15]; exact M9.size
        rw [hg15]
        clear hw9 hg15 M9 a9 a7 a4 a6 a0 bG st3
        --@@ loop2
        go_wp2_with fail
        go_loopw [16] (fun s16 wr => ∃ i : Nat, i ≤ m ∧ s16 = .int .i64 i ∧ RGE wr g15 g15 C.sl (o : Int) (gridD C.sl ((smpD L).take i)) ∧ SmpsIs g4 wr (.slice A9 m k9') (smpD L) ∧ Blk wr g7 67 (tdC (cntD L) (totS6 S1) (totS6 S2) (totS6 S3) (.slice none 0 0) (.slice none 0 0) 0) ∧ Blk wr g4 26 (cfC C) ∧ Blk wr g6 67 (tdC (fun _ => 0) z6L z6L z6L (.slice none 0 0) (.slice none 0 0) 0) ∧ g15 ≤ wr.heap.size ∧ Mo W wr) (fun s16 _ => m - (intOf s16).toNat)
        case atStart => exact ⟨0, by omega, rfl, RG0.out.mo Mor.out, c9.out.mo Mor.out, Mo.blk Mor.out c7, Mo.blk Mor.out c4, Mo.blk Mor.out c6, Nat.le_trans gb15 (Mo.size Mor.out), c0.trans Mor.out⟩
        case round =>
          obtain ⟨i, hi, rfl, hG, hS, h7, h4, h6, hz, hM⟩ := hrel
          clear RG0 c9 c7 c4 c6 c0 gb15
          have gok : MOk (gridD C.sl ((smpD L).take i)) i := by
            have := grid_ok C.sl ((smpD L).take i)
            rwa [List.length_take, HMM.out, Nat.min_eq_left hi] at this
          by_cases ci : i < m
          · have hil : i < (smpD L).length := by rw [HMM.out]; exact ci
            obtain ⟨g9, rfl, zg9, key⟩ := hS.cell i hil
            have sok := hS.ok _ (List.getElem_mem hil)
            have y42 := key 42 _ (smpC_hiP sok.f 6)
            have y43 := key 43 _ (smpC_hiP sok.f 7)
            have y44 := key 44 _ (smpC_hiP sok.f 8)
            have y45 := key 45 _ (smpC_hiP sok.f 9)
            have GS := Lib.hid (grid_snoc C.sl (smpD L) i hil)
            have it4 := sok.t4
            generalize (smpD L)[i] = S at *
            have PU := Lib.hid (fun w (m : Mo wr w) => rput_P g15 g15 C.sl (o : Int) (gridD C.sl ((smpD L).take i)) S.t4 S.o S.d w (hG.mo m) (by have := gok.len; omega) it4 x1 x2 (Nat.le_trans hz m.size))
            have HS := Lib.hid hS
            have HM := Lib.hid hM
            have hgB : Hid (∃ X, Blk wr g15 112 X) := Lib.hid (by obtain ⟨_, _, _, q⟩ := hG.ex; exact ⟨_, q.g⟩)
            have i0 : (0 : Int) ≤ i := by omega
            have i1 : (i : Int) < m := by omega
            have hw : IntKind.i64.wrap ((i : Int) + 1) = i + 1 := by rw [IntKind.wrap_i64]; omega
            clear key sok it4 hG hS hil gok
            generalize S.o = So at *
            generalize S.d = Sd' at *
            generalize S.t4 = St4 at *
            --@@ put2
            go_upto_region 26 with (fail)
            first | (refine wp_region_mo_tail 16 (by kernel_rfl) (by kernel_rfl) ?_) | (refine wp_region_mo_tail' 16 (by kernel_rfl) (by kernel_rfl) ?_)
            simp only [List.take_succ_cons, List.take_zero, List.drop_succ_cons, List.drop_zero]
            repeat (go_big_quiet_step (fail))
            refine wpQuiet_nil ?_
            intro _ hw'
            obtain ⟨⟨J9, d9⟩, hw''⟩ := hw'
            subst hw''
            --@@ put3
            go_wp2_with fail
            refine (PU.out _ Mor.out).mono ?_
            rintro e wa ⟨v, rfl, GA, KA⟩
            have Mw : Mo wr (more wr J9 d9) := Mor.out
            obtain ⟨XG, bXG⟩ := hgB.out
            have bXG' := Mw.blk bXG
            have GA' := Lib.hid GA
            have SA := Lib.hid (KA.smps bXG' (HS.out.mo Mw))
            have ne7 : g7 ≠ g15 := blk_type_neR h7 bXG (by decide)
            have ne4 : g4 ≠ g15 := blk_type_neR h4 bXG (by decide)
            have ne6 : g6 ≠ g15 := blk_type_neR h6 bXG (by decide)
            have u7 := KA.1 _ _ _ ne7 (by decide) (Mw.blk h7)
            have u4 := KA.1 _ _ _ ne4 (by decide) (Mw.blk h4)
            have u6 := KA.1 _ _ _ ne6 (by decide) (Mw.blk h6)
            have MA := Lib.hid (KA.2 W (by rw [HG4.out]; exact g47) (by rw [HG4.out]; exact g47) (HM.out.trans Mw))
            have za : g15 ≤ wa.heap.size := by
              obtain ⟨_, _, _, q⟩ := GA.ex
              exact Nat.le_of_lt q.g.lt
            clear GA KA PU hgB bXG bXG' HS HM h7 h4 h6 hM ne7 ne4 ne6 Mw hz y42 y43 y44 y45 zg9
            --@@ put4
            go_wp2_with fail
            go_roundw
            case rel => exact ⟨i + 1, by omega, by go_num, by rw [GS.out]; exact GA'.out.mo Mor.out, SA.out.mo Mor.out, Mo.blk Mor.out u7, Mo.blk Mor.out u4, Mo.blk Mor.out u6, Nat.le_trans za (Mo.size Mor.out), MA.out.trans Mor.out⟩
            case measure => simp [intOf]; omega
          · obtain rfl : i = m := by omega
            have e : (smpD L).take i = smpD L := List.take_of_length_le (by rw [HMM.out]; exact Nat.le_refl _)
            rw [e] at hG gok
            clear e hi ci
            have TD := Lib.hid (rtold_P g15 g15 o C.sl (gridD C.sl (smpD L)))
            have GOK : Hid (MOk (gridD C.sl (smpD L)) 1000) := Lib.hid ⟨gok.fine, gok.rises, by have := gok.len; omega⟩
            have HG := Lib.hid hG
            have HS := Lib.hid hS
            have HM := Lib.hid hM
            have HK : Hid (ofK o C.sl L num = taus (gridD C.sl (smpD L)) o) := Lib.hid (by unfold ofK; rw [if_neg (by omega)])
            have HLV := Lib.hid (rlive_P g15 g15 o C.sl (gridD C.sl (smpD L)))
            obtain ⟨M, hGM⟩ : ∃ M, gridD C.sl (smpD L) = M := ⟨_, rfl⟩
            have HGM := Lib.hid hGM
            rw [hGM] at TD GOK HG HK HLV
            clear hG hS hM gok hGM
            --@@ told
            go_wp2_with fail
            refine (TD.out _ (HG.out.mo Mor.out) GOK.out o2).mono ?_
            rintro e wa ⟨tv, rfl, OT, Ma⟩
            have Na : Mo wr wa := (Mor.out : Mo wr _).trans Ma
            obtain ⟨At, ct, et⟩ := own_slS OT
            subst et
            have hb4 : g4 ≤ wr.heap.size := Nat.le_of_lt h4.lt
            have OT4 := owns_baseS OT (show g4 ≤ _ from Nat.le_trans hb4 (Mo.size (Mor.out : Mo wr _)))
            have v7 := Na.blk h7
            have Q := KeptQ.of_set (b := g4) v7 G7 27 (.slice At (taus M o).length ct)
            have Q0 := (KeptQ.of_mo (b := g4) Na).trans Q
            have OT5 := Lib.hid (Q.tau OT4)
            have GB := Lib.hid (Q0.rge HG.out)
            have SB := Lib.hid (Q0.smps HS.out)
            have s4 := Q0.k _ _ _ (by decide) (by decide) h4
            have s6 := blk_setCell_ne (Na.blk h6) (Ne.symm gne1) 27 (.slice At (taus M o).length ct)
            have s7 := blk_setCell v7 27 (.slice At (taus M o).length ct)
            rw [td_tv rfl rfl rfl] at s7
            have MB := Lib.hid (Q0.m W (Nat.le_of_eq HG4.out) HM.out)
            have lt7 := v7.lt
            have fr7 := blk_frozen v7 27
            have in7 := td_27 (c := cntD L) (A := totS6 S1) (B := totS6 S2) (D := totS6 S3) (tv := .slice none 0 0) (sv := .slice none 0 0) (lv := 0) rfl rfl rfl
            have zb : g4 ≤ wa.heap.size := Nat.le_trans hb4 Na.size
            obtain ⟨T7, hT7⟩ : ∃ T, tdC (cntD L) (totS6 S1) (totS6 S2) (totS6 S3) (.slice none 0 0) (.slice none 0 0) 0 = T := ⟨_, rfl⟩
            rw [hT7] at v7 in7
            clear OT OT4 Ma Na TD Q Q0 HG HS HM h4 h6 h7 hT7 hb4
            obtain ⟨lt, hlt⟩ : ∃ n, (taus M o).length = n := ⟨_, rfl⟩
            have HLT := Lib.hid hlt
            rw [hlt] at s7 s6 s4 SB GB MB OT5 ⊢
            clear hlt
            --@@ store27
            go_upto_region 29 with (fail)
            generalize wa.setCell ⟨g7, 27, none⟩ (.slice At lt ct) = wb at *
            clear v7 in7 fr7 lt7 zb
            have HMX : Hid (((smpD L).map odS).length = i) := Lib.hid (by rw [List.length_map, HMM.out])
            --@@ loop3
            go_wp2_with fail
            go_loopw [17] (fun s17 wr => ∃ (kk : Nat) (sv : Value), wd ≤ kk ∧ kk - wd ≤ i + 1 - 2 * wd ∧ s17 = .int .i64 (kk : Nat) ∧ wr.ownsRow g4 115 3 sv (stepsN wd C.st ((smpD L).map odS) (kk - wd)).length (stpL (stepsN wd C.st ((smpD L).map odS) (kk - wd))) ∧ Blk wr g7 67 (tdC (cntD L) (totS6 S1) (totS6 S2) (totS6 S3) (.slice At lt ct) sv 0) ∧ wr.ownsRow g4 117 5 (.slice At lt ct) lt (tauRow (taus M o)) ∧ RGE wr g15 g15 C.sl (o : Int) M ∧ SmpsIs g4 wr (.slice A9 i k9') (smpD L) ∧ Blk wr g4 26 (cfC C) ∧ Blk wr g6 67 (tdC (fun _ => 0) z6L z6L z6L (.slice none 0 0) (.slice none 0 0) 0) ∧ Mo W wr) (fun s17 _ => i + 1 - (intOf s17).toNat)
            case atStart => exact ⟨wd, _, by omega, by omega, by first | rfl | rw [f2], by rw [Nat.sub_self]; exact ⟨rfl, .inl ⟨rfl, rfl⟩⟩, Mo.blk Mor.out s7, owns_mo OT5.out Mor.out, GB.out.mo Mor.out, SB.out.mo Mor.out, Mo.blk Mor.out s4, Mo.blk Mor.out s6, MB.out.trans Mor.out⟩
            case round =>
              obtain ⟨kk, sv, hk1, hk2, rfl, hO, h7, hT, hG, hS, h4, h6, hM⟩ := hrel
              clear s7 OT5 GB SB s4 s6 MB
              obtain ⟨As, cs, es⟩ := own_slS hO
              subst es
              by_cases ck : kk + wd ≤ i
              · obtain ⟨p, hp⟩ : ∃ p, kk = p + wd := ⟨kk - wd, by omega⟩
                obtain ⟨q2, hq2⟩ : ∃ q, kk + wd = q := ⟨_, rfl⟩
                have HP := Lib.hid hp
                have HQ2 := Lib.hid hq2
                have hpp : (kk : Int) - wd = p := by omega
                have hqq : (kk : Int) + wd = q2 := by omega
                have hwp : IntKind.i64.wrap ((kk : Int) - wd) = p := by rw [IntKind.wrap_i64]; omega
                have hwq : IntKind.i64.wrap ((kk : Int) + wd) = q2 := by rw [IntKind.wrap_i64]; omega
                have hwu : IntKind.u64.wrap (kk : Int) = kk := by rw [IntKind.wrap_u64]; omega
                have hwst : IntKind.u64.wrap C.st = C.st := by rw [IntKind.wrap_u64]; omega
                have hwk : IntKind.i64.wrap ((kk : Int) + 1) = kk + 1 := by rw [IntKind.wrap_i64]; omega
                have d1 : decide ((q2 : Int) ≤ i) = true := decide_eq_true (by omega)
                have d1n : decide (q2 ≤ i) = true := decide_eq_true (by omega)
                have ST := Lib.hid (show stepsN wd C.st ((smpD L).map odS) (kk + 1 - wd) = stepsN wd C.st ((smpD L).map odS) (kk - wd) ++ stepAt wd C.st ((smpD L).map odS) kk by
                  rw [show kk + 1 - wd = (kk - wd) + 1 by omega]
                  show _ ++ stepAt wd C.st _ (wd + (kk - wd)) = _
                  rw [show wd + (kk - wd) = kk by omega])
                have B1 := Lib.hid (fun w (m : Mo wr w) => rbest36_any (hS.mo m) p kk (by omega) (by rw [HMM.out]; omega) (by rw [HMM.out]; omega))
                have B2 := Lib.hid (fun w (m : Mo wr w) => rbest36_any (hS.mo m) kk q2 (by omega) (by rw [HMM.out]; omega) (by rw [HMM.out]; omega))
                have sl := stepsN_len wd C.st ((smpD L).map odS) (kk - wd)
                have HO := Lib.hid hO
                have HT := Lib.hid hT
                have HG := Lib.hid hG
                have HS := Lib.hid hS
                have HM := Lib.hid hM
                have HKI := Lib.hid (show kk ≤ i by omega)
                have HQI := Lib.hid (show q2 ≤ i by omega)
                obtain ⟨ns', hns⟩ : ∃ n, (stepsN wd C.st ((smpD L).map odS) (kk - wd)).length = n := ⟨_, rfl⟩
                have HNS := Lib.hid hns
                have nsl : ns' ≤ 1000 := by omega
                have hpk := Lib.hid (show kk - p = wd by omega)
                have hqk := Lib.hid (show q2 - kk = wd by omega)
                have hpk' := Lib.hid (show p = kk - wd by omega)
                rw [hns] at HO h7
                clear hO hT hG hS hM hp hq2 ck hns sl
                --@@ best1
                go_wp2_with fail
                refine (B1.out _ Mor.out).mono ?_
                rintro e wc ⟨a1, rfl, ⟨Sa, ha, ea⟩, Mc⟩
                have Nc : Mo wr wc := (Mor.out : Mo wr _).trans Mc
                have hal := (List.getElem?_eq_some_iff.1 ha).1
                have hae := (List.getElem?_eq_some_iff.1 ha).2
                obtain ⟨g9, eA9, zg, y1, y1'⟩ := (HS.out.mo Nc).od a1 hal
                rw [hae] at y1
                subst eA9
                have oka : SmpOk Sa := HS.out.ok _ (List.mem_of_getElem? ha)
                have i0 : (0 : Int) ≤ a1 := by omega
                have i1 : (a1 : Int) < i := by rw [HMM.out] at hal; omega
                have v4 := Nc.blk h4
                have X1 : Hid (bestO ((((smpD L).map odS).drop (kk - wd)).take wd) = Sa.o ∧ Is64S Sa.o) := Lib.hid ⟨by rw [ea, hpk.out, ← hpk'.out], oka.o⟩
                clear y1' hal hae ha oka Mc B1 ea
                generalize Sa.o = xa at *
                --@@ best2
                go_wp2_with fail
                refine (B2.out _ (Nc.trans Mor.out)).mono ?_
                rintro e we ⟨a2, rfl, ⟨Sb, hb, eb⟩, Me⟩
                have Ne : Mo wr we := Nc.trans ((Mor.out : Mo wc _).trans Me)
                have hbl := (List.getElem?_eq_some_iff.1 hb).1
                have hbe := (List.getElem?_eq_some_iff.1 hb).2
                obtain ⟨g9', eA9', zg', z1, z1'⟩ := (HS.out.mo Ne).od a2 hbl
                obtain rfl : g9 = g9' := by injection eA9' with e; injection e
                rw [hbe] at z1
                have okb : SmpOk Sb := HS.out.ok _ (List.mem_of_getElem? hb)
                have j0 : (0 : Int) ≤ a2 := by omega
                have j1 : (a2 : Int) < i := by rw [HMM.out] at hbl; omega
                have v4' := Ne.blk h4
                have X2 : Hid (bestO ((((smpD L).map odS).drop kk).take wd) = Sb.o ∧ Is64S Sb.o) := Lib.hid ⟨by rw [eb, hqk.out], okb.o⟩
                clear z1' hbl hbe hb okb Me B2 eb y1 v4 zg i0 i1 eA9'
                generalize Sb.o = xb at *
                have FA := Lib.hid (fun w => rfar36_any xa xb w X1.out.2 X2.out.2)
                have FI := Lib.hid (show stepAt wd C.st ((smpD L).map odS) kk = if C.st < farI xa xb then [(kk, xa, xb)] else [] by unfold stepAt; rw [X1.out.1, X2.out.1])
                --@@ far
                go_upto_region 33 with (fail)
                first | (refine wp_region_mo (by kernel_rfl) (by kernel_rfl) ?_) | (refine wp_region_mo' (by kernel_rfl) (by kernel_rfl) ?_)
                repeat (go_big_quiet_step (first | (with_reducible exact quiet_mo (FA.out _))))
                refine wpQuiet_nil ?_
                intro wf hw'
                have Nf : Mo wr wf := by
                  obtain ⟨⟨J9, d9⟩, hw''⟩ := hw'
                  rw [hw'']
                  exact Ne.trans Mor.out
                clear hw' FA v4' zg' z1 Ne Nc
                have t7 := Nf.blk h7
                have TTf := HT.out
                have TTf := owns_mo TTf Nf
                have t4 := Nf.blk h4
                have t6 := Nf.blk h6
                have tO := owns_mo HO.out Nf
                have tG := HG.out.mo Nf
                have tS := HS.out.mo Nf
                have tM := HM.out.trans Nf
                by_cases cf : C.st < farI xa xb
                · have dc : decide (C.st < farI xa xb) = true := decide_eq_true cf
                  have FE := Lib.hid (show stepsN wd C.st ((smpD L).map odS) (kk + 1 - wd) = stepsN wd C.st ((smpD L).map odS) (kk - wd) ++ [(kk, xa, xb)] by rw [ST.out, FI.out, if_pos cf])
                  have hb4 : g4 ≤ wf.heap.size := Nat.le_of_lt t4.lt
                  obtain ⟨gs, cs', wg, hrun, hown, KG⟩ := app_rst wf g4 ns' _ _ (kk : Int) xa xb tO (by rw [stpL_len, HNS.out]) (by omega) hb4
                  have q7 := blk_own t7 tO KG (by decide)
                  have Q1 := KeptQ.of_own tO KG
                  have Q2 := KeptQ.of_set (b := g4) q7 G7 28 (.slice (some ⟨gs, 0, none⟩) (ns' + 1) cs')
                  have Q := Q1.trans Q2
                  have in8 := td_28 (c := cntD L) (A := totS6 S1) (B := totS6 S2) (D := totS6 S3) (tv := .slice At lt ct) (sv := .slice As ns' cs) (lv := 0) rfl rfl rfl
                  have r7 := blk_setCell q7 28 (.slice (some ⟨gs, 0, none⟩) (ns' + 1) cs')
                  rw [td_sv rfl rfl rfl] at r7
                  have RO : Hid ((wg.setCell ⟨g7, 28, none⟩ (.slice (some ⟨gs, 0, none⟩) (ns' + 1) cs')).ownsRow g4 115 3 (.slice (some ⟨gs, 0, none⟩) (ns' + 1) cs') (stepsN wd C.st ((smpD L).map odS) (kk + 1 - wd)).length (stpL (stepsN wd C.st ((smpD L).map odS) (kk + 1 - wd)))) := Lib.hid (by
                    rw [FE.out, List.length_append, List.length_singleton, HNS.out, stpL_snoc]
                    exact owns_cellT hown q7 (by decide) _ _)
                  have RT := Lib.hid (Q.tau TTf)
                  have RG' := Lib.hid (Q.rge tG)
                  have RS := Lib.hid (Q.smps tS)
                  have R4 := Q.k _ _ _ (by decide) (by decide) t4
                  have R6 := blk_setCell_ne (blk_own t6 tO KG (by decide)) (Ne.symm gne1) 28 (.slice (some ⟨gs, 0, none⟩) (ns' + 1) cs')
                  have RM := Lib.hid (Q.m W (Nat.le_of_eq HG4.out) tM)
                  have lt7 := q7.lt
                  have fr7 := blk_frozen q7 28
                  have r7' := Lib.hid r7
                  obtain ⟨T7', hT7'⟩ : ∃ T, tdC (cntD L) (totS6 S1) (totS6 S2) (totS6 S3) (.slice At lt ct) (.slice As ns' cs) 0 = T := ⟨_, rfl⟩
                  rw [hT7'] at in8 t7 q7
                  have cf2 : ¬ (farI xa xb ≤ C.st) := by omega
                  clear hT7' r7 Q Q1 Q2 tG tS tM TTf tO hown KG FI ST HT HG HS HM HO h7 h4 h6 t6
                  --@@ step
                  go_wp2_with fail
                  go_roundw
                  case rel => exact ⟨kk + 1, _, by omega, by have := HQI.out; have := HQ2.out; omega, by go_num, owns_mo RO.out Mor.out, Mo.blk Mor.out r7'.out, owns_mo RT.out Mor.out, RG'.out.mo Mor.out, RS.out.mo Mor.out, Mo.blk Mor.out R4, Mo.blk Mor.out R6, RM.out.trans Mor.out⟩
                  case measure => have := HKI.out; simp [intOf]; omega
                · have dc : decide (C.st < farI xa xb) = false := decide_eq_false cf
                  have FE := Lib.hid (show stepsN wd C.st ((smpD L).map odS) (kk + 1 - wd) = stepsN wd C.st ((smpD L).map odS) (kk - wd) by rw [ST.out, FI.out, if_neg cf, List.append_nil])
                  have RO : Hid (wf.ownsRow g4 115 3 (.slice As ns' cs) (stepsN wd C.st ((smpD L).map odS) (kk + 1 - wd)).length (stpL (stepsN wd C.st ((smpD L).map odS) (kk + 1 - wd)))) := Lib.hid (by rw [FE.out, HNS.out]; exact tO)
                  have RT := Lib.hid TTf
                  have RG' := Lib.hid tG
                  have RS := Lib.hid tS
                  have RM := Lib.hid tM
                  clear tG tS tM TTf tO FI ST HT HG HS HM HO h7 h4 h6
                  --@@ nostep
                  go_wp2_with fail
                  go_roundw
                  case rel => exact ⟨kk + 1, _, by omega, by have := HQI.out; have := HQ2.out; omega, by go_num, owns_mo RO.out Mor.out, Mo.blk Mor.out t7, owns_mo RT.out Mor.out, RG'.out.mo Mor.out, RS.out.mo Mor.out, Mo.blk Mor.out t4, Mo.blk Mor.out t6, RM.out.trans Mor.out⟩
                  case measure => have := HKI.out; simp [intOf]; omega
              · obtain ⟨q2, hq2⟩ : ∃ q, kk + wd = q := ⟨_, rfl⟩
                have hqq : (kk : Int) + wd = q2 := by omega
                have hwq : IntKind.i64.wrap ((kk : Int) + wd) = q2 := by rw [IntKind.wrap_i64]; omega
                have d1 : decide ((q2 : Int) ≤ i) = false := decide_eq_false (by omega)
                have d1n : decide (q2 ≤ i) = false := decide_eq_false (by omega)
                have HST := Lib.hid (show stepsN wd C.st ((smpD L).map odS) (kk - wd) = stepsR wd C.st ((smpD L).map odS) by
                  unfold stepsR
                  rw [HMX.out, show kk - wd = i + 1 - 2 * wd by omega])
                rw [HST.out] at hO
                have sl : (stepsR wd C.st ((smpD L).map odS)).length ≤ 1000 := by
                  have := stepsN_len wd C.st ((smpD L).map odS) (((smpD L).map odS).length + 1 - 2 * wd)
                  have h2 := HMX.out
                  unfold stepsR
                  omega
                have HS9 : Hid (ofS wd C.st L num = stepsR wd C.st ((smpD L).map odS)) := Lib.hid (by unfold ofS; rw [if_neg (by omega)])
                obtain ⟨ns', hns⟩ : ∃ n, (stepsR wd C.st ((smpD L).map odS)).length = n := ⟨_, rfl⟩
                have HNS := Lib.hid hns
                have es : (stepsN wd C.st ((smpD L).map odS) (kk - wd)).length = ns' := by rw [HST.out, hns]
                rw [es] at h7
                rw [hns] at hO sl
                have lml : liveM M o ≤ 1000 := Nat.le_trans List.countP_le_length GOK.out.len
                obtain ⟨lm, hlm⟩ : ∃ n, liveM M o = n := ⟨_, rfl⟩
                have HLM := Lib.hid hlm
                have LV := Lib.hid (fun w (m : Mo wr w) => HLV.out w (hG.mo m) GOK.out o2)
                rw [hlm] at LV lml
                have lt7 := h7.lt
                have fr7 := blk_frozen h7 29
                have in8 := td_28 (c := cntD L) (A := totS6 S1) (B := totS6 S2) (D := totS6 S3) (tv := .slice At lt ct) (sv := .slice As ns' cs) (lv := 0) rfl rfl rfl
                have in9 := td_29 (c := cntD L) (A := totS6 S1) (B := totS6 S2) (D := totS6 S3) (tv := .slice At lt ct) (sv := .slice As ns' cs) (lv := 0) rfl rfl rfl
                have hO' := Lib.hid hO
                have hT' := Lib.hid hT
                have hM' := Lib.hid hM
                have H7 := Lib.hid h7
                obtain ⟨T7', hT7'⟩ : ∃ T, tdC (cntD L) (totS6 S1) (totS6 S2) (totS6 S3) (.slice At lt ct) (.slice As ns' cs) 0 = T := ⟨_, rfl⟩
                have HT7 := Lib.hid hT7'
                rw [hT7'] at in8 in9 h7
                have kkb : kk ≤ 400 := by omega
                clear hO hT hM hT7' hlm hns es hq2 ck hk1 hk2 hG hS
                --@@ r35
                go_upto_region 35 with (fail)
                first | (refine wp_region_mo_tail 16 (by kernel_rfl) (by kernel_rfl) ?_) | (refine wp_region_mo_tail' 16 (by kernel_rfl) (by kernel_rfl) ?_)
                simp only [List.take_succ_cons, List.take_zero, List.drop_succ_cons, List.drop_zero]
                repeat (go_big_quiet_step (first | (with_reducible exact quiet_mo (LV.out _ Mor.out))))
                refine wpQuiet_nil ?_
                intro wk hw'
                have Nk : Mo wr wk := by
                  obtain ⟨⟨J9, d9⟩, hw''⟩ := hw'
                  rw [hw'']
                  exact Mor.out
                have k7 := Nk.blk H7.out
                have k6 := Nk.blk h6
                have kO := owns_mo hO'.out Nk
                have kT := owns_mo hT'.out Nk
                have kM := hM'.out.trans Nk
                obtain ⟨lv, hlv⟩ : ∃ z, (1 : Int) + lm + min (i : Int) (2 * wd) + min (ns' : Int) 16 = z := ⟨_, rfl⟩
                have HV : Hid (ofV o wd C.sl C.st L num = lv) := Lib.hid (by
                  unfold ofV
                  rw [if_neg (by omega), HGM.out, HLM.out, HMM.out, HNS.out, ← hlv]
                  omega)
                have r7 := blk_setCell k7 29 (.int .i64 lv)
                rw [td_lv rfl rfl rfl] at r7
                have r6 := blk_setCell_ne k6 (Ne.symm gne1) 29 (.int .i64 lv)
                have rO := owns_cellT kO k7 (by decide) 29 (.int .i64 lv)
                have rT := owns_cellT kT k7 (by decide) 29 (.int .i64 lv)
                have rM := mo_setCell kM (g := g7) (by rw [HG4.out]; exact G7) 29 (.int .i64 lv)
                have kl := k7.lt
                have kf := blk_frozen k7 29
                rw [HT7.out] at k7
                have zX : SzA (tdC (cntD L) (totS6 S1) (totS6 S2) (totS6 S3) (.slice At lt ct) (.slice As ns' cs) lv) 30 := ⟨td_size rfl rfl rfl⟩
                have oX : OneA (tdC (cntD L) (totS6 S1) (totS6 S2) (totS6 S3) (.slice At lt ct) (.slice As ns' cs) lv) := td_one rfl rfl
                have zZ : SzA (tdC (fun _ => 0) z6L z6L z6L (.slice none 0 0) (.slice none 0 0) 0) 30 := ⟨td_size rfl rfl rfl⟩
                have PO : Hid (∀ w, w.ownsRow g4 117 5 (.slice At lt ct) lt (tauRow (taus M o)) → w.ownsRow g4 115 3 (.slice As ns' cs) ns' (stpL (stepsR wd C.st ((smpD L).map odS))) → OfIs g4 w o wd C.sl C.st L num (.agg (tdC (cntD L) (totS6 S1) (totS6 S2) (totS6 S3) (.slice At lt ct) (.slice As ns' cs) lv))) := Lib.hid fun w q1 q2 => ⟨⟨_, _, by rw [HS1.out, HS2.out, HS3.out, HV.out], by rw [HK.out, HLT.out]; exact q1, by rw [HS9.out, HNS.out]; exact q2⟩, fun hneg => absurd hneg (by omega)⟩
                have ro := Lib.hid rO
                have rt := Lib.hid rT
                have rm := Lib.hid rM
                clear hw' Nk H7 HV HT7 kO kT kM rO rT rM h7 k6 h6 h4 hO' hT' hM'
                generalize tdC (cntD L) (totS6 S1) (totS6 S2) (totS6 S3) (.slice At lt ct) (.slice As ns' cs) lv = X7 at *
                generalize tdC (fun _ => 0) z6L z6L z6L (.slice none 0 0) (.slice none 0 0) 0 = X6 at *
                --@@ r36
                go_wp2_with fail
                refine ret_cS rfl g6 X7 rfl rfl (blk_setRow (cs' := X7) r6) ?_
                rw [HG4.out, HLL.out]
                exact ⟨_, rfl, PO.out _ (own_rowNe rt.out r6 (by decide) X7) (own_rowNe ro.out r6 (by decide) X7), mo_setRow rm.out (by rw [HG4.out]; exact G6) _⟩
end Go.Proofs.Ythgkhllkhhnlpaa
