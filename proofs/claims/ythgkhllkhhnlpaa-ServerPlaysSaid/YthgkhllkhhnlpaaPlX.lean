/- horologelaw36.ServerPlays: the walk, where the configuration may be. -/
import Derived.Test.YthgkhllkhhnlpaaPlW
namespace Go.Proofs.Ythgkhllkhhnlpaa
open Go.RowKit Go.Maps

set_option maxRecDepth 20000 in
theorem srv_adrP {b : Nat} {w : World} {E : Ent} {K : List Tau} {Z : Array Value} (h : SrvAt b w E K (.agg Z)) (ha : AdrS E.a) : Z.extract 0 17 = E.a := by
  obtain ⟨tv, sv, e, _, _⟩ := h
  injection e with e
  subst e
  exact (srvL E.a ha.z E.c E.s1 E.s2 E.s3 tv sv E.more).ad
noncomputable abbrev vNeg (L : List Deed) : Array Value := tdC (cntD L) (totS6 (sumL ((smpD L).map (·.o)))) (totS6 (sumL ((smpD L).map (·.d)))) (totS6 (sumL ((smpD L).map (·.s)))) (.slice none 0 0) (.slice none 0 0) 0
set_option maxRecDepth 20000 in
theorem of_neg (b : Nat) (w : World) (o wd : Nat) (x bd : Int) (L : List Deed) : OfIs b w o wd x bd L (-1) (.agg (vNeg L)) := ⟨⟨_, _, rfl, ⟨rfl, .inl ⟨rfl, rfl⟩⟩, ⟨rfl, .inl ⟨rfl, rfl⟩⟩⟩, fun _ => rfl⟩
set_option maxRecDepth 20000 in
theorem ent_adr {N : Nat → Prop} {w : World} {T b : Nat} {C : CfgS} {o wd : Nat} {oD : Sd} {l : List Deed} {es : List Ent} {ot : Ent} {n : Nat} (h : TbI N w T b C o wd oD l es ot n) (k : Nat) (hk : k < es.length) : (nmS C.sv l)[k]? = some (nthE es ot k).a ∧ AdrS (nthE es ot k).a := by
  obtain ⟨⟨S, t, f⟩, s⟩ := h
  have ok := t.oks _ (nthE_mem es ot k)
  have eE : nthE es ot k = es[k] := by unfold nthE; rw [dif_pos hk]
  refine ⟨?_, AdrS.of_ok ok⟩
  rw [eE]
  exact (s.get (List.getElem?_eq_getElem hk)).1
set_option maxRecDepth 20000 in
theorem oth_adr {N : Nat → Prop} {w : World} {T b : Nat} {C : CfgS} {o wd : Nat} {oD : Sd} {l : List Deed} {es : List Ent} {ot : Ent} {n : Nat} (h : TbI N w T b C o wd oD l es ot n) : (nthE es ot es.length).a = adr0 := by
  obtain ⟨⟨S, t, f⟩, s⟩ := h
  have eE : nthE es ot es.length = ot := by unfold nthE; rw [dif_neg (by omega)]
  rw [eE]
  exact s.othD.a
set_option maxRecDepth 20000 in
theorem live_tbO {N : Nat → Prop} {w : World} {T b : Nat} {C : CfgS} {o wd : Nat} {oD : Sd} {l : List Deed} {es : List Ent} {ot : Ent} {n : Nat} (h : TbI N w T b C o wd oD l es ot n) (cok : CfgOk C o wd) (k : Nat) (hk : k < es.length) {ns : List (Array Value)} (e : nmS C.sv l = ns) : ofV o wd C.sl C.st (selD ns k l) k = 1 + (liveE o es[k] : Nat) := by
  subst e
  exact live_of (o := o) cok.w1 h.s k hk
set_option maxRecDepth 20000 in
theorem liveSum_mono (o : Nat) (es : List Ent) (k : Nat) : liveSum o (es.take k) ≤ liveSum o es := by
  have e : liveSum o es = liveSum o (es.take k) + liveSum o (es.drop k) := by
    unfold liveSum
    rw [← List.sum_append, ← List.map_append, List.take_append_drop]
  omega
set_option maxRecDepth 20000 in
theorem TbI.lowP {N : Nat → Prop} {w : World} {T b : Nat} {C : CfgS} {o wd : Nat} {oD : Sd} {l : List Deed} {es : List Ent} {ot : Ent} {n : Nat} (h : TbI N w T b C o wd oD l es ot n) : TbI (fun k => N k ∧ k < w.heap.size) w T b C o wd oD l es ot n := by
  obtain ⟨⟨S, t, f⟩, s⟩ := h
  exact ⟨⟨S, t, fun k hk => ⟨f k hk, t.lt k hk⟩⟩, s⟩
attribute [local go_sem] blk_cell' blk_frozen'
attribute [local go_sem ↓] loadF_addr storeF_addr loadF_cfgP loadF_do storeF_do loadF_smp storeF_smp loadF_srv storeF_srv loadF_td storeF_td neqF_adr
attribute [local go_sem] run_loadF0 run_storeF0
set_option maxRecDepth 20000 in
set_option maxHeartbeats 16000000 in
theorem plays36_good (A : Option Addr) (cap L : Nat) (l : List Deed) (C : CfgS) (o wd : Nat) (cok : CfgOk C o wd) (gf : greatB L C = false) (W : World) (hL : l.length = L) (h : DdsS W A cap l) :
    Calls Try.prog 3 #[.slice A L cap, .agg (cfC C)] W fun e w' => e = .returned (.bool true) ∧ Mo W w' := by
  have WK := Lib.hid works36_any
  have GR := Lib.hid (fun w => great_any A L cap C w)
  have HD := Lib.hid h
  have HL := Lib.hid hL
  have NW := Lib.hid (fun w => new_ses C o wd cok w)
  have COK := Lib.hid cok
  have l80 : L ≤ 80 := by
    unfold greatB at gf
    simp at gf
    omega
  rw [gf] at GR
  obtain ⟨s1, s2, x1, x2, eo, o1, o2, ew, w1', w2', t1, t2⟩ := cok
  have q1 : decide (C.sv < 1) = false := decide_eq_false (by omega)
  have q2 : decide (256 < C.sv) = false := decide_eq_false (by omega)
  have q3 : decide (C.sl < 1) = false := decide_eq_false (by omega)
  have q4 : decide (1152921504606846976 < C.sl) = false := decide_eq_false (by omega)
  have q5 : decide (C.oc < 1) = false := decide_eq_false (by omega)
  have q6 : decide (10 < C.oc) = false := decide_eq_false (by omega)
  have q7 : decide (C.sh < 1) = false := decide_eq_false (by omega)
  have q8 : decide (64 < C.sh) = false := decide_eq_false (by omega)
  have q9 : decide (C.st < 0) = false := decide_eq_false (by omega)
  clear h hL gf eo ew s1 s2 x1 x2 o1 o2 w1' w2' t1 t2
  go_enter Try.func3, Try.ntmps3
  go_upto_region 1 with (fail)
  refine wp_name ?_
  intro w1 hw1
  have b3 : Blk w1 W.heap.size 26 (cfC C) := by rw [hw1]; infer_instance
  have M1 : Mo W w1 := by rw [hw1]; exact Mor.out
  generalize W.heap.size = g3 at *
  clear hw1
  --@@ great
  go_wp2_with fail
  refine (GR.out _).mono ?_
  rintro e w2 ⟨rfl, M2⟩
  have M12 : Mo w1 w2 := (Mor.out : Mo w1 _).trans M2
  have b32 := M12.blk b3
  clear M2
  --@@ new
  go_wp2_with fail
  refine (NW.out _).mono ?_
  rintro e w3 ⟨T, oD, rfl, H2⟩
  obtain ⟨S0, t0, f0, m0⟩ := H2
  generalize w2.heap.size = b at t0
  have M23 : Mo w2 w3 := m0
  have b33 := M23.blk b32
  have HT3 : Hid (TbI (fun k => w2.heap.size ≤ k) w3 T b C o wd oD (l.take 0) [] (ent0 adr0 oD) 0) := Lib.hid ⟨⟨S0, t0, f0⟩, TSt.nil _ _ _ _⟩
  clear t0 f0 m0 NW GR b3 S0
  --@@ loop
  go_wp2_with fail
  go_loopw [90] (fun i wr => ∃ (j : Nat) (es : List Ent) (ot : Ent), j ≤ L ∧ i = .int .i64 j ∧ TbI (fun k => w2.heap.size ≤ k) wr T b C o wd oD (l.take j) es ot j ∧ Mo w2 wr) (fun i _ => L - (intOf i).toNat)
  case atStart => exact ⟨0, [], ent0 adr0 oD, by omega, rfl, HT3.out.mo Mor.out, M23.trans Mor.out⟩
  case round =>
    obtain ⟨j, es, ot, hj, rfl, hT, hM⟩ := hrel
    clear q1 q2 q3 q4 q5 q6 q7 q8 q9 HT3
    have b34 := hM.blk b32
    by_cases cj : j < L
    · have hjl : j < l.length := by rw [HL.out]; exact cj
      have MW := (M1.trans M12).trans hM
      obtain ⟨g, off, rfl, zg, ldm⟩ := (HD.out.mo MW).getM j hjl
      have ld := ldm wr (Mo.refl wr)
      have lc := HD.out.le
      rw [HL.out] at lc
      obtain ⟨A0, A2, hA0, hA2, sl0, sl2⟩ := cut_ddsP (some ⟨g, off, none⟩) L cap (j + 1) (by omega) lc
      rw [show ((j + 1 : Nat) : Int) = (j : Int) + 1 by omega] at sl0
      have LOW := Lib.hid (HD.out.low (j + 1) hA0 (by omega))
      obtain ⟨okd, oned⟩ := HD.out.ok _ (List.getElem_mem hjl)
      have SN : Hid (l.take (j + 1) = l.take j ++ [l[j]]) := Lib.hid (by rw [List.take_add_one, List.getElem?_eq_getElem hjl]; rfl)
      have iz : SzA (ddC l[j]) 67 := ⟨dd_size okd⟩
      generalize l[j] = d at *
      have HOK := Lib.hid okd
      have y0 := dd_0 okd
      have yk := dd_k okd
      obtain ⟨X, hX⟩ : ∃ X, ddC d = X := ⟨_, rfl⟩
      have HX := Lib.hid hX
      rw [hX] at ld iz y0 yk oned
      have HT := Lib.hid hT.lowP
      have HM := Lib.hid hM
      have i0 : (0 : Int) ≤ j := by omega
      have i2 : (j : Int) < L := by omega
      have hw : IntKind.i64.wrap ((j : Int) + 1) = j + 1 := by rw [IntKind.wrap_i64]; omega
      have HJ := Lib.hid cj
      have zda : SzA d.a 17 := ⟨okd.a.z⟩
      have oda : OneA d.a := one_of_fits okd.a.p
      have nb : w2.heap.size ≤ wr.heap.size := hM.size
      clear hT ldm hA0 hA2 sl2 lc hX okd hjl b33 cj hM
      --@@ r10
      go_upto_region 11 with (fail)
      refine wp_name ?_
      intro wa hwa
      obtain ⟨g8, hg8⟩ : ∃ g, wr.heap.size = g := ⟨_, rfl⟩
      have b8 : Blk wa g8 47 X := by rw [hwa, ← hg8]; infer_instance
      have Ma : Mo wr wa := by rw [hwa]; exact Mor.out
      have HG8 := Lib.hid hg8
      rw [hg8]
      clear hwa ld zg hg8
      have la : (loadF 35 (.pointer (some ⟨g8, 1, none⟩))).run Try.prog wa = .ok (.agg d.a) wa := by
        have := run_loadFo 35 17 wa g8 1 47 X 67 (by omega) (by omega)
        rwa [← HX.out, dd_a HOK.out] at this
      have HDA := Lib.hid (rfl : d.a = d.a)
      obtain ⟨da, hda⟩ : ∃ a, d.a = a := ⟨_, rfl⟩
      rw [hda] at la zda oda
      --@@ r11
      go_upto_region 12 with (fail)
      refine wp_name ?_
      intro wb hwb
      obtain ⟨g9, hg9⟩ : ∃ g, wa.heap.size = g := ⟨_, rfl⟩
      have b9 : Blk wb g9 35 da := by rw [hwb, ← hg9]; infer_instance
      have Mab : Mo wa wb := by rw [hwb]; exact Mor.out
      have b8b := Mab.blk b8
      have Mb := Ma.trans Mab
      have l89 : g8 < g9 := by have := b8.lt; omega
      rw [hg9]
      clear hwb la hg9 b8 Ma Mab
      --@@ r12
      clear HDA
      go_upto_if 98 with (fail)
      go_cut [10] (fun s10 wx => ∃ es' ot', s10 = .int .i64 (numI (nmS C.sv (l.take (j + 1))) (whoD d)) ∧ TbI (fun k => w2.heap.size ≤ k) wx T b C o wd oD (l.take (j + 1)) es' ot' (j + 1) ∧ Blk wx g9 35 (whoD d) ∧ Mo w2 wx)
      case first =>
        have n89 : g9 ≠ g8 := by omega
        by_cases hp : d.put = true
        · have zs : SzA (smpA d.S) 17 := ⟨HOK.out.S.a.z⟩
          have os : OneA (smpA d.S) := one_of_fits HOK.out.S.a.p
          have ew : whoD d = smpA d.S := by unfold whoD; rw [if_pos hp]
          have lw : (loadF 35 (.pointer (some ⟨g8, 37, none⟩))).run Try.prog wb = .ok (.agg (smpA d.S)) wb := by
            have := run_loadFo 35 17 wb g8 37 47 X 67 (by omega) (by omega)
            rwa [← HX.out, dd_w HOK.out] at this
          have EW := Lib.hid ew
          clear ew hda
          obtain ⟨wh, hwh⟩ : ∃ a, smpA d.S = a := ⟨_, rfl⟩
          rw [hwh] at zs os lw EW
          rw [hp]
          --@@ put1
          go_upto_region 14 with (fail)
          refine wp_name ?_
          intro wc hwc
          have b8c : Blk wc g8 47 X := by rw [hwc]; exact blk_setRow_ne b8b n89
          have b9c : Blk wc g9 35 wh := by rw [hwc]; exact blk_setRow b9
          have Mc : Mo wr wc := by rw [hwc]; exact mo_setRow Mb (by rw [HG8.out]; omega) _
          have ls : (loadF 45 (.pointer (some ⟨g8, 19, none⟩))).run Try.prog wc = .ok (.agg (smpC d.S)) wc := by
            have := run_loadFo 45 48 wc g8 19 47 X 67 (by omega) (by omega)
            rwa [← HX.out, dd_S HOK.out] at this
          have HTc : Hid (TbI (fun k => w2.heap.size ≤ k ∧ (k < wr.heap.size ∨ wc.heap.size ≤ k)) wc T b C o wd oD (l.take j) es ot j) := Lib.hid ((HT.out.mo Mc).wide fun k _ h => ⟨h.1, .inl h.2⟩)
          have zc := Mc.size
          have DO := Lib.hid (fun w (M : Mo wc w) => put_tb (HTc.out.mo M) (fun k q => by have := M.size; exact ⟨by omega, .inr (by omega)⟩) d HOK.out hp (by omega))
          have DM := Lib.hid (HM.out.trans Mc)
          have l9 : g9 < wc.heap.size := b9c.lt
          clear hwc b8b b9 Mb lw hp
          generalize smpC d.S = XS at *
          --@@ put2
          go_wp2_with fail
          refine (DO.out _ Mor.out).mono ?_
          rintro e wd' ⟨es', ot', rfl, t', K⟩
          have t2' := Lib.hid (t'.wide fun k _ h => h.1)
          have MM := Lib.hid (K.mo (DM.out.trans Mor.out) fun k _ h => h.1)
          have BB := K.blk ((Mor.out : Mo wc _).blk b9c) (by
            rintro ⟨h1, h2 | h2⟩
            · rw [HG8.out] at h2; omega
            · omega)
          clear t' K DO DM HTc ls b8c b9c
          go_wp2_with fail
          go_meet
          refine ⟨es', ot', ?_, ?_, by rw [EW.out]; exact Mo.blk Mor.out BB, MM.out.trans Mor.out⟩
          · rw [SN.out]
          · rw [SN.out]
            exact t2'.out.mo Mor.out
        · have hp' : d.put = false := by simpa using hp
          have ew : whoD d = d.a := by unfold whoD; rw [if_neg hp]
          have EW := Lib.hid ew
          rw [hda] at EW
          have la : (loadF 35 (.pointer (some ⟨g8, 1, none⟩))).run Try.prog wb = .ok (.agg d.a) wb := by
            have := run_loadFo 35 17 wb g8 1 47 X 67 (by omega) (by omega)
            rwa [← HX.out, dd_a HOK.out] at this
          have HTc : Hid (TbI (fun k => w2.heap.size ≤ k ∧ (k < wr.heap.size ∨ wb.heap.size ≤ k)) wb T b C o wd oD (l.take j) es ot j) := Lib.hid ((HT.out.mo Mb).wide fun k _ h => ⟨h.1, .inl h.2⟩)
          have zc := Mb.size
          have DO := Lib.hid (fun w (M : Mo wb w) => count_tb (HTc.out.mo M) (fun k q => by have := M.size; exact ⟨by omega, .inr (by omega)⟩) d HOK.out hp' (by omega))
          have DM := Lib.hid (HM.out.trans Mb)
          have l9 : g9 < wb.heap.size := b9.lt
          rw [hda] at la DO
          clear hda ew
          rw [hp']
          --@@ count
          go_wp2_with fail
          refine (DO.out _ Mor.out).mono ?_
          rintro e wd' ⟨es', ot', rfl, t', K⟩
          have t2' := Lib.hid (t'.wide fun k _ h => h.1)
          have MM := Lib.hid (K.mo (DM.out.trans Mor.out) fun k _ h => h.1)
          have BB := K.blk ((Mor.out : Mo wb _).blk b9) (by
            rintro ⟨h1, h2 | h2⟩
            · rw [HG8.out] at h2; omega
            · omega)
          clear t' K DO DM HTc la b8b b9
          go_wp2_with fail
          go_meet
          refine ⟨es', ot', ?_, ?_, by rw [EW.out]; exact Mo.blk Mor.out BB, MM.out.trans Mor.out⟩
          · rw [SN.out]
          · rw [SN.out]
            exact t2'.out.mo Mor.out
      obtain ⟨es', ot', rfl, hT', hB9, hM'⟩ := hcut
      rename World => wX
      have aw := whoD_ok HOK.out
      clear hda zda oda b8b b9 Mb l89 y0 yk iz HX HT HM nb oned
      have HLEN : Hid ((l.take (j + 1)).length = j + 1) := Lib.hid (by rw [List.length_take, HL.out]; have := HJ.out; omega)
      obtain ⟨lp, hlp⟩ : ∃ lp, l.take (j + 1) = lp := ⟨_, rfl⟩
      have HLP := Lib.hid hlp
      rw [hlp] at LOW hT' HLEN ⊢
      have RS := Lib.hid (fun w (m : Mo W w) => rservers36_any A0 cap (j + 1) lp C.sv w (LOW.out.mo m) HLEN.out (by omega))
      have FN := Lib.hid (fun w (m : Mo wX w) => find_tb (hT'.mo m) (whoD d) aw)
      have LN := Lib.hid (fun w (m : Mo wX w) => len_tbP (hT'.mo m))
      have nl : (nmS C.sv lp).length ≤ 81 := by have := nm_len C.sv lp; have := HLEN.out; omega
      obtain ⟨ns, hns⟩ : ∃ ns, nmS C.sv lp = ns := ⟨_, rfl⟩
      have HNS := Lib.hid hns
      rw [hns] at RS FN LN nl ⊢
      obtain ⟨K, hK⟩ : ∃ K, ns.length = K := ⟨_, rfl⟩
      have HK := Lib.hid hK
      rw [hK] at LN nl
      obtain ⟨wh, hwh⟩ : ∃ a, whoD d = a := ⟨_, rfl⟩
      rw [hwh] at FN hB9 aw ⊢
      obtain ⟨z, hz⟩ : ∃ z, numI ns wh = z := ⟨_, rfl⟩
      have HZ := Lib.hid hz
      rw [hz] at FN ⊢
      have HT' := Lib.hid hT'
      have MWX := (M1.trans M12).trans hM'
      have zwh : SzA wh 17 := ⟨aw.z⟩
      have b3X := hM'.blk b32
      have HSN : Hid (∃ d', lp = l.take j ++ [d']) := Lib.hid ⟨d, by rw [← HLP.out]; exact SN.out⟩
      clear hT' hlp hns hK hwh hz SN HOK HG8
      --@@ r16
      go_upto_region 16 with (fail)
      first | (refine wp_region_mo_tail 6 (by kernel_rfl) (by kernel_rfl) ?_) | (refine wp_region_mo_tail' 6 (by kernel_rfl) (by kernel_rfl) ?_)
      simp only [List.take_succ_cons, List.take_zero, List.drop_succ_cons, List.drop_zero]
      repeat (go_big_quiet_step (fail))
      refine wpQuiet_nil ?_
      intro w5 hw'
      have M5 : Mo wX w5 := by
        obtain ⟨⟨J9, d9⟩, hw''⟩ := hw'
        rw [hw'']
        exact Mor.out
      clear hw'
      --@@ servers
      go_wp2_with fail
      refine (RS.out _ (MWX.trans (M5.trans Mor.out))).mono ?_
      rintro e w6 ⟨v11, rfl, AD, M6⟩
      have M56 : Mo w5 w6 := (Mor.out : Mo w5 _).trans M6
      have MX6 := M5.trans M56
      obtain ⟨A11, c11, e11⟩ := AD.len
      rw [HK.out] at e11
      subst e11
      have b9c := MX6.blk hB9
      have NU := Lib.hid (fun w (m : Mo w6 w) => rnumber36_any (AD.mo m) aw (by rw [HK.out]; omega))
      rw [HZ.out] at NU
      have HAD := Lib.hid AD
      clear M6 M56 M5 RS AD
      --@@ find
      go_wp2_with fail
      refine (FN.out _ (MX6.trans Mor.out)).mono ?_
      rintro e w7 ⟨rfl, M7⟩
      have M67 : Mo w6 w7 := (Mor.out : Mo w6 _).trans M7
      have b9d := M67.blk b9c
      clear M7 FN b9c
      --@@ number
      go_wp2_with fail
      refine (NU.out _ (M67.trans Mor.out)).mono ?_
      rintro e w8 ⟨rfl, M8⟩
      have M68 := M67.trans ((Mor.out : Mo w7 _).trans M8)
      have zz : (z != z) = false := by simp
      have kk : ((K : Int) != K) = false := by simp
      clear M8 NU M67
      obtain ⟨zb, hzb⟩ : ∃ zb, decide (0 ≤ z) = zb := ⟨_, rfl⟩
      rw [hzb]
      have zbb : (zb != zb) = false := by simp
      --@@ len
      go_wp2_with fail
      refine (LN.out _ (MX6.trans (M68.trans Mor.out))).mono ?_
      rintro e w9 ⟨rfl, M9⟩
      have M69 := M68.trans ((Mor.out : Mo w8 _).trans M9)
      clear M9 M68
      have MX9 := MX6.trans M69
      have HSK := Lib.hid (show ((lp : List Deed) = lp) from rfl)
      obtain ⟨cb, hcb⟩ : ∃ cb, (((j : Int) % 20 != 19) && ((j : Int) != (L : Int) - 1)) = cb := ⟨_, rfl⟩
      have HCB := Lib.hid hcb
      have HM69 := Lib.hid M69
      clear hcb HSK M69 MX6 zz kk zbb
      --@@ r20
      go_upto_region 20 with (fail)
      go_cut [159] (fun s159 wx => s159 = .bool cb ∧ Mo w9 wx)
      case first =>
        have hc := HCB.out
        by_cases c1 : (j : Int) % 20 = 19
        · have p1 : ((j : Int) % 20 != 19) = false := by simpa using c1
          rw [p1] at hc
          have HC := Lib.hid hc
          clear hc c1
          go_wp2_with fail
          go_meet
          exact ⟨by rw [← HC.out]; rfl, Mor.out⟩
        · have p1 : ((j : Int) % 20 != 19) = true := by simpa using c1
          rw [p1] at hc
          by_cases c2 : (j : Int) = (L : Int) - 1
          · have p2 : ((j : Int) != (L : Int) - 1) = false := by simpa using c2
            rw [p2] at hc
            have HC := Lib.hid hc
            clear hc c2
            go_wp2_with fail
            go_meet
            exact ⟨by rw [← HC.out]; rfl, Mor.out⟩
          · have p2 : ((j : Int) != (L : Int) - 1) = true := by simpa using c2
            rw [p2] at hc
            have HC := Lib.hid hc
            clear hc c2
            go_wp2_with fail
            go_meet
            exact ⟨by rw [← HC.out]; rfl, Mor.out⟩
      obtain ⟨rfl, MY⟩ := hcut
      rename World => wY
      have MXY := MX9.trans MY
      have HMY := Lib.hid MY
      clear MY HCB
      cases cb with
      | true =>
        --@@ skip
        go_wp2_with fail
        go_roundw
        case rel => exact ⟨j + 1, es', ot', by have := HJ.out; omega, by go_num, by rw [HLP.out]; exact (HT'.out.mo MXY).mo Mor.out, (hM'.trans MXY).trans Mor.out⟩
        case measure => have := HJ.out; simp [intOf]; omega
      | false =>
        have HEL : Hid (es'.length = K) := Lib.hid (by
          obtain ⟨_, s⟩ := HT'.out
          rw [s.len, HNS.out, HK.out])
        have HTOT : Hid (liveSum o es' ≤ 100000) := Lib.hid (by
          have h1 := live_bd HT'.out
          have h2 : (2 : Nat) ^ o ≤ 1024 := Nat.pow_le_pow_right (by decide) COK.out.o2
          have h3 := COK.out.w2
          have h4 := HEL.out
          have h5 : es'.length * (2 ^ o + 2 * wd + 18) ≤ 81 * 1170 := Nat.mul_le_mul (by omega) (by omega)
          omega)
        --@@ loop2
        go_wp2_with fail
        go_loopw [14, 162] (fun s14 s162 wr => ∃ k : Nat, k ≤ K ∧ s162 = .int .i64 k ∧ s14 = .int .i64 ((k + liveSum o (es'.take k) : Nat) : Int) ∧ Mo wY wr) (fun _ s162 _ => K - (intOf s162).toNat)
        case atStart => exact ⟨0, by omega, rfl, rfl, Mor.out⟩
        case round =>
          obtain ⟨k, hk, rfl, rfl, hQ⟩ := hrel
          have MXr := MXY.trans hQ
          have MWr := MWX.trans MXr
          have M6r := ((HM69.out.trans HMY.out).trans hQ)
          have b3r := MXr.blk b3X
          by_cases ck : k < K
          · have hke : k < es'.length := by rw [HEL.out]; exact ck
            have SK := liveSum_take o es' k hke
            have SB := liveSum_mono o es' (k + 1)
            have HV := Lib.hid (live_tbO HT'.out COK.out k hke HNS.out)
            obtain ⟨le, hle⟩ : ∃ n, liveE o es'[k] = n := ⟨_, rfl⟩
            rw [hle] at SK HV
            obtain ⟨sk, hsk⟩ : ∃ n, liveSum o (es'.take k) = n := ⟨_, rfl⟩
            rw [hsk] at SK ⊢
            have HSK := Lib.hid SK
            have HTO := HTOT.out
            have lsb : sk + le ≤ 100000 := by omega
            obtain ⟨ea1, ea2⟩ := ent_adr HT'.out k hke
            rw [HNS.out] at ea1
            obtain ⟨gA, eA, zA, ldA⟩ := (HAD.out.mo M6r).get k (by rw [HK.out]; exact ck)
            subst eA
            have eak : ns[k]'(by rw [HK.out]; exact ck) = (nthE es' ot' k).a := by
              have := List.getElem?_eq_getElem (l := ns) (i := k) (by rw [HK.out]; exact ck)
              rw [ea1] at this
              injection this with this
              exact this.symm
            rw [eak] at ldA
            have LDA := Lib.hid ldA
            have TD := Lib.hid (fun w (m : Mo wX w) => told_tb (HT'.out.mo m) (by have := HJ.out; omega) k (Nat.le_of_lt hke))
            have OFC := Lib.hid (fun w (m : Mo W w) => rwhole36_any A0 cap (j + 1) lp C o wd COK.out (k : Nat) (.inr (by omega)) w (LOW.out.mo m) HLEN.out (by have := HJ.out; omega))
            rw [HNS.out] at OFC
            have HKE := Lib.hid hke
            have i3 : (0 : Int) ≤ k := by omega
            have i4 : (k : Int) < K := by omega
            have hwk : IntKind.i64.wrap ((k : Int) + 1) = k + 1 := by rw [IntKind.wrap_i64]; omega
            have EAS := Lib.hid ea2
            clear SK SB hle hsk HTO ea1 eak ldA hke ck ea2
            --@@ told
            go_wp2_with fail
            refine (TD.out _ (MXr.trans Mor.out)).mono ?_
            rintro e wc0 ⟨Z, rfl, zZ, oZ, R, Mc⟩
            have iZ : SzA Z 47 := ⟨zZ⟩
            have Mrc : Mo wr wc0 := (Mor.out : Mo wr _).trans Mc
            have HR := Lib.hid R
            clear Mc R zZ TD
            go_upto_region 26 with (fail)
            refine wp_name ?_
            intro wc hwc
            obtain ⟨g16, hg16⟩ : ∃ g, wc0.heap.size = g := ⟨_, rfl⟩
            have b16 : Blk wc g16 62 Z := by rw [hwc, ← hg16]; infer_instance
            have Mc0 : Mo wc0 wc := by rw [hwc]; exact Mor.out
            have HRc := Lib.hid (srv_moP HR.out Mc0)
            have Mrc' := Mrc.trans Mc0
            rw [hg16]
            clear hwc hg16 Mc0 Mrc HR
            have b3c := Mrc'.blk b3r
            have MWc := MWr.trans Mrc'
            have LDC : ∀ w, Mo wc w → (loadF 26 (.pointer (some ⟨g3, 0, none⟩))).run Try.prog w = .ok (.agg (cfC C)) w := fun w m => by
              have : Blk w g3 26 (cfC C) := m.blk b3c
              exact run_loadF0 26 12 w g3 26 (cfC C)
            have ldc := LDC wc (Mo.refl wc)
            --@@ r26
            go_cut [18, 177] (fun s18 s177 wx => ∃ (g18 : Nat) (Y : Array Value) (bb : Nat), s18 = .pointer (some ⟨g18, 0, none⟩) ∧ Blk wx g18 67 Y ∧ OfIs bb wx o wd C.sl C.st (selD ns k lp) k (.agg Y) ∧ Y.size = 30 ∧ Y[29]? = some (.int .i64 (ofV o wd C.sl C.st (selD ns k lp) k)) ∧ Mo wc wx)
            case first =>
              have z30A : SzA z30 30 := ⟨rfl⟩
              go_region_held3 (fun w' => (loadF 26 (.pointer (some ⟨g3, 0, none⟩))).run Try.prog w' = .ok (.agg (cfC C)) w') (first | exact LDC _ Mor.out | exact LDC _ Mz0 | exact LDC _ (Mz0.trans Mor.out) | exact LDC _ (mo_setRow Mz0 (Nat.le_refl _) _))
                (first
                  | ((with_reducible refine (OFC.out _ (MWc.trans Mor.out)).mono ?_)
                     rintro e wz ⟨v, rfl, OI, Mz⟩
                     have Mz0 : Mo wc wz := (Mor.out : Mo wc _).trans Mz
                     obtain ⟨Y, rfl, zY, oY, y29⟩ := OI.cells
                     have iY : SzA Y 30 := ⟨zY⟩
                     try (have bA : Blk wz wc.heap.size 67 z30 := Mz.blk inferInstance)))
              all_goals (
                go_wp2_with fail
                go_meet
                first
                  | exact ⟨_, Y, _, rfl, inferInstance, OI.mo Mor.out, zY, y29, Mz0.trans Mor.out⟩
                  | exact ⟨_, Y, _, rfl, blk_setRow bA, OI.row bA _, zY, y29, mo_setRow Mz0 (Nat.le_refl _) _⟩
                  | exact ⟨_, Y, _, rfl, Mo.blk Mor.out (blk_setRow bA), (OI.row bA _).mo Mor.out, zY, y29, (mo_setRow Mz0 (Nat.le_refl _) _).trans Mor.out⟩)
            obtain ⟨g18, Y, bb, rfl, b18, OI, zY, y29, Mcx⟩ := hcut
            rename World => wx
            have iY : SzA Y 30 := ⟨zY⟩
            rw [HV.out] at y29
            have b16x := Mcx.blk b16
            have R1 := Lib.hid (srv_moP HRc.out Mcx)
            have OI' := Lib.hid OI
            have Mrx := Mrc'.trans Mcx
            have SM := Lib.hid (fun w (m : Mo wx w) => same_tb HT'.out COK.out (by have := HJ.out; omega) (by rw [HLEN.out]; have := HJ.out; omega) k _ bb HKE.out (srv_moP R1.out m) (by rw [HNS.out]; exact OI'.out.mo m))
            have adr : Z.extract 0 17 = (nthE es' ot' k).a := by
              have e1 := R1.out
              have e2 := EAS.out
              revert e1 e2
              generalize nthE es' ot' k = E9
              intro e1 e2
              exact srv_adrP e1 e2
            have la : ∀ J d, (loadF 35 (.pointer (some ⟨g16, 0, none⟩))).run Try.prog (more wx J d) = .ok (.agg (nthE es' ot' k).a) (more wx J d) := fun J d => by
              have := run_loadFz 35 17 (more wx J d) g16 62 Z 47 (by omega)
              rwa [adr] at this
            have lb := fun J d => LDA.out (more wx J d) (Mrx.trans Mor.out)
            have nA := fun w => run_neq_adr w EAS.out
            have zA' : LtW gA wx := ⟨Nat.lt_of_lt_of_le zA.out Mrx.size⟩
            generalize (nthE es' ot' k).a = ea at *
            clear zY OI LDC LDA OFC adr b16 b3c HRc Mcx Mrc' hk
            --@@ r27
            go_upto_region 28 with (fail)
            first | (refine wp_region_mo (by kernel_rfl) (by kernel_rfl) ?_) | (refine wp_region_mo' (by kernel_rfl) (by kernel_rfl) ?_)
            repeat (go_big_quiet_step (first | (with_reducible exact quiet_mo (SM.out _ Mor.out))))
            refine wpQuiet_nil ?_
            intro wk hw'
            have Mk : Mo wx wk := by
              obtain ⟨⟨J9, d9⟩, hw''⟩ := hw'
              rw [hw'']
              exact Mor.out
            clear hw' SM la lb nA
            --@@ rend2
            go_wp2_with fail
            go_roundw
            case rel => exact ⟨k + 1, by omega, by go_num, by rw [HSK.out]; congr 1; omega, (hQ.trans Mrx).trans (Mk.trans Mor.out)⟩
            case measure => simp [intOf]; omega
          · obtain rfl : k = K := by omega
            have et : es'.take k = es' := List.take_of_length_le (by rw [HEL.out]; exact Nat.le_refl _)
            rw [et]
            have TD := Lib.hid (fun w (m : Mo wX w) => told_tb (HT'.out.mo m) (by have := HJ.out; omega) k (Nat.le_of_eq HEL.out.symm))
            have LVT := Lib.hid (fun w (m : Mo wX w) => live_tb (HT'.out.mo m) (by have := HJ.out; omega))
            rw [HEL.out] at LVT
            obtain ⟨tot, htot⟩ : ∃ n, k + liveSum o es' = n := ⟨_, rfl⟩
            rw [htot] at LVT ⊢
            have OFN := Lib.hid (fun w (m : Mo W w) => (rwhole36_any A0 cap (j + 1) lp C o wd COK.out (-1) (.inl rfl) w (LOW.out.mo m) HLEN.out (by have := HJ.out; omega)).mono fun e w' (q : ∃ v, e = .returned v ∧ OfIs w.heap.size w' o wd C.sl C.st (selD (nmS C.sv lp) (-1) lp) (-1) v ∧ Mo w w') => (show e = .returned (.agg (vNeg (selD (nmS C.sv lp) (-1) lp))) ∧ Mo w w' by
              obtain ⟨v, rfl, OI, M⟩ := q
              exact ⟨by rw [OI.neg (by decide)], M⟩))
            have EOA := Lib.hid (oth_adr HT'.out)
            rw [HEL.out] at EOA
            have tt : ((tot : Int) != tot) = false := by simp
            clear htot et hk ck
            --@@ told2
            go_wp2_with fail
            refine (TD.out _ (MXr.trans Mor.out)).mono ?_
            rintro e wc0 ⟨Z, rfl, zZ, oZ, R, Mc⟩
            have iZ : SzA Z 47 := ⟨zZ⟩
            have Mrc : Mo wr wc0 := (Mor.out : Mo wr _).trans Mc
            have HR := Lib.hid R
            clear Mc R zZ TD
            go_upto_region 32 with (fail)
            refine wp_name ?_
            intro wc hwc
            obtain ⟨g19, hg19⟩ : ∃ g, wc0.heap.size = g := ⟨_, rfl⟩
            have b19 : Blk wc g19 62 Z := by rw [hwc, ← hg19]; infer_instance
            have Mc0 : Mo wc0 wc := by rw [hwc]; exact Mor.out
            have HRc := Lib.hid (srv_moP HR.out Mc0)
            have Mrc' := Mrc.trans Mc0
            rw [hg19]
            clear hwc hg19 Mc0 Mrc HR
            have b3c := Mrc'.blk b3r
            have MWc := Lib.hid (MWr.trans Mrc')
            have MXc := Lib.hid (MXr.trans Mrc')
            have adr : Z.extract 0 17 = adr0 := by
              have e1 := HRc.out
              have e2 := EOA.out
              revert e1 e2
              generalize nthE es' ot' k = E9
              intro e1 e2
              rw [srv_adrP e1 (by rw [e2]; exact ⟨adr0_p, rfl⟩), e2]
            have la : ∀ J d, (loadF 35 (.pointer (some ⟨g19, 0, none⟩))).run Try.prog (more wc J d) = .ok (.agg adr0) (more wc J d) := fun J d => by
              have := run_loadFz 35 17 (more wc J d) g19 62 Z 47 (by omega)
              rwa [adr] at this
            have nO := fun w => run_neq_adr w (show AdrS adr0 from ⟨adr0_p, rfl⟩)
            have SMO := Lib.hid (fun w (m : Mo wc w) => same_oth HT'.out COK.out (by have := HJ.out; omega) _ 0 (by rw [HEL.out]; exact srv_moP HRc.out m) (of_neg 0 w o wd C.sl C.st (selD (nmS C.sv lp) (-1) lp)))
            obtain ⟨VN, hVN⟩ : ∃ V, vNeg (selD (nmS C.sv lp) (-1) lp) = V := ⟨_, rfl⟩
            rw [hVN] at SMO OFN
            clear adr hVN EOA HRc
            --@@ r32
            first | (refine wp_region_mo (by kernel_rfl) (by kernel_rfl) ?_) | (refine wp_region_mo' (by kernel_rfl) (by kernel_rfl) ?_)
            repeat (go_big_quiet_step (first | (with_reducible exact quiet_mo (OFN.out _ (MWc.out.trans Mor.out))) | (with_reducible exact quiet_mo (SMO.out _ Mor.out)) | (with_reducible exact quiet_mo (LVT.out _ (MXc.out.trans Mor.out)))))
            refine wpQuiet_nil ?_
            intro wk hw'
            have Mk : Mo wc wk := by
              obtain ⟨⟨J9, d9⟩, hw''⟩ := hw'
              rw [hw'']
              exact Mor.out
            clear hw' OFN SMO LVT la nO
            --@@ rend1
            go_wp2_with fail
            go_roundw
            case rel => exact ⟨j + 1, es', ot', by have := HJ.out; omega, by go_num, by rw [HLP.out]; exact ((HT'.out.mo MXc.out).mo Mk).mo Mor.out, ((hM'.trans MXc.out).trans Mk).trans Mor.out⟩
            case measure => have := HJ.out; simp [intOf]; omega
    · obtain rfl : j = L := by omega
      have MW := (M1.trans M12).trans hM
      clear hT b34
      --@@ end
      go_wp2_with fail
      refine (WK.out _).mono ?_
      rintro e w4 ⟨rfl, M4⟩
      go_wp2_with fail
      first | go_ret | skip
      exact ⟨rfl, MW.trans ((Mor.out : Mo wr _).trans (M4.trans Mor.out))⟩
set_option maxRecDepth 20000 in
theorem plays36_any (A : Option Addr) (cap L : Nat) (l : List Deed) (C : CfgS) (v : Value) (hv : v = .agg (cfC C)) (hI : CfgI C) (W : World) (hL : l.length = L) (h : DdsS W A cap l) :
    Calls Try.prog 3 #[.slice A L cap, v] W fun e w' => e = .returned (.bool true) ∧ Mo W w' := by
  by_cases gr : greatB L C = true
  · exact plays36_bad A cap L l C v hv hI W hL h (.inl gr)
  · by_cases bad : C.sv < 1 ∨ 256 < C.sv ∨ C.sl < 1 ∨ 1152921504606846976 < C.sl ∨ C.oc < 1 ∨ 10 < C.oc ∨ C.sh < 1 ∨ 64 < C.sh ∨ C.st < 0
    · exact plays36_bad A cap L l C v hv hI W hL h (.inr bad)
    · subst hv
      exact plays36_good A cap L l C _ _ (cfgOk_of hI bad) (by simpa using gr) W hL h
end Go.Proofs.Ythgkhllkhhnlpaa
