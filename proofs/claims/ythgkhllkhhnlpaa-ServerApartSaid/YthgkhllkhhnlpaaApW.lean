/- horologelaw36.ServerApart: the walk. -/
import Derived.Test.YthgkhllkhhnlpaaApP
import Derived.Test.YthgkhllkhhnlpaaSvH
namespace Go.Proofs.Ythgkhllkhhnlpaa
open Go.RowKit Go.Maps

set_option maxRecDepth 20000 in
theorem loadF_cfgS (v : Value) : Instr.loadAt 26 v = loadF 26 v := rfl
set_option maxRecDepth 20000 in
theorem new_bads (C : CfgS) (hI : CfgI C) (W : World) (h : C.sv < 1 ∨ 256 < C.sv ∨ C.sl < 1 ∨ 1152921504606846976 < C.sl ∨ C.oc < 1 ∨ 10 < C.oc ∨ C.sh < 1 ∨ 64 < C.sh ∨ C.st < 0) :
    Calls Try.prog 9 #[.agg (cfC C)] W fun e w' => e = .returned (.tuple #[nilS, .int .i64 2]) ∧ Mo W w' := tnew_out C W h hI.2.2.2.2.2
set_option maxRecDepth 20000 in
instance sz_zdo : SzA Try.zeroCells47 67 := ⟨by kernel_rfl⟩
set_option maxRecDepth 20000 in
theorem SrvAt.mo {b : Nat} {w w' : World} {E : Ent} {K : List Tau} {v : Value} (h : SrvAt b w E K v) (m : Mo w w') : SrvAt b w' E K v := by
  obtain ⟨tv, sv, e, o1, o2⟩ := h
  exact ⟨tv, sv, e, owns_mo o1 m, owns_mo o2 m⟩
set_option maxRecDepth 20000 in
theorem eqlF_adr (x y : Value) : binOp .eql 35 x y = eqlF 35 x y := rfl
set_option maxRecDepth 20000 in
theorem run_eql_adr (w : World) {a b : Array Value} (h : AdrS a) (h' : AdrS b) : (eqlF 35 (.agg a) (.agg b)).run Try.prog w = .ok (.bool (eqA a b)) w := run_eql_flat fl_addr w h.p h'.p
set_option maxRecDepth 20000 in
theorem srv_cntF {Z a : Array Value} {c : Nat → Int} {S1 S2 S3 : St} {tv sv : Value} {mr : Nat} (hZ : SrvL a c S1 S2 S3 tv sv mr Z) (w : World) (g : Nat) (b : Blk w g 62 Z) : (loadF 56 (.pointer (some ⟨g, 17, none⟩))).run Try.prog w = .ok (.agg (c9 c)) w := by
  have iz : SzA Z 47 := ⟨hZ.sz⟩
  rw [run_loadFo 56 9 w g 17 62 Z 47 (by omega) (by omega), hZ.cn]
set_option maxRecDepth 20000 in
theorem taus_len10 {o : Nat} (h : o ≤ 10) (M : List Slot) : (taus M o).length ≤ 1000 := by rw [taus_len]; omega
set_option maxRecDepth 20000 in
theorem ofp_cases {sv : Int} {D0 : Sd} {a : Array Value} {es es1 : List Ent} {q : Option Nat} (P : OfP sv D0 a es es1 q) : (a ∈ es.map (·.a) ∧ es1.length = es.length ∧ ∃ i : Nat, q = some i) ∨ (a ∉ es.map (·.a) ∧ (es.length : Int) < sv ∧ q = some es.length ∧ es1.length = es.length + 1) ∨ (a ∉ es.map (·.a) ∧ sv ≤ es.length ∧ q = none ∧ es1.length = es.length) := by
  cases P with
  | yes h e => exact .inl ⟨List.mem_map.2 ⟨_, List.mem_of_getElem? h, e⟩, rfl, _, rfl⟩
  | new h l => exact .inr (.inl ⟨h, l, rfl, by simp⟩)
  | full h l => exact .inr (.inr ⟨h, l, rfl, rfl⟩)
attribute [local go_sem] blk_cell' blk_frozen'
attribute [local go_sem ↓] loadF_addr loadF_cfg loadF_do storeF_do loadF_srv storeF_srv loadF_cnt neqF_adr eqlF_adr
attribute [local go_sem] run_loadF0 run_storeF0
set_option maxRecDepth 20000 in
set_option maxHeartbeats 16000000 in
theorem apart36_any (A : Option Addr) (cap L : Nat) (l : List Deed) (C : CfgS) (v : Value) (hv : v = .agg (cfC C)) (hI : CfgI C) (W : World) (hL : l.length = L) (h : DdsS W A cap l) :
    Calls Try.prog 4 #[.slice A L cap, v] W fun e w' => e = .returned (.bool true) ∧ Mo W w' := by
  subst hv
  have WK := Lib.hid works36_any
  have GR := Lib.hid (fun w => great_any A L cap C w)
  have HD := Lib.hid h
  have HL := Lib.hid hL
  have HI := Lib.hid hI
  by_cases bad : C.sv < 1 ∨ 256 < C.sv ∨ C.sl < 1 ∨ 1152921504606846976 < C.sl ∨ C.oc < 1 ∨ 10 < C.oc ∨ C.sh < 1 ∨ 64 < C.sh ∨ C.st < 0
  · have NB := Lib.hid (fun w => new_bads C hI w bad)
    clear bad h hL hI HD HL HI
    obtain ⟨cw, ck, csv, csl, coc, cep, csh, cst, cln, cbl, cfr, cfb⟩ := C
    generalize greatB L _ = gb at GR
    go_enter Try.func4, Try.ntmps4
    go_upto_region 1 with (fail)
    refine wp_name ?_
    intro w1 hw1
    have b3 : Blk w1 W.heap.size 26 (cfC ⟨cw, ck, csv, csl, coc, cep, csh, cst, cln, cbl, cfr, cfb⟩) := by rw [hw1]; infer_instance
    have M1 : Mo W w1 := by rw [hw1]; exact Mor.out
    generalize W.heap.size = g3 at *
    clear hw1
    go_wp2_with fail
    refine (NB.out _).mono ?_
    rintro e w2 ⟨rfl, M2⟩
    have M12 : Mo w1 w2 := (Mor.out : Mo w1 _).trans M2
    have b32 := M12.blk b3
    go_wp2_with fail
    refine (GR.out _).mono ?_
    rintro e w3 ⟨rfl, M3⟩
    have M13 : Mo w1 w3 := M12.trans ((Mor.out : Mo w2 _).trans M3)
    clear M2 M12 b3 b32 M3
    cases gb <;> (
      go_wp2_with fail
      refine (WK.out _).mono ?_
      rintro e w4 ⟨rfl, M4⟩
      go_wp2_with fail
      go_ret
      exact ⟨rfl, (M1.trans M13).trans ((Mor.out : Mo w3 _).trans (M4.trans Mor.out))⟩)
  · have cok := cfgOk_of hI bad
    have HC := Lib.hid cok
    generalize C.oc.toNat = o at HC cok
    generalize C.sh.toNat = wd at HC cok
    have NW := Lib.hid (fun w => new_ses C o wd HC.out w)
    by_cases gr : greatB L C = true
    · rw [gr] at GR
      clear bad h hL hI HD HL HI gr cok HC
      obtain ⟨cw, ck, csv, csl, coc, cep, csh, cst, cln, cbl, cfr, cfb⟩ := C
      go_enter Try.func4, Try.ntmps4
      go_upto_region 1 with (fail)
      refine wp_name ?_
      intro w1 hw1
      have b3 : Blk w1 W.heap.size 26 (cfC ⟨cw, ck, csv, csl, coc, cep, csh, cst, cln, cbl, cfr, cfb⟩) := by rw [hw1]; infer_instance
      have M1 : Mo W w1 := by rw [hw1]; exact Mor.out
      generalize W.heap.size = g3 at *
      clear hw1
      go_wp2_with fail
      refine (NW.out _).mono ?_
      rintro e w2 ⟨T, D, rfl, H2⟩
      have M12 : Mo w1 w2 := (Mor.out : Mo w1 _).trans H2.out
      have b32 := M12.blk b3
      clear H2
      go_wp2_with fail
      refine (GR.out _).mono ?_
      rintro e w3 ⟨rfl, M3⟩
      have M13 : Mo w1 w3 := M12.trans ((Mor.out : Mo w2 _).trans M3)
      clear M12 b3 b32 M3
      go_wp2_with fail
      refine (WK.out _).mono ?_
      rintro e w4 ⟨rfl, M4⟩
      go_wp2_with fail
      go_ret
      exact ⟨rfl, (M1.trans M13).trans ((Mor.out : Mo w3 _).trans (M4.trans Mor.out))⟩
    · have gf : greatB L C = false := by simpa using gr
      have l80 : L ≤ 80 := by
        unfold greatB at gf
        simp at gf
        omega
      have s1 := cok.s1
      rw [gf] at GR
      clear bad h hL hI gr gf HI
      go_enter Try.func4, Try.ntmps4
      go_upto_region 1 with (fail)
      refine wp_name ?_
      intro w1 hw1
      have b3 : Blk w1 W.heap.size 26 (cfC C) := by rw [hw1]; infer_instance
      have M1 : Mo W w1 := by rw [hw1]; exact Mor.out
      generalize W.heap.size = g3 at *
      clear hw1
      --@@ new
      go_wp2_with fail
      refine (NW.out _).mono ?_
      rintro e w2 ⟨T, oD, rfl, H2⟩
      generalize w1.heap.size = b at H2
      have H := Lib.hid H2
      have b32 := H2.out.blk b3
      clear H2
      go_wp2_with fail
      refine (GR.out _).mono ?_
      rintro e w3 ⟨rfl, M3⟩
      have M23 : Mo w2 w3 := (Mor.out : Mo w2 _).trans M3
      have HS3 := Lib.hid (H.out.mo M23)
      clear M3 H b32 GR M23
      --@@ loop1
      go_wp2_with fail
      go_loopw [7, 8, 9, 42] (fun s7 s8 s9 i wr => ∃ (j : Nat) (es : List Ent) (ot : Ent), j ≤ L ∧ i = .int .i64 j ∧ s7 = .int .i64 (es.length : Nat) ∧ s8 = .int .i64 (totM csE es ot) ∧ s9 = .int .i64 (totM cwE es ot) ∧ Ses w1 wr T b C o wd es ot j ∧ TSt C.sv C.sl (sd0 wd C.st) oD (l.take j) es ot) (fun _ _ _ i _ => L - (intOf i).toNat)
      case atStart => exact ⟨0, [], ent0 adr0 oD, by omega, rfl, rfl, rfl, rfl, HS3.out.mo Mor.out, TSt.nil _ _ _ _⟩
      case round =>
        obtain ⟨j, es, ot, hj, rfl, rfl, rfl, rfl, hS, hT⟩ := hrel
        have hb3 := hS.out.blk b3
        by_cases cj : j < L
        · have hjl : j < l.length := by rw [HL.out]; exact cj
          obtain ⟨S, t, qS, m⟩ := hS
          obtain ⟨gl, off, eA, zl, ld⟩ := (HD.out.mo (M1.trans m)).get j hjl
          subst eA
          obtain ⟨okd, one⟩ := HD.out.ok _ (List.getElem_mem hjl)
          have SN : Hid (l.take (j + 1) = l.take j ++ [l[j]]) := Lib.hid (by rw [List.take_add_one, List.getElem?_eq_getElem hjl]; rfl)
          have e0 : (0 : Int) ≤ j := by omega
          have e1 : (j : Int) < L := by omega
          have hw : IntKind.i64.wrap ((j : Int) + 1) = j + 1 := by rw [IntKind.wrap_i64]; omega
          have l256 : es.length ≤ 256 := by
            obtain ⟨B, lv, gs, Fs, go, Fo, ti, ft⟩ := t.at_.ex
            have h1 := ti.le
            have h2 := ti.ok.s2
            omega
          have oks := t.oks
          have bdc := sumM_bd csE 720 (es ++ [ot]) fun E hE => by have := cs_bd (oks E hE); omega
          have bdw := sumM_bd cwE 80 (es ++ [ot]) fun E hE => by have := cw_bd (oks E hE); omega
          have ec := tot_sum csE es ot
          have ew := tot_sum cwE es ot
          rw [List.drop_zero] at ec ew
          rw [← ec, List.length_append, List.length_singleton] at bdc
          rw [← ew, List.length_append, List.length_singleton] at bdw
          obtain ⟨ln, hln⟩ : ∃ ln, es.length = ln := ⟨_, rfl⟩
          have WH := Lib.hid (fun w => whose_any l[j] okd w)
          have aok := whoD_ok okd
          generalize hdd : l[j] = d at *
          have iz : SzA (ddC d) 67 := ⟨dd_size okd⟩
          have y0 := dd_0 okd
          have yk := dd_k okd
          have nS : ¬ S wr.heap.size := fun h => by have := t.lt _ h; omega
          have HT := Lib.hid t
          have HQ := Lib.hid qS
          have HM := Lib.hid m
          have HST0 := Lib.hid hT
          have HAOK := Lib.hid aok
          have HOK := Lib.hid okd
          have kl : d.k < 256 := okd.k
          have DO := Lib.hid (fun w (t : TabW w T b S C o wd es ot j) => does_any t d okd (by omega))
          generalize ddC d = X at *
          clear hT t qS oks ec ew hdd aok okd hjl cj
          --@@ x
          go_upto_region 10 with (fail)
          refine wp_name ?_
          intro wa hwa
          have b11 : Blk wa wr.heap.size 47 X := by rw [hwa]; infer_instance
          have Ma : Mo wr wa := by rw [hwa]; exact Mor.out
          have hb3a := Ma.blk hb3
          generalize hg11 : wr.heap.size = g11 at *
          clear hwa hb3 ld zl m
          --@@ whose
          go_wp2_with fail
          refine (WH.out _).mono ?_
          rintro e wb ⟨rfl, Mb⟩
          have Mab : Mo wa wb := (Mor.out : Mo wa _).trans Mb
          have b11b := Mab.blk b11
          have hb3b := Mab.blk hb3a
          have N1 := Ma.trans Mab
          clear Mb Mab b11 hb3a Ma WH
          --@@ find
          go_wp2_with fail
          refine (tfind_w (HT.out.mo (N1.trans Mor.out)) (whoD d) HAOK.out).mono ?_
          rintro e wc ⟨q0, rfl, f1, f2, Mc⟩
          have Mbc : Mo wb wc := (Mor.out : Mo wb _).trans Mc
          have b11c := Mbc.blk b11b
          have hb3c := Mbc.blk hb3b
          have N2 := N1.trans Mbc
          have HF1 := Lib.hid f1
          have HF2 := Lib.hid f2
          clear Mc Mbc b11b hb3b N1 f1 f2
          --@@ does
          go_wp2_with fail
          refine (DO.out _ (HT.out.mo (N2.trans Mor.out))).mono ?_
          rintro e wd' ⟨es1, q, S', rfl, P, t', K, fr⟩
          have nS' : ¬ S' g11 := fun h => (fr _ h).elim nS (fun z => Nat.lt_irrefl _ (Nat.lt_of_lt_of_le b11c.lt (Nat.le_trans (Mo.size Mor.out) z)))
          have b11d := K.blk ((Mor.out : Mo wc _).blk b11c) nS
          have mf : Mo w1 wc := HM.out.trans N2
          have HM2 : Hid (Mo w1 wd') := Lib.hid (K.mo (mf.trans Mor.out) fun k _ => HQ.out k)
          have HQ2 : Hid (∀ k, S' k → w1.heap.size ≤ k) := Lib.hid fun k h => (fr k h).elim (HQ.out k) (Nat.le_trans (mf.trans Mor.out).size)
          have hb3d := HM2.out.blk b3
          have HST := Lib.hid (HST0.out.step P)
          have TC := Lib.hid (tot_chg (cs_act C.sl d q) (cs_0 (whoD d) (sd0 wd C.st)) P (ot := ot))
          have TW := Lib.hid (tot_chg (cw_act C.sl d q) (cw_0 (whoD d) (sd0 wd C.st)) P (ot := ot))
          have LC := Lib.hid (len_chg (f := actQ C.sl d q) (ot := ot) P)
          have cs := ofp_cases P
          have HT2 := Lib.hid t'
          have HPB := Lib.hid (rfl : d.put = d.put)
          generalize (chg (actQ C.sl d q) es1 ot q).1 = es' at *
          generalize (chg (actQ C.sl d q) es1 ot q).2 = ot' at *
          obtain ⟨pb, hpb⟩ : ∃ b, d.put = b := ⟨_, rfl⟩
          replace HPB : Hid (d.put = pb) := Lib.hid hpb
          rw [hpb] at y0
          clear hpb t' K fr P HT HQ b11c hb3c N2 mf HST0 HAOK HOK nS nS' HM DO
          rw [hln] at cs l256 bdc bdw
          generalize totM csE es ot = tc at *
          generalize totM cwE es ot = tw at *
          have w8 : IntKind.i64.wrap (tc + 1) = tc + 1 := by rw [IntKind.wrap_i64]; omega
          have w9 : IntKind.i64.wrap (tw + 1) = tw + 1 := by rw [IntKind.wrap_i64]; omega
          clear bdc bdw hln
          rcases cs with cs | cs | cs
          · obtain ⟨c1, c2, i0, rfl⟩ := cs
            obtain ⟨i1, rfl⟩ : ∃ i, q0 = some i := by
              cases q0 with
              | none => exact absurd c1 (HF2.out rfl)
              | some i => exact ⟨i, rfl⟩
            have e1 : (some i1 : Option Nat).isSome = true := rfl
            have e2 : numO (some i0) = (i0 : Nat) := rfl
            rw [e1, e2]
            have HLN : Hid (es'.length = ln) := Lib.hid (by rw [LC.out, c2])
            clear e1 e2 c1 HF1 HF2
            cases pb with
            | true =>
              have HTC : Hid (totM csE es' ot' = tc) := Lib.hid (by have := TC.out; rw [HPB.out] at this; simpa using this)
              have HTW : Hid (totM cwE es' ot' = tw + 1) := Lib.hid (by have := TW.out; rw [HPB.out] at this; simpa using this)
              clear TC TW LC HPB
              --@@ yes put
              go_wp2_with fail
              go_roundw
              case rel => exact ⟨j + 1, es', ot', by omega, by go_num, (by rw [HLN.out] <;> first | rfl | go_num), (by rw [HTC.out] <;> first | rfl | (congr 1; omega)), (by rw [HTW.out] <;> first | rfl | (congr 1; omega)), ⟨S', HT2.out.mo Mor.out, HQ2.out, HM2.out.trans Mor.out⟩, by rw [SN.out]; exact HST.out⟩
              case measure => simp [intOf]; omega
            | false =>
              have HTW : Hid (totM cwE es' ot' = tw) := Lib.hid (by have := TW.out; rw [HPB.out] at this; simpa using this)
              by_cases k9 : d.k < 9
              · have dk : decide ((d.k : Int) < 9) = true := decide_eq_true (by omega)
                have dk' : decide (d.k < 9) = true := decide_eq_true k9
                have HTC : Hid (totM csE es' ot' = tc + 1) := Lib.hid (by have := TC.out; rw [HPB.out] at this; simpa [k9] using this)
                clear TC TW LC HPB k9
                --@@ yes count True
                go_wp2_with fail
                go_roundw
                case rel => exact ⟨j + 1, es', ot', by omega, by go_num, (by rw [HLN.out] <;> first | rfl | go_num), (by rw [HTC.out] <;> first | rfl | (congr 1; omega)), (by rw [HTW.out] <;> first | rfl | (congr 1; omega)), ⟨S', HT2.out.mo Mor.out, HQ2.out, HM2.out.trans Mor.out⟩, by rw [SN.out]; exact HST.out⟩
                case measure => simp [intOf]; omega
              · have dk : decide ((d.k : Int) < 9) = false := decide_eq_false (by omega)
                have dk' : decide (d.k < 9) = false := decide_eq_false k9
                have HTC : Hid (totM csE es' ot' = tc) := Lib.hid (by have := TC.out; rw [HPB.out] at this; simpa [k9] using this)
                clear TC TW LC HPB k9
                --@@ yes count False
                go_wp2_with fail
                go_roundw
                case rel => exact ⟨j + 1, es', ot', by omega, by go_num, (by rw [HLN.out] <;> first | rfl | go_num), (by rw [HTC.out] <;> first | rfl | (congr 1; omega)), (by rw [HTW.out] <;> first | rfl | (congr 1; omega)), ⟨S', HT2.out.mo Mor.out, HQ2.out, HM2.out.trans Mor.out⟩, by rw [SN.out]; exact HST.out⟩
                case measure => simp [intOf]; omega
          · obtain ⟨c1, c2, rfl, c3⟩ := cs
            obtain rfl : q0 = none := by
              cases q0 with
              | none => rfl
              | some i => exact absurd (List.mem_of_getElem? (HF1.out i rfl)) c1
            have e1 : (none : Option Nat).isSome = false := rfl
            have e2 : numO (some ln) = (ln : Nat) := rfl
            have d1 : decide ((0 : Int) ≤ ln) = true := decide_eq_true (by omega)
            have d2 : (((ln : Nat) : Int) != (ln : Nat)) = false := by simp
            have d3 : decide (C.sv ≤ (ln : Nat)) = false := decide_eq_false (by omega)
            have w7 : IntKind.i64.wrap ((ln : Int) + 1) = ((ln + 1 : Nat) : Int) := by rw [IntKind.wrap_i64]; omega
            have HLN : Hid (es'.length = ln + 1) := Lib.hid (by rw [LC.out, c3])
            rw [e1, e2]
            clear e1 e2 c1 HF1 HF2
            cases pb with
            | true =>
              have HTC : Hid (totM csE es' ot' = tc) := Lib.hid (by have := TC.out; rw [HPB.out] at this; simpa using this)
              have HTW : Hid (totM cwE es' ot' = tw + 1) := Lib.hid (by have := TW.out; rw [HPB.out] at this; simpa using this)
              clear TC TW LC HPB
              --@@ new put
              go_wp2_with fail
              go_roundw
              case rel => exact ⟨j + 1, es', ot', by omega, by go_num, (by rw [HLN.out] <;> first | rfl | go_num), (by rw [HTC.out] <;> first | rfl | (congr 1; omega)), (by rw [HTW.out] <;> first | rfl | (congr 1; omega)), ⟨S', HT2.out.mo Mor.out, HQ2.out, HM2.out.trans Mor.out⟩, by rw [SN.out]; exact HST.out⟩
              case measure => simp [intOf]; omega
            | false =>
              have HTW : Hid (totM cwE es' ot' = tw) := Lib.hid (by have := TW.out; rw [HPB.out] at this; simpa using this)
              by_cases k9 : d.k < 9
              · have dk : decide ((d.k : Int) < 9) = true := decide_eq_true (by omega)
                have dk' : decide (d.k < 9) = true := decide_eq_true k9
                have HTC : Hid (totM csE es' ot' = tc + 1) := Lib.hid (by have := TC.out; rw [HPB.out] at this; simpa [k9] using this)
                clear TC TW LC HPB k9
                --@@ new count True
                go_wp2_with fail
                go_roundw
                case rel => exact ⟨j + 1, es', ot', by omega, by go_num, (by rw [HLN.out] <;> first | rfl | go_num), (by rw [HTC.out] <;> first | rfl | (congr 1; omega)), (by rw [HTW.out] <;> first | rfl | (congr 1; omega)), ⟨S', HT2.out.mo Mor.out, HQ2.out, HM2.out.trans Mor.out⟩, by rw [SN.out]; exact HST.out⟩
                case measure => simp [intOf]; omega
              · have dk : decide ((d.k : Int) < 9) = false := decide_eq_false (by omega)
                have dk' : decide (d.k < 9) = false := decide_eq_false k9
                have HTC : Hid (totM csE es' ot' = tc) := Lib.hid (by have := TC.out; rw [HPB.out] at this; simpa [k9] using this)
                clear TC TW LC HPB k9
                --@@ new count False
                go_wp2_with fail
                go_roundw
                case rel => exact ⟨j + 1, es', ot', by omega, by go_num, (by rw [HLN.out] <;> first | rfl | go_num), (by rw [HTC.out] <;> first | rfl | (congr 1; omega)), (by rw [HTW.out] <;> first | rfl | (congr 1; omega)), ⟨S', HT2.out.mo Mor.out, HQ2.out, HM2.out.trans Mor.out⟩, by rw [SN.out]; exact HST.out⟩
                case measure => simp [intOf]; omega
          · obtain ⟨c1, c2, rfl, c3⟩ := cs
            obtain rfl : q0 = none := by
              cases q0 with
              | none => rfl
              | some i => exact absurd (List.mem_of_getElem? (HF1.out i rfl)) c1
            have e1 : (none : Option Nat).isSome = false := rfl
            have e2 : numO none = -1 := rfl
            have d1 : decide (((ln : Nat) : Int) < C.sv) = false := decide_eq_false (by omega)
            have HLN : Hid (es'.length = ln) := Lib.hid (by rw [LC.out, c3])
            rw [e1, e2]
            clear e1 e2 c1 HF1 HF2
            cases pb with
            | true =>
              have HTC : Hid (totM csE es' ot' = tc) := Lib.hid (by have := TC.out; rw [HPB.out] at this; simpa using this)
              have HTW : Hid (totM cwE es' ot' = tw + 1) := Lib.hid (by have := TW.out; rw [HPB.out] at this; simpa using this)
              clear TC TW LC HPB
              --@@ full put
              go_wp2_with fail
              go_roundw
              case rel => exact ⟨j + 1, es', ot', by omega, by go_num, (by rw [HLN.out] <;> first | rfl | go_num), (by rw [HTC.out] <;> first | rfl | (congr 1; omega)), (by rw [HTW.out] <;> first | rfl | (congr 1; omega)), ⟨S', HT2.out.mo Mor.out, HQ2.out, HM2.out.trans Mor.out⟩, by rw [SN.out]; exact HST.out⟩
              case measure => simp [intOf]; omega
            | false =>
              have HTW : Hid (totM cwE es' ot' = tw) := Lib.hid (by have := TW.out; rw [HPB.out] at this; simpa using this)
              by_cases k9 : d.k < 9
              · have dk : decide ((d.k : Int) < 9) = true := decide_eq_true (by omega)
                have dk' : decide (d.k < 9) = true := decide_eq_true k9
                have HTC : Hid (totM csE es' ot' = tc + 1) := Lib.hid (by have := TC.out; rw [HPB.out] at this; simpa [k9] using this)
                clear TC TW LC HPB k9
                --@@ full count True
                go_wp2_with fail
                go_roundw
                case rel => exact ⟨j + 1, es', ot', by omega, by go_num, (by rw [HLN.out] <;> first | rfl | go_num), (by rw [HTC.out] <;> first | rfl | (congr 1; omega)), (by rw [HTW.out] <;> first | rfl | (congr 1; omega)), ⟨S', HT2.out.mo Mor.out, HQ2.out, HM2.out.trans Mor.out⟩, by rw [SN.out]; exact HST.out⟩
                case measure => simp [intOf]; omega
              · have dk : decide ((d.k : Int) < 9) = false := decide_eq_false (by omega)
                have dk' : decide (d.k < 9) = false := decide_eq_false k9
                have HTC : Hid (totM csE es' ot' = tc) := Lib.hid (by have := TC.out; rw [HPB.out] at this; simpa [k9] using this)
                clear TC TW LC HPB k9
                --@@ full count False
                go_wp2_with fail
                go_roundw
                case rel => exact ⟨j + 1, es', ot', by omega, by go_num, (by rw [HLN.out] <;> first | rfl | go_num), (by rw [HTC.out] <;> first | rfl | (congr 1; omega)), (by rw [HTW.out] <;> first | rfl | (congr 1; omega)), ⟨S', HT2.out.mo Mor.out, HQ2.out, HM2.out.trans Mor.out⟩, by rw [SN.out]; exact HST.out⟩
                case measure => simp [intOf]; omega
        · obtain rfl : j = L := by omega
          have et : l.take j = l := List.take_of_length_le (by rw [HL.out]; exact Nat.le_refl _)
          rw [et] at hT
          have HT1 := Lib.hid hT
          have HSo := Lib.hid hS
          have l256 : es.length ≤ 256 := by
            obtain ⟨S, t, qS, m⟩ := hS
            obtain ⟨B, lv, gs, Fs, go, Fo, ti, ft⟩ := t.at_.ex
            have h1 := ti.le
            have h2 := ti.ok.s2
            omega
          have HOKS : Hid (∀ E ∈ es ++ [ot], EntOk j E) := Lib.hid (by
            obtain ⟨S, t, qS, m⟩ := hS
            exact t.oks)
          have ho10 := HC.out.o2
          have hsv1 := HC.out.s1
          rw [tot_sum csE es ot, tot_sum cwE es ot]
          obtain ⟨ln, hln⟩ : ∃ ln, es.length = ln := ⟨_, rfl⟩
          obtain ⟨al, hal⟩ : ∃ al, es ++ [ot] = al := ⟨_, rfl⟩
          have hall : al.length = ln + 1 := by rw [← hal, List.length_append, List.length_singleton, hln]
          have HAL := Lib.hid hal
          have HLN := Lib.hid hln
          have N0 := M1.trans hS.out
          have LNC : Hid (∀ w, Mo wr w → Calls Try.prog 15 #[ptrS T] w fun e w' => e = .returned (.int .i64 (ln : Nat)) ∧ Mo w w') := Lib.hid (fun w m => by
            have := len_ses (HSo.out.mo m)
            rwa [hln] at this)
          have BD : Hid (∀ i, 0 ≤ sumM csE (al.drop i) ∧ sumM csE (al.drop i) ≤ 300000 ∧ 0 ≤ sumM cwE (al.drop i) ∧ sumM cwE (al.drop i) ≤ 300000) := Lib.hid (fun i => by
            have h1 := sumM_bd csE 720 (al.drop i) fun E hE => by have := cs_bd (HOKS.out E (by rw [hal]; exact List.mem_of_mem_drop hE)); omega
            have h2 := sumM_bd cwE 80 (al.drop i) fun E hE => by have := cw_bd (HOKS.out E (by rw [hal]; exact List.mem_of_mem_drop hE)); omega
            have h3 : (al.drop i).length ≤ 257 := by rw [List.length_drop]; omega
            omega)
          have TOLD : Hid (∀ (i : Nat) (E : Ent), al[i]? = some E → ∃ K : List Tau, K.length ≤ 1000 ∧ (i < ln → es[i]? = some E ∧ K = taus E.M o) ∧ ∀ w, Mo wr w → Calls Try.prog 16 #[ptrS T, .int .i64 (i : Nat)] w fun e w' => ∃ v, e = .returned (.tuple #[v, .bool true]) ∧ SrvAt (w.heap.size + 1) w' E K v ∧ Mo w w') := Lib.hid (fun i E hE => by
            rw [← hal] at hE
            by_cases c : i < es.length
            · rw [List.getElem?_append_left c] at hE
              exact ⟨taus E.M o, taus_len10 ho10 _, fun _ => ⟨hE, rfl⟩, fun w m => told_ses (HSo.out.mo m) (by omega) i E hE⟩
            · have hi := (List.getElem?_eq_some_iff.1 hE).1
              rw [List.length_append, List.length_singleton] at hi
              obtain rfl : i = es.length := by omega
              rw [List.getElem?_append_right (Nat.le_refl _), Nat.sub_self] at hE
              simp only [List.getElem?_cons_zero, Option.some.injEq] at hE
              subst hE
              exact ⟨[], by simp, fun q => by omega, fun w m => toldo_ses (HSo.out.mo m) (by omega) _ rfl⟩)
          rw [hln] at l256 ⊢
          rw [hal]
          have HB3 := Lib.hid hb3
          obtain ⟨wo, hwo⟩ : ∃ w, w = wr := ⟨_, rfl⟩
          subst hwo
          have HN0 := Lib.hid N0
          have HALL := Lib.hid hall
          clear hS hT hln hal hj hb3 cj et N0 hall
          --@@ loop2
          go_wp2_with fail
          go_loopw [8, 9, 15] (fun s8 s9 s15 wr => ∃ i : Nat, i ≤ ln + 1 ∧ s15 = .int .i64 i ∧ s8 = .int .i64 (sumM csE (al.drop i)) ∧ s9 = .int .i64 (sumM cwE (al.drop i)) ∧ Mo wo wr) (fun _ _ s15 _ => ln + 1 - (intOf s15).toNat)
          case atStart => exact ⟨0, by omega, rfl, rfl, rfl, Mor.out⟩
          case round =>
            obtain ⟨i, hi, rfl, rfl, rfl, hM⟩ := hrel
            --@@ len
            go_wp2_with fail
            refine (LNC.out _ (hM.trans Mor.out)).mono ?_
            rintro e wa ⟨rfl, Ma⟩
            have Na : Mo wo wa := hM.trans ((Mor.out : Mo wr _).trans Ma)
            clear Ma hM
            by_cases ci : i ≤ ln
            · have d1 : decide ((i : Int) ≤ ln) = true := decide_eq_true (by omega)
              have d1' : decide (i ≤ ln) = true := decide_eq_true ci
              obtain ⟨E, hE⟩ : ∃ E, al[i]? = some E := ⟨_, List.getElem?_eq_getElem (by rw [HALL.out]; omega)⟩
              obtain ⟨K, K10, hK, TD⟩ := TOLD.out i E hE
              have HTD := Lib.hid TD
              have HK := Lib.hid hK
              have okE := HOKS.out E (by rw [HAL.out]; exact List.mem_of_getElem? hE)
              have adE : AdrS E.a := ⟨okE.a, okE.sz⟩
              have HADE := Lib.hid adE
              have dc := sumM_drop csE al i E hE
              have dw := sumM_drop cwE al i E hE
              obtain ⟨b1, b2, b3', b4⟩ := BD.out i
              obtain ⟨b5, b6, b7, b8⟩ := BD.out (i + 1)
              have kc := okE.c
              have kcb : ∀ k, 0 ≤ E.c k ∧ E.c k ≤ 1000000 := fun k => by have := kc k; omega
              have pb9 := pc_bd E.c 80 (fun k => by have := kc k; omega)
              have stl : E.st.length ≤ 1000 := by have := okE.st; omega
              have HSTL := Lib.hid stl
              have HKCB := Lib.hid kcb
              have HPB := Lib.hid pb9
              have P9 := Lib.hid (pc_9 E)
              have HDC := Lib.hid dc
              have HDW := Lib.hid dw
              generalize sumM csE (al.drop i) = sc at *
              generalize sumM cwE (al.drop i) = sw at *
              generalize hsc1 : sumM csE (al.drop (i + 1)) = sc1 at *
              generalize hsw1 : sumM cwE (al.drop (i + 1)) = sw1 at *
              have HSC1 := Lib.hid hsc1
              have HSW1 := Lib.hid hsw1
              have ww1 : IntKind.i64.wrap (E.s1.c + E.s1.w) = E.s1.c + E.s1.w := by
                have h1 := cw_bd okE
                unfold cwE at h1
                rw [IntKind.wrap_i64]; omega
              have ww2 : IntKind.i64.wrap (sw - (E.s1.c + E.s1.w)) = sw1 := by
                have h1 : cwE E = E.s1.c + E.s1.w := rfl
                rw [IntKind.wrap_i64]; omega
              clear okE kc kcb pb9 stl hsc1 hsw1 dc dw hE TD hK adE
              --@@ told
              go_wp2_with fail
              refine (HTD.out _ (Na.trans Mor.out)).mono ?_
              rintro e wb ⟨v, rfl, R, Mb⟩
              have Mab : Mo wa wb := (Mor.out : Mo wa _).trans Mb
              have Nb := Na.trans Mab
              obtain ⟨X, rfl, zX, oX⟩ := srvAt_one R HADE.out
              have iX : SzA X 47 := ⟨zX⟩
              have HR := Lib.hid R
              clear Mb Mab zX R Na HTD
              go_upto_region 27 with (fail)
              refine wp_name ?_
              intro wc hwc
              have b16 : Blk wc wb.heap.size 62 X := by rw [hwc]; infer_instance
              have Mbc : Mo wb wc := by rw [hwc]; exact Mor.out
              have Nc := Nb.trans Mbc
              have HRc := Lib.hid (HR.out.mo Mbc)
              generalize wb.heap.size = g16 at *
              clear hwc Mbc HR Nb
              obtain ⟨tv, sv, eX, o1, o2⟩ := HRc.out
              have eX' : X = srvC E.a E.c E.s1 E.s2 E.s3 tv sv E.more := by injection eX
              have HSL : Hid (SrvL E.a E.c E.s1 E.s2 E.s3 tv sv E.more X) := Lib.hid (by rw [eX']; exact srvL E.a HADE.out.z _ _ _ _ _ _ _)
              obtain ⟨x26, x27⟩ : X[26]? = some (.int .i64 E.s1.c) ∧ X[27]? = some (.int .i64 E.s1.w) := by rw [eX']; exact srv_c1 HADE.out.z _ _ _ _ _ _ _
              have lc := srv_cntF HSL.out wc g16 b16
              clear eX eX' o1 o2
              --@@ counts
              go_wp2_with fail
              go_loopw [8, 118] (fun s8 s118 wq => ∃ k : Nat, k ≤ 9 ∧ s118 = .int .i64 k ∧ s8 = .int .i64 (sc - pcE E.c k) ∧ Mo wc wq) (fun _ s118 _ => 9 - (intOf s118).toNat)
              case atStart => exact ⟨0, by omega, rfl, by simp [pcE], Mor.out⟩
              case round =>
                obtain ⟨k, hk, rfl, rfl, hQ⟩ := hrel
                by_cases ck : k < 9
                · have ix := run_idx_cnt E.c k ck
                  have p0 := HPB.out k
                  have p1 := HPB.out (k + 1)
                  have pe : pcE E.c (k + 1) = pcE E.c k + E.c k := rfl
                  rw [pe] at p1
                  have HPE := Lib.hid pe
                  have e0 : (0 : Int) ≤ k := by omega
                  have e1 : (k : Int) < 9 := by omega
                  have hw : IntKind.i64.wrap ((k : Int) + 1) = k + 1 := by rw [IntKind.wrap_i64]; omega
                  have hs : IntKind.i64.wrap (sc - pcE E.c k - E.c k) = sc - pcE E.c k - E.c k := by rw [IntKind.wrap_i64]; omega
                  clear pe p0 p1 ck lc x26 x27 ww1 ww2
                  go_wp2_with fail
                  go_roundw
                  case rel => exact ⟨k + 1, by omega, by go_num, (by rw [HPE.out]; congr 1; omega), hQ.trans Mor.out⟩
                  case measure => simp [intOf]; omega
                · obtain rfl : k = 9 := by omega
                  have es9 : sc - pcE E.c 9 = sc1 := by rw [P9.out]; have := HDC.out; omega
                  rw [es9]
                  obtain ⟨wq, hwq⟩ : ∃ w, w = wr := ⟨_, rfl⟩
                  subst hwq
                  have b16q := hQ.blk b16
                  have Nq := Nc.trans hQ
                  clear lc x26 x27 ww1 ww2 es9 ck hk
                  --@@ len2
                  go_wp2_with fail
                  refine (LNC.out _ (Nq.trans Mor.out)).mono ?_
                  rintro e wd' ⟨rfl, Md⟩
                  have Mqd : Mo wq wd' := (Mor.out : Mo wq _).trans Md
                  have b16d := Mqd.blk b16q
                  have Nd := Nq.trans Mqd
                  have Mcd := hQ.trans Mqd
                  have hwi : IntKind.i64.wrap ((i : Int) + 1) = i + 1 := by rw [IntKind.wrap_i64]; omega
                  clear Md Mqd b16q Nq hQ
                  by_cases cl : i = ln
                  · have d2 : decide ((i : Int) = ln) = true := decide_eq_true (by omega)
                    have d2' : decide (i = ln) = true := decide_eq_true cl
                    have d3 : (((i : Nat) : Int) == (ln : Nat)) = true := by simp [cl]
                    have HCL := Lib.hid cl
                    clear cl
                    go_wp2_with fail
                    go_roundw
                    case rel => exact ⟨i + 1, by have := HCL.out; omega, by go_num, by rw [HSC1.out], by rw [HSW1.out], Nd.trans Mor.out⟩
                    case measure => simp [intOf]; omega
                  · have d2 : decide ((i : Int) = ln) = false := decide_eq_false (by omega)
                    have d2' : decide (i = ln) = false := decide_eq_false cl
                    have d3 : (((i : Nat) : Int) == (ln : Nat)) = false := by
                      rw [beq_eq_false_iff_ne]
                      omega
                    obtain ⟨hEs, hKt⟩ := HK.out (by omega)
                    have HES := Lib.hid hEs
                    have HKT := Lib.hid hKt
                    have b3d := Nd.blk HB3.out
                    have icl : i < ln := by omega
                    clear cl hEs hKt HK
                    --@@ alone
                    go_wp2_with fail
                    refine (NW.out _).mono ?_
                    rintro e we ⟨T2, oD2, rfl, He⟩
                    obtain ⟨W2, hW2⟩ : ∃ w, w = wd' := ⟨_, rfl⟩
                    subst hW2
                    generalize W2.heap.size = bb at He
                    have HSA := Lib.hid He
                    have Ne := Nd.trans He.out
                    have b16e := He.out.blk b16d
                    clear He b3d
                    --@@ loop4
                    go_wp2_with fail
                    go_loopw [142] (fun s142 wq => ∃ (k : Nat) (es' : List Ent) (ot' : Ent) (n' : Nat), k ≤ j ∧ s142 = .int .i64 k ∧ n' ≤ k ∧ Ses W2 wq T2 bb C o wd es' ot' n' ∧ TSt C.sv C.sl (sd0 wd C.st) oD2 (ofA E.a (l.take k)) es' ot') (fun s142 _ => j - (intOf s142).toNat)
                    case atStart => exact ⟨0, [], ent0 adr0 oD2, 0, by omega, rfl, Nat.le_refl _, HSA.out.mo Mor.out, TSt.nil _ _ _ _⟩
                    case round =>
                      obtain ⟨k, es', ot', n', hk, rfl, hn', hS', hT'⟩ := hrel
                      obtain ⟨wq4, hwq4⟩ : ∃ w, w = wr := ⟨_, rfl⟩
                      subst hwq4
                      have M4 := hS'.out
                      have b16f := M4.blk b16d
                      have N4 := Nd.trans M4
                      have HS' := Lib.hid hS'
                      have HT' := Lib.hid hT'
                      clear hS' hT'
                      by_cases ck : k < j
                      · have hkl : k < l.length := by rw [HL.out]; exact ck
                        obtain ⟨gl, off, eA, zl, ld⟩ := (HD.out.mo (HN0.out.trans N4)).get k hkl
                        subst eA
                        obtain ⟨okd, one⟩ := HD.out.ok _ (List.getElem_mem hkl)
                        have SN : Hid (l.take (k + 1) = l.take k ++ [l[k]]) := Lib.hid (by rw [List.take_add_one, List.getElem?_eq_getElem hkl]; rfl)
                        have e0 : (0 : Int) ≤ k := by omega
                        have e1 : (k : Int) < j := by omega
                        have hw : IntKind.i64.wrap ((k : Int) + 1) = k + 1 := by rw [IntKind.wrap_i64]; omega
                        have WH := Lib.hid (fun w => whose_any l[k] okd w)
                        have aok := whoD_ok okd
                        generalize hdd : l[k] = d at *
                        have iz : SzA (ddC d) 67 := ⟨dd_size okd⟩
                        have DO := Lib.hid (fun w (t : Ses W2 w T2 bb C o wd es' ot' n') => (by
                          obtain ⟨S, t, q, m⟩ := t
                          exact (does_any t d okd (by omega)).mono fun e w' D => done_ses q m D : Calls Try.prog 21 #[ptrS T2, .agg (ddC d)] w fun e w' => ∃ es1 q, e = .returned (.int .i64 (numO q)) ∧ OfP C.sv (sd0 wd C.st) (whoD d) es' es1 q ∧ Ses W2 w' T2 bb C o wd (chg (actQ C.sl d q) es1 ot' q).1 (chg (actQ C.sl d q) es1 ot' q).2 (n' + 1)))
                        have eq1 := fun w => run_eql_adr w aok HADE.out
                        have HQE : Hid (eqA (whoD d) E.a = true ↔ whoD d = E.a) := Lib.hid eqA_iff
                        obtain ⟨eb, heb⟩ : ∃ b, eqA (whoD d) E.a = b := ⟨_, rfl⟩
                        rw [heb] at HQE eq1
                        generalize ddC d = Y at *
                        clear heb hdd aok okd hkl ck
                        --@@ x4
                        go_upto_region 42 with (fail)
                        refine wp_name ?_
                        intro wf hwf
                        have b23 : Blk wf wq4.heap.size 47 Y := by rw [hwf]; infer_instance
                        have Mf : Mo wq4 wf := by rw [hwf]; exact Mor.out
                        have b16g := Mf.blk b16f
                        generalize hg23 : wq4.heap.size = g23 at *
                        have lad := fun J dd => srv_adr HSL.out (more wf J dd) g16 ((Mor.out : Mo wf (more wf J dd)).blk b16g)
                        clear hwf ld zl
                        first | (refine wp_region_mo (by kernel_rfl) (by kernel_rfl) ?_) | (refine wp_region_mo' (by kernel_rfl) (by kernel_rfl) ?_)
                        repeat (go_big_quiet_step (first | (with_reducible exact quiet_mo (WH.out _))))
                        refine wpQuiet_nil ?_
                        intro _ hw'
                        obtain ⟨⟨J9, d9⟩, hw''⟩ := hw'
                        subst hw''
                        clear lad eq1 WH
                        cases eb with
                        | true =>
                          have HWE := Lib.hid (HQE.out.1 rfl)
                          --@@ does4
                          go_wp2_with fail
                          refine (DO.out _ (HS'.out.mo (Mf.trans Mor.out))).mono ?_
                          rintro e wg ⟨es1, q, rfl, P, H4⟩
                          have HST := Lib.hid (HT'.out.step P)
                          have H4' := Lib.hid H4
                          generalize (chg (actQ C.sl d q) es1 ot' q).1 = es2 at *
                          generalize (chg (actQ C.sl d q) es1 ot' q).2 = ot2 at *
                          clear H4 P
                          go_wp2_with fail
                          go_roundw
                          case rel => exact ⟨k + 1, es2, ot2, n' + 1, by omega, by go_num, by omega, H4'.out.mo Mor.out, by rw [SN.out, ofA_snoc_yes HWE.out]; exact HST.out⟩
                          case measure => simp [intOf]; omega
                        | false =>
                          have HWE : Hid (whoD d ≠ E.a) := Lib.hid fun q => by
                            have := HQE.out.2 q
                            cases this
                          --@@ skip4
                          go_wp2_with fail
                          go_roundw
                          case rel => exact ⟨k + 1, es', ot', n', by omega, by go_num, by omega, HS'.out.mo (Mf.trans Mor.out), by rw [SN.out, ofA_snoc_no HWE.out]; exact HT'.out⟩
                          case measure => simp [intOf]; omega
                      · obtain rfl : k = j := by omega
                        have et : l.take k = l := List.take_of_length_le (by rw [HL.out]; exact Nat.le_refl _)
                        have hT2 := HT'.out
                        rw [et] at hT2
                        have ee := alone_eq hsv1 HT1.out HES.out hT2
                        subst ee
                        have HS2 := Lib.hid HS'.out
                        have HRq := Lib.hid ((HRc.out.mo Mcd).mo M4)
                        clear hT2 HT' HS' et ck
                        --@@ told0
                        go_wp2_with fail
                        refine (told_ses (HS2.out.mo Mor.out) (by omega) 0 E rfl).mono ?_
                        rintro e wf ⟨v, rfl, R2, Mf⟩
                        rw [← HKT.out] at R2
                        have Mqf : Mo wq4 wf := (Mor.out : Mo wq4 _).trans Mf
                        obtain ⟨Z, rfl, zZ, oZ⟩ := srvAt_one R2 HADE.out
                        have iZ : SzA Z 47 := ⟨zZ⟩
                        have HR2 := Lib.hid R2
                        have b16g := Mqf.blk b16f
                        clear Mf zZ R2
                        go_upto_region 46 with (fail)
                        refine wp_name ?_
                        intro wg hwg
                        have b24 : Blk wg wf.heap.size 62 Z := by rw [hwg]; infer_instance
                        have Mfg : Mo wf wg := by rw [hwg]; exact Mor.out
                        have b16h := Mfg.blk b16g
                        have Mqg := Mqf.trans Mfg
                        have HR2g := Lib.hid (HR2.out.mo Mfg)
                        generalize wf.heap.size = g24 at *
                        clear hwg Mfg HR2 Mqf b16g
                        --@@ like
                        go_wp2_with fail
                        refine (like_any (HRq.out.mo (Mqg.trans Mor.out)) (HR2g.out.mo Mor.out) HADE.out HKCB.out K10 HSTL.out).mono ?_
                        rintro e wh ⟨rfl, Mh⟩
                        have Mqh := Mqg.trans ((Mor.out : Mo wg _).trans Mh)
                        clear Mh b24 b16h
                        --@@ len4
                        go_wp2_with fail
                        refine (len_ses (HS2.out.mo (Mqh.trans Mor.out))).mono ?_
                        rintro e wi ⟨rfl, Mi⟩
                        have Mqi := Mqh.trans ((Mor.out : Mo wh _).trans Mi)
                        clear Mi
                        rw [show (([E] : List Ent).length : Int) = 1 from rfl]
                        --@@ end2
                        go_wp2_with fail
                        go_roundw
                        case rel => exact ⟨i + 1, by omega, by go_num, by rw [HSC1.out], by rw [HSW1.out], (N4.trans Mqi).trans Mor.out⟩
                        case measure => simp [intOf]; omega
            · obtain rfl : i = ln + 1 := by omega
              have d1 : decide (((ln + 1 : Nat) : Int) ≤ ln) = false := decide_eq_false (by omega)
              have d1' : decide (ln + 1 ≤ ln) = false := decide_eq_false (by omega)
              have ed : al.drop (ln + 1) = [] := List.drop_eq_nil_of_le (by rw [HALL.out]; exact Nat.le_refl _)
              have z1 : sumM csE (al.drop (ln + 1)) = 0 := by rw [ed]; rfl
              have z2 : sumM cwE (al.drop (ln + 1)) = 0 := by rw [ed]; rfl
              rw [z1, z2]
              clear ed z1 z2 ci hi
              --@@ end
              go_wp2_with fail
              refine (LNC.out _ (Na.trans Mor.out)).mono ?_
              rintro e wb ⟨rfl, Mb⟩
              have Nb := Na.trans ((Mor.out : Mo wa _).trans Mb)
              have d4 : (((ln : Nat) : Int) == (ln : Nat)) = true := by simp
              clear Mb Na
              go_wp2_with fail
              refine (WK.out _).mono ?_
              rintro e wc ⟨rfl, Mc⟩
              go_wp2_with fail
              first | go_ret | skip
              exact ⟨rfl, (HN0.out.trans Nb).trans ((Mor.out : Mo wb _).trans (Mc.trans Mor.out))⟩
end Go.Proofs.Ythgkhllkhhnlpaa
