/- horologelaw36.ServerCopies: the walk. -/
import Derived.Test.YthgkhllkhhnlpaaCpE
import Derived.Test.YthgkhllkhhnlpaaCpL
import Derived.Test.YthgkhllkhhnlpaaSvH
namespace Go.Proofs.Ythgkhllkhhnlpaa
open Go.RowKit Go.Maps

set_option maxRecDepth 20000 in
theorem loadF_cfgC (v : Value) : Instr.loadAt 26 v = loadF 26 v := rfl
set_option maxRecDepth 20000 in
theorem new_badC2 (C : CfgS) (hI : CfgI C) (W : World) (h : C.sv < 1 ∨ 256 < C.sv ∨ C.sl < 1 ∨ 1152921504606846976 < C.sl ∨ C.oc < 1 ∨ 10 < C.oc ∨ C.sh < 1 ∨ 64 < C.sh ∨ C.st < 0) :
    Calls Try.prog 9 #[.agg (cfC C)] W fun e w' => e = .returned (.tuple #[nilS, .int .i64 2]) ∧ Mo W w' := tnew_out C W h hI.2.2.2.2.2
set_option maxRecDepth 20000 in
instance sz_zdoC : SzA Try.zeroCells47 67 := ⟨by kernel_rfl⟩
set_option maxRecDepth 20000 in
theorem cut_dds (A : Option Addr) (n cap m : Nat) (hm : m ≤ n) (hc : n ≤ cap) : ∃ A0 A2, (∀ g off, A = some ⟨g, off, none⟩ → A0 = some ⟨g, off, none⟩) ∧ (∀ g off, A = some ⟨g, off, none⟩ → m < n → A2 = some ⟨g, off + m * 67, none⟩) ∧ (∀ w : World, (Instr.slice 22 (.slice A n cap) none (some (.int .i64 (m : Int))) none).run Try.prog w = .ok (.slice A0 m cap) w) ∧ (∀ w : World, (Instr.slice 22 (.slice A n cap) (some (.int .i64 (m : Int))) none none).run Try.prog w = .ok (.slice A2 (n - m) (cap - m)) w) := by
  have hsz : ∀ w : World, (sizeOf (Try.prog.elem 22)).run Try.prog w = .ok 67 w := fun w => by kernel_rfl
  refine ⟨if cap = 0 then A else A.map (·.add (0 * 67)), if cap = m then A else A.map (·.add (m * 67)), ?_, ?_, fun w => ?_, fun w => ?_⟩
  · rintro g off rfl
    split
    · rfl
    · show some ((⟨g, off, none⟩ : Addr).add (0 * 67)) = _
      rw [Go.WideShapes.add_plain]
      rfl
  · rintro g off rfl h
    rw [if_neg (by omega)]
    show some ((⟨g, off, none⟩ : Addr).add (m * 67)) = _
    rw [Go.WideShapes.add_plain]
  · rw [run_slice_h w 22 A n cap Try.underlying22 .i64 m (by omega) (by omega), hsz]
    rfl
  · rw [run_slice_l w 22 A n cap Try.underlying22 .i64 m (by omega) (by omega), hsz]
    rfl
set_option maxRecDepth 20000 in
theorem srv_low {b b' : Nat} {w : World} {E : Ent} {K : List Tau} {v : Value} (h : SrvAt (b + 1) w E K v) (l : b' ≤ b) : SrvAt b' w E K v := h.low (by omega)
set_option maxRecDepth 20000 in
theorem flat_lenS : ∀ (l : List (Array Value)), (∀ x ∈ l, x.size = 47) → (l.flatMap Array.toList).length = l.length * 47
  | [], _ => rfl
  | x :: l, h => by
    rw [List.flatMap_cons, List.length_append, flat_lenS l fun y hy => h y (by simp [hy]), Array.length_toList, h x (by simp), List.length_cons]
    omega
set_option maxRecDepth 20000 in
theorem srv_mo {b : Nat} {w w' : World} {E : Ent} {K : List Tau} {v : Value} (h : SrvAt b w E K v) (m : Mo w w') : SrvAt b w' E K v := h.kp (KpS.of_mo (S := fun _ => False) m) fun _ _ _ e => e
set_option maxRecDepth 20000 in
theorem WasIs.flat {b : Nat} {w : World} {v : Value} {es : List Ent} {ot : Ent} {o m : Nat} {Xs : List (Array Value)} (h : WasIs b w v es ot o m Xs) : (Xs.flatMap Array.toList).length = m * 47 := by
  rw [← h.len]
  refine flat_lenS Xs fun x hx => ?_
  obtain ⟨j, hj⟩ := List.getElem?_of_mem hx
  exact (h.at_ j x hj).1
set_option maxRecDepth 20000 in
theorem WasIs.base {b : Nat} {w : World} {v : Value} {es : List Ent} {ot : Ent} {o m : Nat} {Xs : List (Array Value)} (h : WasIs b w v es ot o m Xs) : ∀ g, v.ownBlock = some g → b ≤ g := fun g hg => by
  rcases h.row.2 with ⟨e, _⟩ | ⟨g', _, _, e, hb, _⟩
  · rw [e] at hg; simp [Value.ownBlock] at hg
  · rw [e] at hg
    have : g' = g := by simpa [Value.ownBlock] using hg
    omega
set_option maxRecDepth 20000 in
theorem TbI.low {N : Nat → Prop} {w : World} {T b : Nat} {C : CfgS} {o wd : Nat} {oD : Sd} {l : List Deed} {es : List Ent} {ot : Ent} {n : Nat} (h : TbI N w T b C o wd oD l es ot n) : TbI (fun k => N k ∧ k < w.heap.size) w T b C o wd oD l es ot n := by
  obtain ⟨⟨S, t, f⟩, s⟩ := h
  exact ⟨⟨S, t, fun k hk => ⟨f k hk, t.lt k hk⟩⟩, s⟩
set_option maxRecDepth 20000 in
theorem copy_tb {N : Nat → Prop} {w0 w : World} {T b : Nat} {C : CfgS} {o wd : Nat} {oD : Sd} {l : List Deed} {es : List Ent} {ot : Ent} {n : Nat} (h : TbI N w T b C o wd oD l es ot n) (hn : n ≤ 900) (m : Mo w0 w) :
    Calls Try.prog 23 #[ptrS T] w fun e w' => ∃ T' n0, e = .returned (ptrS T') ∧ w0.heap.size ≤ n0 ∧ n0 ≤ w'.heap.size ∧ TbI (fun k => N k ∧ k < n0) w' T b C o wd oD l es ot n ∧ TbI (fun k => n0 ≤ k) w' T' n0 C o wd oD l es ot n ∧ Mo w w' := by
  obtain ⟨⟨S, t, f⟩, s⟩ := h
  refine (tcopy_any t (by omega)).mono ?_
  rintro e w' ⟨T', S', rfl, t', f', M⟩
  exact ⟨T', w.heap.size, rfl, m.size, M.size, ⟨⟨S, t.mo M, fun k hk => ⟨f k hk, t.lt k hk⟩⟩, s⟩, ⟨⟨S', t', f'⟩, s⟩, M⟩
set_option maxRecDepth 20000 in
theorem len_tb {N : Nat → Prop} {w : World} {T b : Nat} {C : CfgS} {o wd : Nat} {oD : Sd} {l : List Deed} {es : List Ent} {ot : Ent} {n : Nat} (h : TbI N w T b C o wd oD l es ot n) :
    Calls Try.prog 15 #[ptrS T] w fun e w' => e = .returned (.int .i64 (es.length : Nat)) ∧ Mo w w' := by
  obtain ⟨⟨S, t, f⟩, s⟩ := h
  exact tlen_w t
attribute [local go_sem] blk_cell' blk_frozen'
attribute [local go_sem ↓] buildSV_fold appS_fold loadF_addr loadF_cfgC loadF_do storeF_do loadF_srv storeF_srv
attribute [local go_sem] run_loadF0 run_storeF0 run_buildSV
set_option maxRecDepth 20000 in
set_option maxHeartbeats 16000000 in
theorem copies36_any (A : Option Addr) (cap L : Nat) (l : List Deed) (C : CfgS) (v : Value) (x : Int) (hv : v = .agg (cfC C)) (hI : CfgI C) (W : World) (hL : l.length = L) (h : DdsS W A cap l) (hx : 0 ≤ x ∧ x ≤ 255) :
    Calls Try.prog 5 #[.slice A L cap, v, .int .u8 x] W fun e w' => e = .returned (.bool true) ∧ Mo W w' := by
  subst hv
  have WK := Lib.hid works36_any
  have GR := Lib.hid (fun w => great_any A L cap C w)
  have HD := Lib.hid h
  have HL := Lib.hid hL
  have HI := Lib.hid hI
  by_cases bad : C.sv < 1 ∨ 256 < C.sv ∨ C.sl < 1 ∨ 1152921504606846976 < C.sl ∨ C.oc < 1 ∨ 10 < C.oc ∨ C.sh < 1 ∨ 64 < C.sh ∨ C.st < 0
  · have NB := Lib.hid (fun w => new_badC2 C hI w bad)
    clear bad h hL hI HD HL HI
    obtain ⟨cw, ck, csv, csl, coc, cep, csh, cst, cln, cbl, cfr, cfb⟩ := C
    generalize greatB L _ = gb at GR
    go_enter Try.func5, Try.ntmps5
    go_upto_region 1 with (fail)
    refine wp_name ?_
    intro w1 hw1
    have b3 : Blk w1 W.heap.size 26 (cfC ⟨cw, ck, csv, csl, coc, cep, csh, cst, cln, cbl, cfr, cfb⟩) := by rw [hw1]; infer_instance
    have M1 : Mo W w1 := by rw [hw1]; exact Mor.out
    generalize W.heap.size = g3 at *
    clear hw1
    go_wp2_with fail
    refine (NB.out _).mono ?_
    rintro e w2 ⟨rfl, M2⟩
    have M12 : Mo w1 w2 := (Mor.out : Mo w1 _).trans M2
    have b32 := M12.blk b3
    go_wp2_with fail
    refine (GR.out _).mono ?_
    rintro e w3 ⟨rfl, M3⟩
    have M13 : Mo w1 w3 := M12.trans ((Mor.out : Mo w2 _).trans M3)
    clear M2 M12 b3 b32 M3
    cases gb <;> (
      go_wp2_with fail
      refine (WK.out _).mono ?_
      rintro e w4 ⟨rfl, M4⟩
      go_wp2_with fail
      go_ret
      exact ⟨rfl, (M1.trans M13).trans ((Mor.out : Mo w3 _).trans (M4.trans Mor.out))⟩)
  · have cok := cfgOk_of hI bad
    have HC := Lib.hid cok
    generalize C.oc.toNat = o at HC cok
    generalize C.sh.toNat = wd at HC cok
    have NW := Lib.hid (fun w => new_ses C o wd HC.out w)
    by_cases gr : greatB L C = true
    · rw [gr] at GR
      clear bad h hL hI HD HL HI gr cok HC
      obtain ⟨cw, ck, csv, csl, coc, cep, csh, cst, cln, cbl, cfr, cfb⟩ := C
      go_enter Try.func5, Try.ntmps5
      go_upto_region 1 with (fail)
      refine wp_name ?_
      intro w1 hw1
      have b3 : Blk w1 W.heap.size 26 (cfC ⟨cw, ck, csv, csl, coc, cep, csh, cst, cln, cbl, cfr, cfb⟩) := by rw [hw1]; infer_instance
      have M1 : Mo W w1 := by rw [hw1]; exact Mor.out
      generalize W.heap.size = g3 at *
      clear hw1
      go_wp2_with fail
      refine (NW.out _).mono ?_
      rintro e w2 ⟨T, D, rfl, H2⟩
      have M12 : Mo w1 w2 := (Mor.out : Mo w1 _).trans H2.out
      have b32 := M12.blk b3
      clear H2
      go_wp2_with fail
      refine (GR.out _).mono ?_
      rintro e w3 ⟨rfl, M3⟩
      have M13 : Mo w1 w3 := M12.trans ((Mor.out : Mo w2 _).trans M3)
      clear M12 b3 b32 M3
      go_wp2_with fail
      refine (WK.out _).mono ?_
      rintro e w4 ⟨rfl, M4⟩
      go_wp2_with fail
      go_ret
      exact ⟨rfl, (M1.trans M13).trans ((Mor.out : Mo w3 _).trans (M4.trans Mor.out))⟩
    · have gf : greatB L C = false := by simpa using gr
      have l80 : L ≤ 80 := by
        unfold greatB at gf
        simp at gf
        omega
      have s1 := cok.s1
      rw [gf] at GR
      clear bad h hL hI gr gf HI
      go_enter Try.func5, Try.ntmps5
      go_upto_region 1 with (fail)
      refine wp_name ?_
      intro w1 hw1
      have b3 : Blk w1 W.heap.size 26 (cfC C) := by rw [hw1]; infer_instance
      have M1 : Mo W w1 := by rw [hw1]; exact Mor.out
      generalize W.heap.size = g3 at *
      clear hw1
      --@@ new
      go_wp2_with fail
      refine (NW.out _).mono ?_
      rintro e w2 ⟨T, oD, rfl, H2⟩
      generalize w1.heap.size = b at H2
      have H := Lib.hid H2
      have b32 := H2.out.blk b3
      clear H2
      go_wp2_with fail
      refine (GR.out _).mono ?_
      rintro e w3 ⟨rfl, M3⟩
      have M23 : Mo w2 w3 := (Mor.out : Mo w2 _).trans M3
      have HS3 := Lib.hid (H.out.mo M23)
      have N3 : Mo w1 w3 := H.out.out.trans M23
      clear M3 H b32 GR M23
      obtain ⟨k, hk⟩ : ∃ k : Nat, x = k := ⟨x.toNat, by omega⟩
      subst hk
      obtain ⟨m, hm⟩ : ∃ m : Nat, min (k : Int) L = m := ⟨(min (k : Int) L).toNat, by omega⟩
      have mL : m ≤ L := by omega
      have HM0 := Lib.hid hm
      have lc := HD.out.le
      rw [HL.out] at lc
      obtain ⟨A0, A2, hA0, hA2, sl0, sl2⟩ := cut_dds A L cap m mL lc
      have HA0 := Lib.hid hA0
      have HA2 := Lib.hid hA2
      have HT3 : Hid (TbI (fun k => w1.heap.size ≤ k) w3 T b C o wd oD (l.take 0) [] (ent0 adr0 oD) 0) := Lib.hid (by
        obtain ⟨S, t, q, _⟩ := HS3.out
        exact ⟨⟨S, t, q⟩, TSt.nil _ _ _ _⟩)
      clear hA0 hA2 HS3 NW
      --@@ r6
      go_wp2_with fail
      --@@ loop1
      go_loopw [54] (fun i wr => ∃ (j : Nat) (es : List Ent) (ot : Ent), j ≤ m ∧ i = .int .i64 j ∧ TbI (fun k => w1.heap.size ≤ k) wr T b C o wd oD (l.take j) es ot j ∧ Mo w1 wr) (fun i _ => m - (intOf i).toNat)
      case atStart => exact ⟨0, [], ent0 adr0 oD, by omega, rfl, HT3.out.mo Mor.out, N3.trans Mor.out⟩
      case round =>
        obtain ⟨j, es, ot, hj, rfl, hT, hM⟩ := hrel
        by_cases cj : j < m
        · have hjl : j < l.length := by rw [HL.out]; omega
          obtain ⟨gl, off, eA, zl, ld⟩ := (HD.out.mo (M1.trans hM)).get j hjl
          obtain rfl := HA0.out _ _ eA
          obtain ⟨okd, one⟩ := HD.out.ok _ (List.getElem_mem hjl)
          have SN : Hid (l.take (j + 1) = l.take j ++ [l[j]]) := Lib.hid (by rw [List.take_add_one, List.getElem?_eq_getElem hjl]; rfl)
          have e0 : (0 : Int) ≤ j := by omega
          have e1 : (j : Int) < m := by omega
          have hw : IntKind.i64.wrap ((j : Int) + 1) = j + 1 := by rw [IntKind.wrap_i64]; omega
          generalize l[j] = d at *
          have iz : SzA (ddC d) 67 := ⟨dd_size okd⟩
          have HT := Lib.hid hT
          have HM := Lib.hid hM
          have DO := Lib.hid (fun w (M : Mo wr w) => does_tb (hT.mo M) (fun k q => Nat.le_trans (Nat.le_trans hM.size M.size) q) d okd (by omega))
          generalize ddC d = X at *
          clear hT hM okd hjl cj eA
          --@@ does1
          go_wp2_with fail
          refine (DO.out _ Mor.out).mono ?_
          rintro e w4 ⟨v, es', ot', rfl, t', K⟩
          have HT' := Lib.hid t'
          have HM' : Hid (Mo w1 w4) := Lib.hid (K.mo (HM.out.trans Mor.out) fun k _ h => h)
          clear t' K HT HM ld zl one iz DO
          go_wp2_with fail
          go_roundw
          case rel => exact ⟨j + 1, es', ot', by omega, by go_num, by rw [SN.out]; exact HT'.out.mo Mor.out, HM'.out.trans Mor.out⟩
          case measure => simp [intOf]; omega
        · obtain rfl : j = m := by omega
          have HT := Lib.hid hT
          have HM := Lib.hid hM
          clear hT hM cj hj HT3 N3
          --@@ copy
          go_wp2_with fail
          refine (copy_tb (HT.out.mo Mor.out) (by omega) (Mor.out : Mo wr _)).mono ?_
          rintro e w5 ⟨T', n0, rfl, n0l, n0u, tT, tO, M5⟩
          have HM5 := Lib.hid ((HM.out.trans (Mor.out : Mo wr _)).trans M5)
          have HT5 := Lib.hid tT
          have HO5 := Lib.hid tO
          have LT := Lib.hid (fun w (M : Mo w5 w) => len_tb (tT.mo M))
          have LO := Lib.hid (fun w (M : Mo w5 w) => len_tb (tO.mo M))
          have n01 : w1.heap.size ≤ n0 := Nat.le_trans HM.out.size n0l
          have l256 : es.length ≤ 256 := by
            obtain ⟨⟨S, t, _⟩, _⟩ := tT
            obtain ⟨B, lv, gs, Fs, go, Fo, ti, ft⟩ := t.at_.ex
            have h1 := ti.le
            have h2 := ti.ok.s2
            omega
          obtain ⟨ln, hln⟩ : ∃ ln, es.length = ln := ⟨_, rfl⟩
          have HLN := Lib.hid hln
          rw [hln] at LT LO l256
          clear tT tO M5 HT HM n0l hln
          --@@ r13
          go_wp2_with fail
          refine (LO.out _ Mor.out).mono ?_
          rintro e w6 ⟨rfl, M6⟩
          have N6 : Mo w5 w6 := (Mor.out : Mo w5 _).trans M6
          clear M6
          go_wp2_with fail
          refine (LT.out _ (N6.trans Mor.out)).mono ?_
          rintro e w7 ⟨rfl, M7⟩
          have N7 : Mo w5 w7 := N6.trans ((Mor.out : Mo w6 _).trans M7)
          clear M7 N6
          --@@ loop2
          go_wp2_with fail
          have n0w : n0 ≤ w7.heap.size := Nat.le_trans n0u N7.size
          have TD := Lib.hid (fun w (M : Mo w5 w) (i : Nat) (hi : i ≤ ln) => told_tb (HT5.out.mo M) (by omega) i (by rw [HLN.out]; exact hi))
          go_loopw [13, 14] (fun s13 s14 wr => ∃ (i : Nat) (vw : Value) (Xs : List (Array Value)), i ≤ ln + 1 ∧ s13 = vw ∧ s14 = .int .i64 i ∧ WasIs w5.heap.size wr vw es ot o i Xs ∧ Mo w5 wr) (fun _ s14 _ => ln + 1 - (intOf s14).toNat)
          case atStart => exact ⟨0, _, [], by omega, rfl, rfl, WasIs.nil _ _ _ _ _, N7.trans Mor.out⟩
          case round =>
            obtain ⟨i, vw, Xs, hi, rfl, rfl, hW, hM⟩ := hrel
            have HW := Lib.hid hW
            have HM := Lib.hid hM
            obtain ⟨A', c', evw⟩ := own_slS hW.row
            subst evw
            clear hW hM
            --@@ r17
            go_wp2_with fail
            refine (LT.out _ (HM.out.trans Mor.out)).mono ?_
            rintro e w8 ⟨rfl, M8⟩
            have N8 : Mo w5 w8 := HM.out.trans ((Mor.out : Mo wr _).trans M8)
            have W8 := Lib.hid (HW.out.mo ((Mor.out : Mo wr _).trans M8))
            clear M8 HW HM
            by_cases ci : i ≤ ln
            · have d0 : decide ((i : Int) ≤ ln) = true := decide_eq_true (by omega)
              have hw : IntKind.i64.wrap ((i : Int) + 1) = i + 1 := by rw [IntKind.wrap_i64]; omega
              --@@ told
              go_wp2_with fail
              refine (TD.out _ (N8.trans Mor.out) i ci).mono ?_
              rintro e w9 ⟨X, rfl, zX, oX, R, M9⟩
              have iX : SzA X 47 := ⟨zX⟩
              have N9 : Mo w5 w9 := N8.trans ((Mor.out : Mo w8 _).trans M9)
              have W9 := Lib.hid (W8.out.mo ((Mor.out : Mo w8 _).trans M9))
              have l8 : w5.heap.size ≤ w8.heap.size := N8.size
              have R9 := Lib.hid (srv_low R (Nat.le_trans l8 (Mo.size (Mor.out : Mo w8 _))))
              have ZX := Lib.hid zX
              clear M9 R zX W8 N8
              go_upto_region 20 with (fail)
              refine wp_name ?_
              intro wa hwa
              have b15 : Blk wa w9.heap.size 62 X := by rw [hwa]; infer_instance
              have Ma : Mo w9 wa := by rw [hwa]; exact Mor.out
              have Na := N9.trans Ma
              have Wa := W9.out.mo Ma
              have Ra := srv_mo R9.out Ma
              generalize w9.heap.size = g15 at *
              clear hwa Ma N9 W9 R9
              obtain ⟨i0, hi0, hz0, hz1, hz2⟩ := info_parts infoSV
              have la : w5.heap.size ≤ wa.heap.size := Na.size
              have hT := (Mor.out : Mo wa (wa.alloc (.cells X 62)))
              have hf := Wa.flat
              obtain ⟨v6, w6', hrun6, hown6, hgrow6, -, hob6⟩ := run_append_own_at (P := Try.prog) (wa.alloc (.cells X 62)) w5.heap.size 74 74 62 i0 (.agg z47) 47 296 Try.underlying74 hi0 hz0 hz1 hz2 rfl (by decide) _ _ _ (owns_mo Wa.row hT) ⟨wa.heap.size, 0, none⟩ 1 1 X.toList (by rw [Array.length_toList, ZX.out]) (news_of_blkS (t := 62) (cs := X) inferInstance _ rfl) (fun u hu => by have := oX.out; simp at this; obtain ⟨i, hi, rfl⟩ := List.mem_iff_getElem.1 hu; exact this i (by simpa using hi)) (by unfold maxLen; omega) (by omega) (by simp; omega)
              replace hrun6 : (appS #[74, 74] 74 #[.slice A' i c', .slice (some ⟨wa.heap.size, 0, none⟩) 1 1]).run Try.prog _ = .ok v6 w6' := hrun6
              obtain ⟨g6, c6, ev6⟩ := own_succS hown6
              subst ev6
              have K6 : KpS (fun i' => (Value.slice A' i c').ownBlock = some i') wa w6' := (KpS.of_mo hT).trans (kpS_grownS hgrow6) fun _ _ q => q
              have W6 := Lib.hid (Wa.snoc K6 hown6 ZX.out oX Ra)
              have mb : ∀ g, (Value.slice A' i c').ownBlock = some g → w5.heap.size ≤ g := fun g e => Wa.base g e
              have M6 := Lib.hid (K6.mo Na fun k _ e => mb k e)
              clear Wa Ra hown6 hgrow6 hob6 hf mb K6 hT Na
              --@@ append
              go_wp2_with fail
              go_roundw
              case rel => exact ⟨i + 1, _, Xs ++ [X], by omega, rfl, by go_num, W6.out.mo Mor.out, M6.out.trans Mor.out⟩
              case measure => simp [intOf]; omega
            · obtain rfl : i = ln + 1 := by omega
              have d0 : decide (((ln + 1 : Nat) : Int) ≤ ln) = false := decide_eq_false (by omega)
              clear ci hi
              have HT8 : Hid (TbI (fun q => w1.heap.size ≤ q ∧ (q < n0 ∨ w8.heap.size ≤ q)) w8 T b C o wd oD (l.take (j + 0)) es ot (j + 0)) := Lib.hid ((HT5.out.mo N8).wide fun k _ h => ⟨h.1, .inl h.2⟩)
              have HO8 := Lib.hid ((HO5.out.mo N8).low)
              have M18 : Hid (Mo w1 w8) := Lib.hid (HM5.out.trans N8)
              have n18 : n0 ≤ w8.heap.size := Nat.le_trans n0u N8.size
              have w58 : w5.heap.size ≤ w8.heap.size := N8.size
              clear HT5 HO5 HM5 N8 TD LT LO N7 n0w
              --@@ loop3
              go_wp2_with fail
              go_loopw [93] (fun i wr => ∃ (p : Nat) (es' : List Ent) (ot' : Ent), p ≤ L - j ∧ i = .int .i64 p ∧ TbI (fun q => w1.heap.size ≤ q ∧ (q < n0 ∨ w8.heap.size ≤ q)) wr T b C o wd oD (l.take (j + p)) es' ot' (j + p) ∧ KpS (fun q => w1.heap.size ≤ q ∧ (q < n0 ∨ w8.heap.size ≤ q)) w8 wr) (fun i _ => L - j - (intOf i).toNat)
              case atStart => exact ⟨0, es, ot, by omega, rfl, HT8.out.mo Mor.out, KpS.of_mo Mor.out⟩
              case round =>
                obtain ⟨p, es3, ot3, hp, rfl, hT, hK⟩ := hrel
                have HM : Hid (Mo w1 wr) := Lib.hid (hK.mo M18.out fun k _ h => h.1)
                have HK := Lib.hid hK
                have HT := Lib.hid hT
                have sz8 := hK.size
                by_cases cp : p < L - j
                · have hjl : j + p < l.length := by rw [HL.out]; omega
                  obtain ⟨gl, off, eA, zl, ld⟩ := (HD.out.mo (M1.trans HM.out)).get (j + p) hjl
                  obtain rfl := HA2.out _ _ eA (by omega)
                  obtain ⟨okd, one⟩ := HD.out.ok _ (List.getElem_mem hjl)
                  rw [show off + (j + p) * 67 = off + j * 67 + p * 67 by omega] at ld
                  have SN : Hid (l.take (j + (p + 1)) = l.take (j + p) ++ [l[j + p]]) := Lib.hid (by rw [← Nat.add_assoc, List.take_add_one, List.getElem?_eq_getElem hjl]; rfl)
                  have e0 : (0 : Int) ≤ p := by omega
                  have e1 : (p : Int) < ((L - j : Nat) : Int) := by omega
                  have hw : IntKind.i64.wrap ((p : Int) + 1) = p + 1 := by rw [IntKind.wrap_i64]; omega
                  generalize l[j + p] = d at *
                  have iz : SzA (ddC d) 67 := ⟨dd_size okd⟩
                  have DO := Lib.hid (fun w (M : Mo wr w) => does_tb (HT.out.mo M) (fun k q => by have := M.size; have := HM.out.size; exact ⟨by omega, .inr (by omega)⟩) d okd (by omega))
                  generalize ddC d = X at *
                  clear hT hK okd hjl cp eA HT
                  --@@ does3
                  go_wp2_with fail
                  refine (DO.out _ Mor.out).mono ?_
                  rintro e w9 ⟨v, es', ot', rfl, t', K⟩
                  have HT' := Lib.hid t'
                  have HK' := Lib.hid ((HK.out.trans (KpS.of_mo (S := fun q => w1.heap.size ≤ q ∧ (q < n0 ∨ w8.heap.size ≤ q)) (Mor.out : Mo wr _)) fun _ _ h => h).trans K fun _ _ h => h)
                  clear t' K HK HM ld zl one iz DO
                  go_wp2_with fail
                  go_roundw
                  case rel => exact ⟨p + 1, es', ot', by omega, by go_num, by rw [SN.out]; exact HT'.out.mo Mor.out, HK'.out.trans (KpS.of_mo (S := fun q => w1.heap.size ≤ q ∧ (q < n0 ∨ w8.heap.size ≤ q)) Mor.out) fun _ _ h => h⟩
                  case measure => simp [intOf]; omega
                · obtain rfl : p = L - j := by omega
                  have el : l.take (j + (L - j)) = l := List.take_of_length_le (by rw [HL.out]; omega)
                  have en : j + (L - j) = L := by omega
                  rw [el, en] at hT
                  have H3 := Lib.hid hT
                  have HO3 := Lib.hid (HO8.out.kp hK fun i h q => by rcases q.2 with q | q <;> omega)
                  have HW3 := Lib.hid (W8.out.kp hK fun i h1 h2 q => by rcases q.2 with q | q <;> omega)
                  obtain ⟨w3', hw3⟩ : ∃ w, w = wr := ⟨_, rfl⟩
                  subst hw3
                  clear hT hK HT HK el cp hp HT8 HO8 W8 en
                  --@@ loop4
                  go_wp2_with fail
                  go_loopw [103] (fun s wr => ∃ i : Nat, i ≤ ln + 1 ∧ s = .int .i64 i ∧ Mo w3' wr) (fun s _ => ln + 1 - (intOf s).toNat)
                  case atStart => exact ⟨0, by omega, rfl, Mor.out⟩
                  case round =>
                    obtain ⟨i, hi, rfl, hM⟩ := hrel
                    have HM4 := Lib.hid hM
                    by_cases ci : i < ln + 1
                    · obtain ⟨gw, cw, Y, eW, zw, zY, oY, RY, ld⟩ := (HW3.out.mo hM).get i ci
                      obtain ⟨rfl, rfl⟩ : A' = some ⟨gw, 0, none⟩ ∧ c' = cw := by
                        injection eW with h1 h2 h3
                        exact ⟨h1, h3⟩
                      have e0 : (0 : Int) ≤ i := by omega
                      have e1 : (i : Int) < ((ln + 1 : Nat) : Int) := by omega
                      have hw : IntKind.i64.wrap ((i : Int) + 1) = i + 1 := by rw [IntKind.wrap_i64]; omega
                      have iY : SzA Y 47 := ⟨zY⟩
                      have TD := Lib.hid (fun w (M : Mo w3' w) => told_tb (HO3.out.mo M) (by omega) i (by rw [HLN.out]; omega))
                      have HRY := Lib.hid RY
                      clear eW zY RY hM ci
                      --@@ u
                      go_upto_region 29 with (fail)
                      refine wp_name ?_
                      intro wa hwa
                      have b20 : Blk wa wr.heap.size 62 Y := by rw [hwa]; infer_instance
                      have Ma : Mo wr wa := by rw [hwa]; exact Mor.out
                      generalize wr.heap.size = g20 at *
                      clear hwa ld zw
                      --@@ told4
                      go_wp2_with fail
                      refine (TD.out _ ((HM4.out.trans Ma).trans Mor.out)).mono ?_
                      rintro e wb ⟨X, rfl, zX, oX, R, Mb⟩
                      have iX : SzA X 47 := ⟨zX⟩
                      have Mab : Mo wa wb := (Mor.out : Mo wa _).trans Mb
                      have b20b := Mab.blk b20
                      have HR := Lib.hid R
                      clear Mb R zX b20
                      go_upto_region 30 with (fail)
                      refine wp_name ?_
                      intro wc hwc
                      have b21 : Blk wc wb.heap.size 62 X := by rw [hwc]; infer_instance
                      have Mbc : Mo wb wc := by rw [hwc]; exact Mor.out
                      have b20c := Mbc.blk b20b
                      have N4 : Hid (Mo w3' wc) := Lib.hid (((HM4.out.trans Ma).trans Mab).trans Mbc)
                      have R1 := Lib.hid (srv_mo HRY.out ((Ma.trans Mab).trans Mbc))
                      have R2 := Lib.hid (srv_mo HR.out Mbc)
                      generalize wb.heap.size = g21 at *
                      clear hwc Ma Mab Mbc HM4 HR HRY b20b TD
                      --@@ like4
                      go_wp2_with fail
                      refine (like_tb HO3.out cok.o2 (by omega) i _ _ (srv_mo R1.out Mor.out) (srv_mo R2.out Mor.out)).mono ?_
                      rintro e wd ⟨rfl, Md⟩
                      have N5 : Hid (Mo w3' wd) := Lib.hid ((N4.out.trans (Mor.out : Mo wc _)).trans Md)
                      clear Md R1 R2 N4
                      go_wp2_with fail
                      go_roundw
                      case rel => exact ⟨i + 1, by omega, by go_num, N5.out.trans Mor.out⟩
                      case measure => simp [intOf]; omega
                    · have d2 : decide ((i : Int) < ((ln + 1 : Nat) : Int)) = false := decide_eq_false (by omega)
                      have d3 : decide ((i : Int) < (ln : Int) + 1) = false := decide_eq_false (by omega)
                      have H4 := Lib.hid ((H3.out.mo hM).low)
                      have HO4 := Lib.hid (HO3.out.mo hM)
                      have N4 : Hid (Mo w1 wr) := Lib.hid (HM.out.trans hM)
                      have s4 : w8.heap.size ≤ wr.heap.size := Nat.le_trans sz8 hM.size
                      obtain ⟨w4', hw4⟩ : ∃ w, w = wr := ⟨_, rfl⟩
                      subst hw4
                      clear hM HM4 H3 HO3 HM HW3 sz8 ci hi
                      have HO4' : Hid (TbI (fun q => n0 ≤ q ∧ (q < w8.heap.size ∨ w4'.heap.size ≤ q)) w4' T' n0 C o wd oD (l.take (j + 0)) es ot (j + 0)) := Lib.hid (HO4.out.wide fun k _ h => ⟨h.1, .inl h.2⟩)
                      clear HO4
                      --@@ loop5
                      go_wp2_with fail
                      go_loopw [127] (fun i wr => ∃ (p : Nat) (es' : List Ent) (ot' : Ent), p ≤ L - j ∧ i = .int .i64 p ∧ TbI (fun q => n0 ≤ q ∧ (q < w8.heap.size ∨ w4'.heap.size ≤ q)) wr T' n0 C o wd oD (l.take (j + p)) es' ot' (j + p) ∧ KpS (fun q => n0 ≤ q ∧ (q < w8.heap.size ∨ w4'.heap.size ≤ q)) w4' wr) (fun i _ => L - j - (intOf i).toNat)
                      case atStart => exact ⟨0, es, ot, by omega, rfl, HO4'.out.mo Mor.out, KpS.of_mo Mor.out⟩
                      case round =>
                        obtain ⟨p, es5, ot5, hp, rfl, hT, hK⟩ := hrel
                        have HM : Hid (Mo w1 wr) := Lib.hid (hK.mo N4.out fun k _ h => Nat.le_trans n01 h.1)
                        have HK := Lib.hid hK
                        have HT := Lib.hid hT
                        have sz4 := hK.size
                        by_cases cp : p < L - j
                        · have hjl : j + p < l.length := by rw [HL.out]; omega
                          obtain ⟨gl, off, eA, zl, ld⟩ := (HD.out.mo (M1.trans HM.out)).get (j + p) hjl
                          obtain rfl := HA2.out _ _ eA (by omega)
                          obtain ⟨okd, one⟩ := HD.out.ok _ (List.getElem_mem hjl)
                          rw [show off + (j + p) * 67 = off + j * 67 + p * 67 by omega] at ld
                          have SN : Hid (l.take (j + (p + 1)) = l.take (j + p) ++ [l[j + p]]) := Lib.hid (by rw [← Nat.add_assoc, List.take_add_one, List.getElem?_eq_getElem hjl]; rfl)
                          have e0 : (0 : Int) ≤ p := by omega
                          have e1 : (p : Int) < ((L - j : Nat) : Int) := by omega
                          have hw : IntKind.i64.wrap ((p : Int) + 1) = p + 1 := by rw [IntKind.wrap_i64]; omega
                          generalize l[j + p] = d at *
                          have iz : SzA (ddC d) 67 := ⟨dd_size okd⟩
                          have DO := Lib.hid (fun w (M : Mo wr w) => does_tb (HT.out.mo M) (fun k q => by have := M.size; exact ⟨by omega, .inr (by omega)⟩) d okd (by omega))
                          generalize ddC d = X at *
                          clear hT hK okd hjl cp eA HT
                          --@@ does5
                          go_wp2_with fail
                          refine (DO.out _ Mor.out).mono ?_
                          rintro e w9 ⟨v, es', ot', rfl, t', K⟩
                          have HT' := Lib.hid t'
                          have HK' := Lib.hid ((HK.out.trans (KpS.of_mo (S := (fun q => n0 ≤ q ∧ (q < w8.heap.size ∨ w4'.heap.size ≤ q))) (Mor.out : Mo wr _)) fun _ _ h => h).trans K fun _ _ h => h)
                          clear t' K HK HM ld zl one iz DO
                          go_wp2_with fail
                          go_roundw
                          case rel => exact ⟨p + 1, es', ot', by omega, by go_num, by rw [SN.out]; exact HT'.out.mo Mor.out, HK'.out.trans (KpS.of_mo (S := (fun q => n0 ≤ q ∧ (q < w8.heap.size ∨ w4'.heap.size ≤ q))) Mor.out) fun _ _ h => h⟩
                          case measure => simp [intOf]; omega
                        · obtain rfl : p = L - j := by omega
                          have el : l.take (j + (L - j)) = l := List.take_of_length_le (by rw [HL.out]; omega)
                          have en : j + (L - j) = L := by omega
                          rw [el, en] at hT
                          have H5 := Lib.hid (H4.out.kp hK fun i h q => by rcases h.1.2 with r | r <;> rcases q.2 with q' | q' <;> omega)
                          obtain ⟨u1, u2⟩ := TSt.uniq hT.s H4.out.s
                          subst u1 u2
                          have HO5 := Lib.hid hT
                          obtain ⟨w5', hw5⟩ : ∃ w, w = wr := ⟨_, rfl⟩
                          subst hw5
                          have l256 : es5.length ≤ 256 := by
                            obtain ⟨⟨S, t, _⟩, _⟩ := hT
                            obtain ⟨B, lv, gs, Fs, go, Fo, ti, ft⟩ := t.at_.ex
                            have h1 := ti.le
                            have h2 := ti.ok.s2
                            omega
                          have LT := Lib.hid (fun w (M : Mo w5' w) => len_tb (H5.out.mo M))
                          have LO := Lib.hid (fun w (M : Mo w5' w) => len_tb (HO5.out.mo M))
                          obtain ⟨lm, hlm⟩ : ∃ lm, es5.length = lm := ⟨_, rfl⟩
                          have HLM := Lib.hid hlm
                          rw [hlm] at LT LO l256
                          clear hT hK HT HK el cp hp H4 HO4' en N4 hlm
                          --@@ loop6
                          go_wp2_with fail
                          go_loopw [25] (fun s wr => ∃ i : Nat, i ≤ lm + 1 ∧ s = .int .i64 i ∧ Mo w5' wr) (fun s _ => lm + 1 - (intOf s).toNat)
                          case atStart => exact ⟨0, by omega, rfl, Mor.out⟩
                          case round =>
                            obtain ⟨i, hi, rfl, hM⟩ := hrel
                            have HM6 := Lib.hid hM
                            clear hM
                            --@@ r39
                            go_wp2_with fail
                            refine (LT.out _ (HM6.out.trans Mor.out)).mono ?_
                            rintro e wa ⟨rfl, Ma⟩
                            have Na : Mo w5' wa := HM6.out.trans ((Mor.out : Mo wr _).trans Ma)
                            clear Ma HM6
                            by_cases ci : i ≤ lm
                            · have d1 : decide ((i : Int) ≤ lm) = true := decide_eq_true (by omega)
                              have hw : IntKind.i64.wrap ((i : Int) + 1) = i + 1 := by rw [IntKind.wrap_i64]; omega
                              have TD := Lib.hid (fun w (M : Mo w5' w) => told_tb (H5.out.mo M) (by omega) i (by rw [HLM.out]; exact ci))
                              have TO := Lib.hid (fun w (M : Mo w5' w) => told_tb (HO5.out.mo M) (by omega) i (by rw [HLM.out]; exact ci))
                              --@@ told t
                              go_wp2_with fail
                              refine (TD.out _ (Na.trans Mor.out)).mono ?_
                              rintro e wb ⟨X, rfl, zX, oX, R, Mb⟩
                              have iX : SzA X 47 := ⟨zX⟩
                              have Nb : Mo w5' wb := (Na.trans (Mor.out : Mo wa _)).trans Mb
                              have HR := Lib.hid R
                              clear Mb R zX Na TD
                              go_upto_region 42 with (fail)
                              refine wp_name ?_
                              intro wc hwc
                              have b26 : Blk wc wb.heap.size 62 X := by rw [hwc]; infer_instance
                              have Mbc : Mo wb wc := by rw [hwc]; exact Mor.out
                              have Nc := Nb.trans Mbc
                              have R1 := Lib.hid (srv_mo HR.out Mbc)
                              generalize wb.heap.size = g26 at *
                              clear hwc Mbc Nb HR
                              --@@ told o
                              go_wp2_with fail
                              refine (TO.out _ (Nc.trans Mor.out)).mono ?_
                              rintro e wd' ⟨Y, rfl, zY, oY, R, Md⟩
                              have iY : SzA Y 47 := ⟨zY⟩
                              have Mcd : Mo wc wd' := (Mor.out : Mo wc _).trans Md
                              have b26d := Mcd.blk b26
                              have R1d := Lib.hid (srv_mo R1.out Mcd)
                              have HR := Lib.hid R
                              have Nd := Nc.trans Mcd
                              clear Md R zY Nc TO R1 b26 Mcd
                              go_upto_region 43 with (fail)
                              refine wp_name ?_
                              intro we hwe
                              have b28 : Blk we wd'.heap.size 62 Y := by rw [hwe]; infer_instance
                              have Mde : Mo wd' we := by rw [hwe]; exact Mor.out
                              have b26e := Mde.blk b26d
                              have Ne := Nd.trans Mde
                              have Q1 := Lib.hid (srv_mo R1d.out Mde)
                              have Q2 := Lib.hid (srv_mo HR.out Mde)
                              generalize wd'.heap.size = g28 at *
                              clear hwe Mde Nd HR R1d b26d
                              --@@ like6
                              go_wp2_with fail
                              refine (like_tb H5.out cok.o2 (by omega) i _ _ (srv_mo Q1.out Mor.out) (srv_mo Q2.out Mor.out)).mono ?_
                              rintro e wf ⟨rfl, Mf⟩
                              have Nf : Mo w5' wf := (Ne.trans (Mor.out : Mo we _)).trans Mf
                              clear Mf Q1 Q2 Ne
                              go_wp2_with fail
                              go_roundw
                              case rel => exact ⟨i + 1, by omega, by go_num, Nf.trans Mor.out⟩
                              case measure => simp [intOf]; omega
                            · obtain rfl : i = lm + 1 := by omega
                              have d1 : decide (((lm + 1 : Nat) : Int) ≤ lm) = false := decide_eq_false (by omega)
                              clear ci hi
                              --@@ r45
                              have bC := (HM.out.trans Na).blk b3
                              have LVT := Lib.hid (fun w (M : Mo w5' w) => live_tb (H5.out.mo M) (by omega))
                              have LVO := Lib.hid (fun w (M : Mo w5' w) => live_tb (HO5.out.mo M) (by omega))
                              have BD := live_bd HO5.out
                              rw [HLM.out] at LVT LVO BD
                              obtain ⟨lv, hlv⟩ : ∃ lv, lm + liveSum o es5 = lv := ⟨_, rfl⟩
                              rw [hlv] at LVT LVO BD
                              obtain ⟨p2, hp2⟩ : ∃ p, (2 : Nat) ^ o = p := ⟨_, rfl⟩
                              have p2b : p2 ≤ 1024 := by rw [← hp2]; exact Nat.pow_le_pow_right (by decide) cok.o2
                              have p2c : (2 : Int) ^ o = p2 := by rw [← hp2]; simp
                              rw [hp2] at BD
                              have f1 := cok.eo
                              have f2 := cok.ew
                              have f3 := cok.w2
                              have f4 := cok.o2
                              have W45 := Lib.hid (HM.out.trans Na)
                              have M5 := Lib.hid Na
                              have pb : (0 : Int) ≤ (lm : Int) * (1 + (p2 : Int) + 1 + 2 * (wd : Int) + 16) ∧ (lm : Int) * (1 + (p2 : Int) + 1 + 2 * (wd : Int) + 16) ≤ 256 * 1170 ∧ (lv : Int) ≤ (lm : Int) * (1 + (p2 : Int) + 1 + 2 * (wd : Int) + 16) := by
                                have e : (lm : Int) * (1 + (p2 : Int) + 1 + 2 * (wd : Int) + 16) = ((lm * (p2 + 2 * wd + 18) : Nat) : Int) := by
                                  rw [Int.natCast_mul]
                                  congr 1
                                  omega
                                have u : lm * (p2 + 2 * wd + 18) ≤ 256 * 1170 := Nat.mul_le_mul l256 (by omega)
                                rw [e]
                                omega
                              have dq : decide ((lv : Int) ≤ wrap64 ((lm : Int) * (1 + (p2 : Int) + 1 + 2 * (wd : Int) + 16))) = true := by
                                obtain ⟨pa, pb, pc⟩ := pb
                                refine decide_eq_true ?_
                                generalize (lm : Int) * (1 + (p2 : Int) + 1 + 2 * (wd : Int) + 16) = z at *
                                unfold wrap64
                                omega
                              clear pb BD
                              clear H5 HO5 HLM hlv
                              go_upto_region 45 with (fail)
                              first | (refine wp_region_mo (by kernel_rfl) (by kernel_rfl) ?_) | (refine wp_region_mo' (by kernel_rfl) (by kernel_rfl) ?_)
                              repeat (go_big_quiet_step (first | (with_reducible exact quiet_mo (LT.out _ (M5.out.trans Mor.out))) | (with_reducible exact quiet_mo (LO.out _ (M5.out.trans Mor.out))) | (with_reducible exact quiet_mo (LVT.out _ (M5.out.trans Mor.out))) | (with_reducible exact quiet_mo (LVO.out _ (M5.out.trans Mor.out))) | (with_reducible exact quiet_mo (WK.out _))))
                              refine wpQuiet_nil ?_
                              intro _ hw'
                              obtain ⟨⟨J9, d9⟩, hw''⟩ := hw'
                              subst hw''
                              go_wp2_with fail
                              first | go_ret | skip
                              exact ⟨rfl, (M1.trans W45.out).trans Mor.out⟩
end Go.Proofs.Ythgkhllkhhnlpaa
