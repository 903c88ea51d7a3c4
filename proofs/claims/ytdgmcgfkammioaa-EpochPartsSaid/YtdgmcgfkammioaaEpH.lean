/- horologelaw35.going: the walk. -/
import Derived.Test.YtdgmcgfkammioaaEpG
namespace Go.Proofs.Ytdgmcgfkammioaa
open Go.RowKit Go.Maps

set_option maxRecDepth 20000 in
theorem infoEp : (Try.prog.info? 38).map (fun i => (i.zero, i.size, i.bytes)) = some (some (.agg epz), 7, 88) := by kernel_rfl
set_option maxRecDepth 20000 in
theorem new_g (w : World) : Calls Try.prog 10 #[.int .i64 1024, .int .i64 16] w fun e w' => ∃ M B, e = .returned (.tuple #[pM M, .int .i64 0]) ∧ w.heap.size ≤ M ∧ w.heap.size ≤ B ∧ MkIs w' M B (mk0 1024 16) ∧ Mo w w' := enew_in 1024 16 (by omega) (by omega) w
abbrev eC (E : Ep) (A : Option Addr) (c : Nat) (D : Option Addr) (d : Nat) : Array Value := #[.int .i64 E.num, .slice A E.srv.length c, .bool E.maj, .int .i64 E.lo, .int .i64 E.hi, .int .i64 (E.fl : Nat), .slice D E.tr.length d]
/-- what Put does with a sample that going puts -/
def PutG (M B : Nat) (st : GS) (up : Int) (p : PtS) (eb : Bool) (w : World) (e : Ending) (w' : World) : Prop :=
  ∃ E A c D d, e = .returned (.tuple #[.agg (eC E A c D d), .bool eb, .int .u8 1]) ∧ IntT w' A (natI E.srv) ∧ IntT w' D (natI E.tr) ∧ MkIs w' M B (mkG (gStep up st p)) ∧ KpS (fun i => i = M ∨ i = B) w w' ∧ (eb = true → IsTold st.n 16 (bestL st.cur) E)
set_option maxRecDepth 20000 in
theorem put_g (M B : Nat) (st : GS) (up : Int) (p : PtS) (i : Int) (ok : PtOk p) (bu : -2147483648 ≤ up ∧ up ≤ 2147483647) (bn : -9000000000000 ≤ st.n ∧ st.n ≤ 9000000000000) (bi : 0 ≤ i ∧ i < 1024) :
    ∃ eb : Bool, (eb = false → (gStep up st p).done = st.done) ∧ (eb = true → (gStep up st p).done = st.done ++ [(st.n, st.cur)]) ∧ ∀ w, MkIs w M B (mkG st) → Calls Try.prog PutF #[pM M, .int .i64 ((p.s % 16).toNat : Nat), WV ((st.n + p.on % 4) * 1024 + i), .int .i64 (p.o + up), .int .i64 p.d] w (PutG M B st up p eb w) := by
  have hs := ok.s
  have ho := ok.o
  have hd := ok.d
  have hn16 : (p.s % 16).toNat < 16 := by omega
  have isv : (mkG st).sv = 16 := by unfold mkG; split <;> rfl
  have iwd : (mkG st).wd = 1024 := by unfold mkG; split <;> rfl
  have ia : InW ((st.n + p.on % 4) * 1024 + i) := by unfold InW; omega
  have no : nOf 1024 ((st.n + p.on % 4) * 1024 + i) = st.n + p.on % 4 := nOf_go (by omega) bi
  have no' : nOf (mkG st).wd ((st.n + p.on % 4) * 1024 + i) = st.n + p.on % 4 := by rw [iwd]; exact no
  have io : Is64 (p.o + up) := by unfold Is64; omega
  have id' : Is64 p.d := by unfold Is64; omega
  have same : ∀ w, (∀ h : (mkG st).some = true, nOf (mkG st).wd ((st.n + p.on % 4) * 1024 + i) = (mkG st).num) → mkG (gStep up st p) = { mkG st with some := true, num := st.n + p.on % 4, f := bestPut (mkG st).f (p.s % 16).toNat (p.o + up) p.d } → MkIs w M B (mkG st) → Calls Try.prog PutF #[pM M, .int .i64 ((p.s % 16).toNat : Nat), WV ((st.n + p.on % 4) * 1024 + i), .int .i64 (p.o + up), .int .i64 p.d] w (PutG M B st up p false w) := fun w hc e h => by
    refine (eput_same M B (p.s % 16).toNat (mkG st) _ (p.o + up) p.d w h (by rw [isv]; exact hn16) ia io id' hc).mono ?_
    rintro e' w' ⟨rfl, hI, hK⟩
    rw [no'] at hI
    exact ⟨ep0, none, 0, none, 0, rfl, .inl rfl, .inl rfl, by rw [e]; exact hI, hK, fun q => by cases q⟩
  by_cases c1 : st.cur = []
  · refine ⟨false, fun _ => done_same (.inl c1), fun q => (by cases q), fun w h => same w (fun q => ?_) (mkG_first c1) h⟩
    unfold mkG at q
    rw [if_pos c1] at q
    cases q
  · have inum : (mkG st).num = st.n := by unfold mkG; rw [if_neg c1]
    have isome : (mkG st).some = true := by unfold mkG; rw [if_neg c1]
    have iff' : (mkG st).f = bestL st.cur := by unfold mkG; rw [if_neg c1]
    by_cases c2 : p.on % 4 = 0
    · exact ⟨false, fun _ => done_same (.inr c2), fun q => (by cases q), fun w h => same w (fun _ => by rw [iwd, no, inum, c2, Int.add_zero]) (mkG_stay c1 c2) h⟩
    · refine ⟨true, fun q => (by cases q), fun _ => done_next c1 c2, fun w h => ?_⟩
      refine (eput_end M B (p.s % 16).toNat (mkG st) _ (p.o + up) p.d w h (by rw [isv]; exact hn16) ia io id' isome (by rw [iwd, no, inum]; omega)).mono ?_
      rintro e' w' ⟨E, v, hE, rfl, ⟨A, c, D, d, rfl, h1, h2⟩, hI, hK⟩
      rw [no'] at hI
      rw [inum, isv, iff'] at hE
      exact ⟨E, A, c, D, d, rfl, h1, h2, by rw [mkG_next c1 c2]; exact hI, hK, fun _ => hE⟩
/-- a call that wrote a maker alone keeps blocks of epochs -/
class KpC (M B : outParam Nat) (a : outParam World) (b : World) : Prop where
  out : KpS (fun i => i = M ∨ i = B) a b
  no : ∀ g, g = M ∨ g = B → NoT 38 a g
set_option maxRecDepth 20000 in
instance (priority := low) kpc_blk (M B : Nat) (a b : World) (g : Nat) (cs : Array Value) [h : KpC M B a b] [k : Blk a g 38 cs] : Blk b g 38 cs := h.out.blk k fun q => h.no g q cs _ k.out
set_option maxRecDepth 20000 in
theorem MkIs.setRowE {w : World} {M B g : Nat} {m : MkS} (h : MkIs w M B m) {cs : Array Value} (b : Blk w g 38 cs) (cs' : Array Value) : MkIs (w.setRow g cs') M B m := h.keep fun k q => setRow_get_ne _ _ _ _ fun e => by
  subst e
  exact h.noM (t := 38) (by decide) g q cs _ b.out
set_option maxRecDepth 20000 in
theorem KpS.setRowE {S : Nat → Prop} {a b : World} {g : Nat} (h : KpS S a b) (q : a.heap.size ≤ g) (cs : Array Value) : KpS S a (b.setRow g cs) :=
  ⟨h.os, h.tape, h.output, by rw [setRow_size']; exact h.size, fun k hk nk => (setRow_get_ne _ _ _ _ (by omega)).trans (h.block k hk nk)⟩
attribute [local go_sem] blk_cell' blk_frozen'
attribute [local go_sem ↓] loadF_ep storeF_ep
attribute [local go_sem] run_loadF0 run_storeF0
set_option maxRecDepth 20000 in
set_option maxHeartbeats 8000000 in
theorem going_any (A : Option Addr) (cap L : Nat) (l : List PtS) (fr up : Int) (W : World) (hL : l.length = L) (h : PutsS W A cap l) (hl : L ≤ 100) (bf : -8000000000000 ≤ fr ∧ fr ≤ 8000000000000) (bu : -2147483648 ≤ up ∧ up ≤ 2147483647) :
    Calls Try.prog 22 #[.slice A L cap, .int .i64 fr, .int .i64 up] W fun e w' => ∃ v Es CL, e = .returned (.tuple #[v, .bool true]) ∧ AllE W.heap.size w' v Es CL ∧ TG (grpG (goS fr up l)) Es ∧ Mo W w' := by
  have HD := Lib.hid h
  have HL := Lib.hid hL
  have NW := Lib.hid new_g
  obtain ⟨i0, hi, hz0, hz1, hz2⟩ := info_parts infoEp
  clear h hL
  go_enter Try.func22, Try.ntmps22
  go_wp2_with fail
  refine (NW.out _).mono ?_
  rintro e w0 ⟨M, B, rfl, gM, gB, I0, M0⟩
  go_wp2_with fail
  go_loopw [10, 11, 32] (fun v n i wr => ∃ (j : Nat) (Es : List Ep) (CL : List (Array Value)), j ≤ L ∧ i = .int .i64 j ∧ n = .int .i64 (goS fr up (l.take j)).n ∧ MkIs wr M B (mkG (goS fr up (l.take j))) ∧ AllE W.heap.size wr v Es CL ∧ TG (goS fr up (l.take j)).done Es ∧ Mo W wr) (fun _ _ i _ => L - (intOf i).toNat)
  case atStart => exact ⟨0, [], [], by omega, rfl, rfl, I0, AllE.nil _ _, TG.nil, M0⟩
  case round =>
    obtain ⟨j, Es, CL, hj, rfl, rfl, hI, hA, hT, hM⟩ := hrel
    have HA := Lib.hid hA
    have HT := Lib.hid hT
    have ELn : Es.length ≤ 100 := by
      have h1 := hT.1
      have h2 := goS_done fr up l j
      omega
    obtain ⟨A9, c9, rfl⟩ := own_slE HA.out.row
    clear hA hT
    by_cases cj : j < L
    · have hjl : j < l.length := by rw [HL.out]; exact cj
      obtain ⟨g, off, rfl, hc⟩ := (HD.out.mo hM).row.resolve_left (fun e => by rw [e] at hjl; cases hjl)
      obtain ⟨y0, y1, y2, y3⟩ := hc j hjl
      have z0 : LtW g wr := LtW.of_cell y0
      have ok := HD.out.ok _ (List.getElem_mem hjl)
      have SN := Lib.hid (goS_take fr up l j hjl)
      have bn := goS_bd fr up l j
      have e0 : (0 : Int) ≤ j := by omega
      have e1 : (j : Int) < L := by omega
      have hw : IntKind.i64.wrap ((j : Int) + 1) = j + 1 := by rw [IntKind.wrap_i64]; omega
      generalize l[j] = p at *
      generalize goS fr up (l.take j) = st at *
      obtain ⟨eb, D1, D2, PT⟩ := put_g M B st up p j ok bu (by omega) (by omega)
      have HD1 := Lib.hid D1
      have HD2 := Lib.hid D2
      have PT' := Lib.hid PT
      have HI := Lib.hid hI
      obtain ⟨q, hq⟩ : ∃ q, p.on % 4 = q := ⟨_, rfl⟩
      obtain ⟨sn, hsn⟩ : ∃ sn, (p.s % 16).toNat = sn := ⟨_, rfl⟩
      obtain ⟨o', ho'⟩ : ∃ o', p.o + up = o' := ⟨_, rfl⟩
      obtain ⟨n', hn'⟩ : ∃ n', st.n + q = n' := ⟨_, rfl⟩
      have ok1 := ok.s
      have ok2 := ok.on
      have ok3 := ok.o
      have ok4 := ok.d
      have gn : (gStep up st p).n = n' := by rw [gStep_n, hq, hn']
      have HGN := Lib.hid gn
      have hqt : Int.tmod p.on 4 = q := by rw [Int.tmod_eq_emod_of_nonneg ok2.1, hq]
      have hst : Int.tmod p.s 16 = (sn : Int) := by rw [Int.tmod_eq_emod_of_nonneg ok1.1]; omega
      have hs' : p.s % 16 = (sn : Int) := by omega
      have wq : IntKind.i64.wrap q = q := by rw [IntKind.wrap_i64]; omega
      have wn : IntKind.i64.wrap (st.n + q) = n' := by rw [IntKind.wrap_i64]; omega
      have ws : IntKind.i64.wrap (sn : Int) = sn := by rw [IntKind.wrap_i64]; omega
      have wo : IntKind.i64.wrap p.o = p.o := by rw [IntKind.wrap_i64]; omega
      have wo2 : IntKind.i64.wrap (p.o + up) = o' := by rw [IntKind.wrap_i64]; omega
      have wd : IntKind.i64.wrap p.d = p.d := by rw [IntKind.wrap_i64]; omega
      have bn' : -9000000000000 ≤ n' ∧ n' ≤ 9000000000000 := by omega
      rw [hsn, hq, hn', ho'] at PT'
      have ML := Lib.hid (fun w => mul_any n' 1024 (by omega) (by omega) (by omega) (by omega) w)
      have OF := Lib.hid (fun w => of_any (j : Int) (by omega) (by omega) w)
      have AD : Hid (∀ w, Calls Try.prog 33 #[WV (n' * 1024), WV (j : Int)] w fun e w' => e = .returned (WV (n' * 1024 + j)) ∧ Mo w w') := Lib.hid (fun w => by
        have := add_any (n' * 1024) j (by unfold InW; omega) (by unfold InW; omega) w
        rwa [cl_in (by unfold InW; omega)] at this)
      clear hc PT D1 D2 hI hq hsn ho' hn' gn ok hjl bn
      go_upto_region 10 with (fail)
      refine wp_name ?_
      intro w1 hw1
      have b13 : Blk w1 wr.heap.size 58 #[.int .u8 p.s, .int .u8 p.on, .int .i32 p.o, .int .i32 p.d] := by rw [hw1]; infer_instance
      have M1 : Mo wr w1 := by rw [hw1]; exact Mor.out
      have I1 := Lib.hid (HI.out.mo M1)
      have nM : wr.heap.size ≠ M := by have := HI.out.bm.lt; omega
      have nB : wr.heap.size ≠ B := by have := HI.out.b.lt; omega
      generalize wr.heap.size = g13 at *
      clear hw1 y0 y1 y2 y3 z0
      have HOLD : ∀ V, Blk V g13 58 #[.int .u8 p.s, .int .u8 p.on, .int .i32 p.o, .int .i32 p.d] → ∀ w', Mo V w' → w'.cell? ⟨g13, 0, none⟩ = some (.int .u8 p.s) ∧ w'.cell? ⟨g13, 2, none⟩ = some (.int .i32 p.o) ∧ w'.cell? ⟨g13, 3, none⟩ = some (.int .i32 p.d) := fun V b w' m => ⟨by rw [blk_cell (m.blk b)]; rfl, by rw [blk_cell (m.blk b)]; rfl, by rw [blk_cell (m.blk b)]; rfl⟩
      have H1 := HOLD w1 b13
      have lt13 := b13.lt
      go_cut [14, 15, 16] (fun s14 s15 s16 wx => ∃ g E A c D d, s14 = .pointer (some ⟨g, 0, none⟩) ∧ s15 = .bool eb ∧ s16 = .int .u8 1 ∧ Blk wx g 38 (eC E A c D d) ∧ IntT wx A (natI E.srv) ∧ IntT wx D (natI E.tr) ∧ MkIs wx M B (mkG (gStep up st p)) ∧ KpS (fun i => i = M ∨ i = B) w1 wx ∧ (eb = true → IsTold st.n 16 (bestL st.cur) E))
      case first =>
        go_region_held3 (fun w' => w'.cell? ⟨g13, 0, none⟩ = some (.int .u8 p.s) ∧ w'.cell? ⟨g13, 2, none⟩ = some (.int .i32 p.o) ∧ w'.cell? ⟨g13, 3, none⟩ = some (.int .i32 p.d)) (first | exact H1 _ Mor.out | exact H2 _ Mor.out | exact HOLD _ (blk_setRow_ne b13p (Nat.ne_of_gt (Nat.lt_of_lt_of_le lt13 (Mo.size Mor.out)))) _ (Mo.refl _) | exact HOLD _ (blk_setRow_ne b13p (Nat.ne_of_gt (Nat.lt_of_lt_of_le lt13 KW.size))) _ (Mo.refl _))
          (first
            | ((with_reducible refine (ML.out _).mono ?_)
               rintro e wm ⟨rfl, M9⟩
               have iC : MoC _ wm := ⟨M9⟩
               have iM : Mor w1 wm := ⟨(Mor.out : Mo w1 _).trans M9⟩)
            | ((with_reducible refine (OF.out _).mono ?_)
               rintro e wo ⟨rfl, M9⟩
               have iC : MoC _ wo := ⟨M9⟩
               have iM : Mor w1 wo := ⟨(Mor.out : Mo w1 _).trans M9⟩)
            | ((with_reducible refine (AD.out _).mono ?_)
               rintro e wa ⟨rfl, M9⟩
               have iC : MoC _ wa := ⟨M9⟩
               have iM : Mor w1 wa := ⟨(Mor.out : Mo w1 _).trans M9⟩)
            | ((with_reducible refine (PT'.out _ (I1.out.mo Mor.out)).mono ?_)
               rintro e wp ⟨E, A, c, D, d, rfl, J1, J2, IP, KP, TP⟩
               have KW := (KpS.of_mo (Mor.out : Mo w1 _)).trans KP fun _ _ q => q
               have b13p := KW.blk b13 (fun q => by rcases q with q | q; exact nM q; exact nB q)
               have H2 := HOLD wp b13p
               have iK : KpC M B _ wp := ⟨KP, (I1.out.mo Mor.out).noM (by decide)⟩))
        all_goals (
          go_wp2_with fail
          go_meet
          first
          | exact ⟨_, E, A, c, D, d, rfl, rfl, rfl, inferInstance, J1.mo Mor.out, J2.mo Mor.out, IP.mo Mor.out, KW.trans (KpS.of_mo Mor.out : KpS (fun i => i = M ∨ i = B) _ _) (fun _ _ q => q), TP⟩
          | exact ⟨_, E, A, c, D, d, rfl, rfl, rfl, blk_setRow (inferInstance : Blk wp _ 38 epz), J1.setRow (inferInstance : Blk wp _ 38 epz) (by decide) _, J2.setRow (inferInstance : Blk wp _ 38 epz) (by decide) _, IP.setRowE (inferInstance : Blk wp _ 38 epz) _, KW.setRowE (Mo.size Mor.out) _, TP⟩)
      obtain ⟨g14, E, A4, c4, D4, d4, rfl, rfl, rfl, b14, J1, J2, I2, K2, T2⟩ := hcut
      rename World => w2
      have N2 : Mo W w2 := K2.mo (hM.trans M1) fun k _ q => by rcases q with rfl | rfl <;> assumption
      have A2 := Lib.hid ((HA.out.mo M1).kp K2 (I1.out.noM (by decide)) (I1.out.noM (by decide)))
      have F2 : Hid (EpF w2 E (.agg (eC E A4 c4 D4 d4))) := Lib.hid ⟨A4, c4, D4, d4, rfl, J1, J2⟩
      have HI2 := Lib.hid I2
      have HT2 := Lib.hid T2
      clear J1 J2 I2 T2 K2 H1 HOLD b13 I1 M1 hM
      cases eb with
      | false =>
        go_wp2_with fail
        go_roundw
        case rel => exact ⟨j + 1, Es, CL, by omega, by go_num, by rw [SN.out, HGN.out], by rw [SN.out]; exact HI2.out, A2.out, by rw [SN.out, HD1.out rfl]; exact HT.out, N2⟩
        case measure => simp [intOf]; omega
      | true =>
        go_wp2_with (at_builtin; refine wpList_append_own _ rfl _ _ 61 rfl W.heap.size 38 i0 (.agg epz) 7 88 Try.underlying61 hi hz0 hz1 hz2 rfl (by decide) _ _ _ rfl (owns_mo A2.out.row (Mor.out : Mo w2 _)) ⟨w2.heap.size, 0, none⟩ 1 1 (eC E A4 c4 D4 d4).toList rfl rfl ?a1 ?a2 ?a3 ?a4 ?a5 ?_)
        case a2 => exact ⟨rfl, rfl, rfl, rfl, rfl, rfl, rfl⟩
        case a3 => unfold maxLen; omega
        case a4 => omega
        case a5 => have := N2.size; simp; omega
        intro v' w5 hown1 hgrow _
        have PM : Mo W w5 := mo_grown (N2.trans Mor.out) hgrow (fun k e => (A2.out.row.lt k e).1)
        have A5 := Lib.hid ((A2.out.mo (Mor.out : Mo w2 _)).snoc (E := E) (C := eC E A4 c4 D4 d4) (F2.out.mo Mor.out) rfl hown1 hgrow)
        have I5 := Lib.hid (HI2.out.kp (S := fun i => (Value.slice A9 Es.length c9).ownBlock = some i) ((KpS.of_mo (Mor.out : Mo w2 (w2.alloc (.cells (eC E A4 c4 D4 d4) 38)))).trans (⟨hgrow.os, hgrow.tape, hgrow.output, hgrow.size, fun k hk nk => hgrow.block k hk fun e => nk e.symm⟩ : KpS (fun i => (Value.slice A9 Es.length c9).ownBlock = some i) _ _) fun _ _ q => q) (fun q => own_noT A2.out.row (t := 54) (by decide) M q _ _ HI2.out.bm.out) (fun q => by
          rcases A2.out.row.2 with ⟨e, _⟩ | ⟨g', _, _, e, _, hB, _⟩
          · rw [e] at q; simp [Value.ownBlock] at q
          · rw [e] at q
            have e' : g' = B := by simpa [Value.ownBlock] using q
            obtain ⟨_, _, hm⟩ := HI2.out.b.isMap
            rw [e', hm] at hB
            cases hB))
        clear hown1 hgrow b14
        go_wp2_with fail
        go_roundw
        case rel => exact ⟨j + 1, Es ++ [E], CL ++ [eC E A4 c4 D4 d4], by omega, by go_num, by rw [SN.out, HGN.out], by rw [SN.out]; exact I5.out, A5.out, by rw [SN.out, HD2.out (by trivial)]; exact HT.out.snoc (HT2.out (by trivial)), PM⟩
        case measure => simp [intOf]; omega
    · obtain rfl : j = L := by omega
      have et : l.take j = l := List.take_of_length_le (by rw [HL.out]; exact Nat.le_refl _)
      rw [et] at hI HT
      obtain ⟨st, hst⟩ : ∃ st, goS fr up l = st := ⟨_, rfl⟩
      have HST := Lib.hid hst
      have LC : l ≠ [] → st.cur ≠ [] := fun q => by rw [← hst]; exact goS_cur fr up l q
      have HLC := Lib.hid LC
      have LN : l = [] → st.cur = [] := fun q => by rw [← hst, q]; rfl
      have HLN := Lib.hid LN
      rw [hst] at hI HT
      clear hst et LC LN
      by_cases c1 : st.cur = []
      · have l0 : l = [] := Decidable.byContradiction fun q => HLC.out q c1
        obtain rfl : j = 0 := by rw [← HL.out, l0]; rfl
        have EN := Lib.hid (fun w I => eend_no M B (mkG st) w I (by unfold mkG; rw [if_pos c1]; rfl))
        have HC := Lib.hid c1
        clear c1 l0
        go_wp2_with fail
        refine (EN.out _ hI).mono ?_
        rintro e w2 ⟨rfl, M2⟩
        go_wp2_with fail
        go_ret2
        exact ⟨_, Es, CL, rfl, (HA.out.mo M2).mo Mor.out, by rw [HST.out]; unfold grpG; rw [if_pos HC.out]; exact HT.out, hM.trans (M2.trans Mor.out)⟩
      · have l1 : 0 < j := by
          rcases Nat.eq_zero_or_pos j with q | q
          · exact absurd (HLN.out (List.eq_nil_of_length_eq_zero (by rw [HL.out]; exact q))) c1
          · exact q
        have d0 : decide ((0 : Int) < j) = true := decide_eq_true (by omega)
        have d0' : decide (0 < j) = true := decide_eq_true l1
        have EY := Lib.hid (fun w I => eend_yes M B (mkG st) w I (by unfold mkG; rw [if_neg c1]))
        have inum : (mkG st).num = st.n := by unfold mkG; rw [if_neg c1]
        have isv : (mkG st).sv = 16 := by unfold mkG; rw [if_neg c1]
        have iff' : (mkG st).f = bestL st.cur := by unfold mkG; rw [if_neg c1]
        rw [inum, isv, iff'] at EY
        have HC := Lib.hid c1
        clear c1 inum isv iff'
        go_wp2_with fail
        refine (EY.out _ hI).mono ?_
        rintro e w1 ⟨E, v, hE, rfl, ⟨A4, c4, D4, d4, rfl, J1, J2⟩, M1⟩
        have HE := Lib.hid hE
        have F1 : EpF w1 E (.agg (eC E A4 c4 D4 d4)) := ⟨A4, c4, D4, d4, rfl, J1, J2⟩
        clear hE J1 J2
        go_upto_region 18 with (fail)
        refine wp_name ?_
        intro w2 hw2
        have b17 : Blk w2 w1.heap.size 38 (eC E A4 c4 D4 d4) := by rw [hw2]; infer_instance
        have M12 : Mo w1 w2 := by rw [hw2]; exact Mor.out
        have N2 := hM.trans (M1.trans M12)
        have F2 := Lib.hid (F1.mo M12)
        have A2 := Lib.hid ((HA.out.mo M1).mo M12)
        clear hw2 F1 M1 M12 hM EY hI
        go_wp2_with (at_builtin; refine wpList_append_own _ rfl _ _ 61 rfl W.heap.size 38 i0 (.agg epz) 7 88 Try.underlying61 hi hz0 hz1 hz2 rfl (by decide) _ _ _ rfl (owns_mo A2.out.row (Mor.out : Mo w2 _)) ⟨w2.heap.size, 0, none⟩ 1 1 (eC E A4 c4 D4 d4).toList rfl rfl ?b1 ?b2 ?b3 ?b4 ?b5 ?_)
        case b2 => exact ⟨rfl, rfl, rfl, rfl, rfl, rfl, rfl⟩
        case b3 => unfold maxLen; omega
        case b4 => omega
        case b5 => have := N2.size; simp; omega
        intro v' w5 hown1 hgrow _
        have PM : Mo W w5 := mo_grown (N2.trans Mor.out) hgrow (fun k e => (A2.out.row.lt k e).1)
        have A5 := Lib.hid ((A2.out.mo (Mor.out : Mo w2 _)).snoc (E := E) (C := eC E A4 c4 D4 d4) (F2.out.mo Mor.out) rfl hown1 hgrow)
        clear hown1 hgrow b17
        go_wp2_with fail
        go_ret2
        exact ⟨_, Es ++ [E], CL ++ [eC E A4 c4 D4 d4], rfl, A5.out, by rw [HST.out]; unfold grpG; rw [if_neg HC.out]; exact HT.out.snoc HE.out, PM⟩
end Go.Proofs.Ytdgmcgfkammioaa
