/- horologelaw35.EpochCopies: the walk. -/
import Derived.Test.YtdgmcgfkammioaaEpD
namespace Go.Proofs.Ytdgmcgfkammioaa
open Go.RowKit Go.Maps

/-! ### plain: groups that are done, from place to place -/
set_option maxRecDepth 20000 in
theorem gStep_pre (up : Int) (st : GS) (p : PtS) : ∃ t, (gStep up st p).done = st.done ++ t := by
  unfold gStep
  split
  · exact ⟨[], (List.append_nil _).symm⟩
  · split
    · exact ⟨[], (List.append_nil _).symm⟩
    · exact ⟨_, rfl⟩
set_option maxRecDepth 20000 in
theorem goS_pre (fr up : Int) (l : List PtS) (j : Nat) : ∀ d, ∃ t, (goS fr up (l.take (j + d))).done = (goS fr up (l.take j)).done ++ t
  | 0 => ⟨[], by simp⟩
  | d + 1 => by
    obtain ⟨t, ht⟩ := goS_pre fr up l j d
    by_cases h : j + d < l.length
    · obtain ⟨t', ht'⟩ := gStep_pre up (goS fr up (l.take (j + d))) l[j + d]
      exact ⟨t ++ t', by rw [show j + (d + 1) = (j + d) + 1 by omega, goS_take _ _ _ _ h, ht', ht, List.append_assoc]⟩
    · refine ⟨t, ?_⟩
      rw [List.take_of_length_le (by omega)] at ht ⊢
      exact ht
set_option maxRecDepth 20000 in
theorem pre_next {α : Type} {D G : List α} {k : Nat} {x : α} {t : List α} (h : D ++ G = (D ++ G.take k ++ [x]) ++ t) (hk : k ≤ G.length) : ∃ hk : k < G.length, G[k] = x := by
  rw [List.append_assoc, List.append_assoc] at h
  have h1 := List.append_cancel_left h
  have hl : (G.take k).length = k := by rw [List.length_take]; omega
  have lt : k < G.length := by
    have := congrArg List.length h1
    rw [List.length_append, List.length_append, hl, List.length_singleton] at this
    omega
  refine ⟨lt, ?_⟩
  have h2 : G[k]? = (G.take k ++ ([x] ++ t))[k]? := congrArg (fun q => q[k]?) h1
  rw [List.getElem?_append_right (by omega), hl, Nat.sub_self, List.getElem?_eq_getElem lt] at h2
  exact Option.some.inj h2
set_option maxRecDepth 20000 in
theorem pre_take {α : Type} {G : List α} {k : Nat} (hk : k < G.length) : G.take (k + 1) = G.take k ++ [G[k]] := by
  rw [List.take_add_one, List.getElem?_eq_getElem hk]
  rfl
set_option maxRecDepth 20000 in
theorem pre_all {α : Type} {D G : List α} {k : Nat} (h : D ++ G = D ++ G.take k) : G.length ≤ k := by
  have := congrArg List.length h
  rw [List.length_append, List.length_append, List.length_take] at this
  omega
/-! ### a row of epochs that is cut -/
set_option maxRecDepth 20000 in
theorem AllE.adr {b : Nat} {w : World} {A : Option Addr} {c : Nat} {Es : List Ep} {CL : List (Array Value)} (h : AllE b w (.slice A Es.length c) Es CL) (q : 0 < Es.length) : ∃ g, A = some ⟨g, 0, none⟩ := by
  obtain ⟨g, c2, _, _, _, _, e, _⟩ := h.get 0 q
  injection e with e
  exact ⟨g, e⟩
set_option maxRecDepth 20000 in
theorem AllE.capE {b : Nat} {w : World} {A : Option Addr} {c : Nat} {Es : List Ep} {CL : List (Array Value)} (h : AllE b w (.slice A Es.length c) Es CL) : Es.length ≤ c := by
  rcases h.row.2 with ⟨_, e⟩ | ⟨g, cap, cur, hv, hb, hg, h3, h4, h5, h6⟩
  · omega
  · injection hv with _ _ e
    omega
set_option maxRecDepth 20000 in
theorem cut_ep (A : Option Addr) (r c : Nat) (hr : 1 ≤ r) (hc : r ≤ c) : ∃ A2, (∀ g off, A = some ⟨g, off, none⟩ → 1 < r → A2 = some ⟨g, off + 7, none⟩) ∧ ∀ w : World, (Instr.slice 61 (.slice A r c) (some (.int .i64 1)) none none).run Try.prog w = .ok (.slice A2 (r - 1) (c - 1)) w := by
  have hsz : ∀ w : World, (sizeOf (Try.prog.elem 61)).run Try.prog w = .ok 7 w := fun w => by kernel_rfl
  refine ⟨if c = 1 then A else A.map (·.add (1 * 7)), ?_, fun w => ?_⟩
  · rintro g off rfl h
    rw [if_neg (by omega)]
    show some ((⟨g, off, none⟩ : Addr).add (1 * 7)) = _
    rw [Go.WideShapes.add_plain]
  · rw [run_slice_l w 61 A r c Try.underlying61 .i64 1 (by omega) (by omega), hsz]
    rfl
attribute [local go_sem] blk_cell' blk_frozen'
attribute [local go_sem ↓] loadF_ep storeF_ep
attribute [local go_sem] run_loadF0 run_storeF0
set_option maxRecDepth 20000 in
set_option maxHeartbeats 16000000 in
theorem copies35_any (A : Option Addr) (cap L : Nat) (l : List PtS) (cut : Int) (W : World) (hL : l.length = L) (h : PutsS W A cap l) (bc : 0 ≤ cut ∧ cut ≤ 255) :
    Calls Try.prog 5 #[.slice A L cap, .int .u8 cut] W fun e w' => e = .returned (.bool true) ∧ Mo W w' := by
  have WK := Lib.hid works35_any
  by_cases c : 100 < L
  · have d1 : decide ((100 : Int) < L) = true := decide_eq_true (by omega)
    have d1' : decide (100 < L) = true := decide_eq_true c
    clear h hL c
    go_enter Try.func5, Try.ntmps5
    go_wp2_with fail
    refine (WK.out _).mono ?_
    rintro e w1 ⟨rfl, M1⟩
    go_wp2_with fail
    go_ret
    exact ⟨rfl, (Mor.out : Mo W _).trans (M1.trans Mor.out)⟩
  have d1 : decide ((100 : Int) < L) = false := decide_eq_false (by omega)
  have d1' : decide (100 < L) = false := decide_eq_false c
  have L100 : L ≤ 100 := by omega
  have HD := Lib.hid h
  have HL := Lib.hid hL
  have NW := Lib.hid new_g
  have wc : IntKind.i64.wrap cut = cut := by rw [IntKind.wrap_i64]; omega
  obtain ⟨P, hP⟩ : ∃ P : Nat, min cut (L : Int) = P := ⟨(min cut (L : Int)).toNat, by omega⟩
  have PL : P ≤ L := by omega
  clear h hL c
  go_enter Try.func5, Try.ntmps5
  go_wp2_with fail
  refine (NW.out _).mono ?_
  rintro e w0 ⟨M, B, rfl, gM, gB, I0, M0⟩
  have bx : Blk w0 W.heap.size 56 #[.slice A L cap] := M0.blk inferInstance
  have N0 : Mo W w0 := (Mor.out : Mo W _).trans M0
  have gM' : W.heap.size < M := Nat.lt_of_lt_of_le (by simp) gM
  have gB' : W.heap.size < B := Nat.lt_of_lt_of_le (by simp) gB
  generalize hgb : W.heap.size = gb at *
  clear gM gB M0
  --@@ two
  go_wp2_with fail
  go_loopw [9, 49] (fun n i wr => ∃ j : Nat, j ≤ P ∧ i = .int .i64 j ∧ n = .int .i64 (goS 0 0 (l.take j)).n ∧ MkIs wr M B (mkG (goS 0 0 (l.take j))) ∧ Blk wr gb 56 #[.slice A L cap] ∧ Mo W wr) (fun _ i _ => P - (intOf i).toNat)
  case atStart => exact ⟨0, by omega, rfl, rfl, I0.mo Mor.out, inferInstance, N0.trans Mor.out⟩
  case round =>
    obtain ⟨j, hj, rfl, rfl, hI, hx, hM⟩ := hrel
    by_cases cj : j < P
    · have hjl : j < l.length := by rw [HL.out]; omega
      have SN := Lib.hid (goS_take 0 0 l j hjl)
      have bn := goS_bd 0 0 l j
      have ok := HD.out.ok _ (List.getElem_mem hjl)
      have okn := ok.on
      obtain ⟨q, hq⟩ : ∃ q, l[j].on % 4 = q := ⟨_, rfl⟩
      have hqt : Int.tmod l[j].on 4 = q := by rw [Int.tmod_eq_emod_of_nonneg okn.1, hq]
      have GN : Hid ((goS 0 0 (l.take (j + 1))).n = (goS 0 0 (l.take j)).n + q) := Lib.hid (by rw [SN.out, gStep_n, hq])
      obtain ⟨eb, D1, D2, PT⟩ := put_g M B (goS 0 0 (l.take j)) 0 l[j] 0 ok (by omega) (by omega) (by omega)
      rw [hq] at PT
      simp only [Int.add_zero] at PT
      have C1 := Lib.hid (fun w (m : Mo W w) (b : Blk w gb 56 #[.slice A L cap]) (I : MkIs w M B (mkG (goS 0 0 (l.take j)))) => copies1_any gb A cap L l j M B (goS 0 0 (l.take j)) ((goS 0 0 (l.take j)).n + q) eb w HL.out (HD.out.mo m) hjl (by rw [hq]) (by omega) b I PT)
      obtain ⟨g, off, eA, hc⟩ := (HD.out.mo hM).row.resolve_left (fun e => by rw [e] at hjl; cases hjl)
      obtain ⟨-, y1, -, -⟩ := hc j hjl
      have z0 : LtW g wr := LtW.of_cell y1
      have HA := Lib.hid eA
      have e0 : (0 : Int) ≤ j := by omega
      have e1 : (j : Int) < L := by omega
      have wq : IntKind.i64.wrap q = q := by rw [IntKind.wrap_i64]; omega
      have wn : IntKind.i64.wrap ((goS 0 0 (l.take j)).n + q) = (goS 0 0 (l.take j)).n + q := by rw [IntKind.wrap_i64]; omega
      have hw : IntKind.i64.wrap ((j : Int) + 1) = j + 1 := by rw [IntKind.wrap_i64]; omega
      have HI := Lib.hid hI
      subst eA
      clear D1 D2 PT hc ok hI
      generalize l[j].on = pon at *
      --@@ l1
      go_wp2_with fail
      refine (C1.out _ (hM.trans Mor.out) inferInstance (HI.out.mo Mor.out)).mono ?_
      rintro e w5 ⟨E, A5, c5, D5, d5, rfl, -, -, I5, K5, -⟩
      have x5 : Blk w5 gb 56 #[.slice (some ⟨g, off, none⟩) L cap] := K5.blk inferInstance (fun q => by rcases q with q | q <;> omega)
      have N5 : Mo W w5 := K5.mo (hM.trans Mor.out) fun k _ q => by rcases q with rfl | rfl <;> omega
      rw [← SN.out] at I5
      --@@ l1b
      go_wp2_with fail
      go_roundw
      case rel => exact ⟨j + 1, by omega, by go_num, by rw [GN.out], I5.mo Mor.out, inferInstance, N5.trans Mor.out⟩
      case measure => simp [intOf]; omega
    · obtain rfl : P = j := by omega
      obtain ⟨st, hst⟩ : ∃ st, goS 0 0 (l.take P) = st := ⟨_, rfl⟩
      have HST := Lib.hid hst
      rw [hst] at hI ⊢
      clear hst
      --@@ copy
      have CP := Lib.hid (fun w (I : MkIs w M B (mkG st)) => ecopy_any M B (mkG st) w I)
      go_wp2_with fail
      refine (CP.out _ (hI.mo Mor.out)).mono ?_
      rintro e w1 ⟨M', B', rfl, gM2, gB2, IC, M1⟩
      have M01 : Mo wr w1 := (Mor.out : Mo wr _).trans M1
      have lMM : M < M' := Nat.lt_of_lt_of_le hI.bm.lt (Nat.le_trans (Mo.size Mor.out) gM2)
      have lMB : M < B' := Nat.lt_of_lt_of_le hI.bm.lt (Nat.le_trans (Mo.size Mor.out) gB2)
      have lBM : B < M' := Nat.lt_of_lt_of_le hI.b.lt (Nat.le_trans (Mo.size Mor.out) gM2)
      have lBB : B < B' := Nat.lt_of_lt_of_le hI.b.lt (Nat.le_trans (Mo.size Mor.out) gB2)
      clear gM2 gB2
      have I1 := hI.mo M01
      have x1 := M01.blk hx
      have N1 := hM.trans M01
      clear M1 M01 hI hx
      have EN := Lib.hid (fun w (I : MkIs w M B (mkG st)) => eend_any M B st w I)
      --@@ end1
      go_wp2_with fail
      refine (EN.out _ (I1.mo Mor.out)).mono ?_
      rintro e w2 ⟨E1, A1, k1, A2, k2, t1, rfl, J1, J2, HE, M2⟩
      have M12 : Mo w1 w2 := (Mor.out : Mo w1 _).trans M2
      have I2 := I1.mo M12
      have IC2 := IC.mo M12
      have x2 := M12.blk x1
      have N2 := N1.trans M12
      have HE1 := Lib.hid HE
      have J1' := Lib.hid J1
      have J2' := Lib.hid J2
      clear M2 M12 I1 IC x1 N1 HE J1 J2
      go_upto_region 19 with (fail)
      refine wp_name ?_
      intro w3 hw3
      have b12 : Blk w3 w2.heap.size 38 (eC E1 A1 k1 A2 k2) := by rw [hw3]; infer_instance
      have M23 : Mo w2 w3 := by rw [hw3]; exact Mor.out
      have I3 := I2.mo M23
      have IC3 := IC2.mo M23
      have x3 := M23.blk x2
      have N3 := N2.trans M23
      have K1 := Lib.hid (J1'.out.mo M23)
      have K2 := Lib.hid (J2'.out.mo M23)
      generalize w2.heap.size = g12 at *
      clear hw3 M23 I2 IC2 x2 N2 J1' J2'
      obtain ⟨b3, hb3⟩ : ∃ b, w3.heap.size = b := ⟨_, rfl⟩
      have gb3 : gb ≤ b3 := by rw [← hb3, ← hgb]; exact N3.size
      have l12 : g12 < b3 := by rw [← hb3]; exact b12.lt
      --@@ loop2
      go_wp2_with fail
      go_loopw [9, 15, 16] (fun n v i wr => ∃ (j : Nat) (G : List (Int × List Sm)) (Es : List Ep) (CL : List (Array Value)), P ≤ j ∧ j ≤ L ∧ i = .int .i64 j ∧ n = .int .i64 (goS 0 0 (l.take j)).n ∧ (goS 0 0 (l.take j)).done = st.done ++ G ∧ TG G Es ∧ Es.length ≤ j ∧ AllE b3 wr v Es CL ∧ MkIs wr M B (mkG (goS 0 0 (l.take j))) ∧ MkIs wr M' B' (mkG st) ∧ Blk wr gb 56 #[.slice A L cap] ∧ Blk wr g12 38 (eC E1 A1 k1 A2 k2) ∧ IntT wr A1 (natI E1.srv) ∧ IntT wr A2 (natI E1.tr) ∧ b3 ≤ wr.heap.size ∧ Mo W wr) (fun _ _ i _ => L - (intOf i).toNat)
      case atStart => exact ⟨P, [], [], [], Nat.le_refl _, PL, rfl, by rw [HST.out], by rw [HST.out, List.append_nil], TG.nil, Nat.zero_le _, AllE.nil _ _, by rw [HST.out]; exact I3.mo Mor.out, IC3.mo Mor.out, inferInstance, inferInstance, K1.out.mo Mor.out, K2.out.mo Mor.out, by rw [← hb3]; exact Mo.size Mor.out, N3.trans Mor.out⟩
      case round =>
        clear N3 I3 IC3 b12 x3 K1 K2 N0
        obtain ⟨j, G, Es, CL, hPj, hj, rfl, rfl, hG, hT, hEs, hA, hI, hIC, hx, hb12, hk1, hk2, hsz, hM⟩ := hrel
        by_cases cj : j < L
        · have hjl : j < l.length := by rw [HL.out]; exact cj
          have SN := Lib.hid (goS_take 0 0 l j hjl)
          have bn := goS_bd 0 0 l j
          have ok := HD.out.ok _ (List.getElem_mem hjl)
          have okn := ok.on
          obtain ⟨q, hq⟩ : ∃ q, l[j].on % 4 = q := ⟨_, rfl⟩
          have hqt : Int.tmod l[j].on 4 = q := by rw [Int.tmod_eq_emod_of_nonneg okn.1, hq]
          have GN : Hid ((goS 0 0 (l.take (j + 1))).n = (goS 0 0 (l.take j)).n + q) := Lib.hid (by rw [SN.out, gStep_n, hq])
          obtain ⟨eb, D1, D2, PT⟩ := put_g M B (goS 0 0 (l.take j)) 0 l[j] 0 ok (by omega) (by omega) (by omega)
          rw [hq] at PT
          simp only [Int.add_zero] at PT
          have C1 := Lib.hid (fun w (m : Mo W w) (b : Blk w gb 56 #[.slice A L cap]) (I : MkIs w M B (mkG (goS 0 0 (l.take j)))) => copies1_any gb A cap L l j M B (goS 0 0 (l.take j)) ((goS 0 0 (l.take j)).n + q) eb w HL.out (HD.out.mo m) hjl (by rw [hq]) (by omega) b I PT)
          obtain ⟨g, off, eA, hc⟩ := (HD.out.mo hM).row.resolve_left (fun e => by rw [e] at hjl; cases hjl)
          obtain ⟨-, y1, -, -⟩ := hc j hjl
          have z0 : LtW g wr := LtW.of_cell y1
          have HA := Lib.hid eA
          have e0 : (0 : Int) ≤ j := by omega
          have e1 : (j : Int) < L := by omega
          have wq : IntKind.i64.wrap q = q := by rw [IntKind.wrap_i64]; omega
          have wn : IntKind.i64.wrap ((goS 0 0 (l.take j)).n + q) = (goS 0 0 (l.take j)).n + q := by rw [IntKind.wrap_i64]; omega
          have hw : IntKind.i64.wrap ((j : Int) + 1) = j + 1 := by rw [IntKind.wrap_i64]; omega
          have HI := Lib.hid hI
          have HD1 := Lib.hid D1
          have HD2 := Lib.hid D2
          have HAll := Lib.hid hA
          have HTG := Lib.hid hT
          have HG := Lib.hid hG
          have HIC := Lib.hid hIC
          have HK1 := Lib.hid hk1
          have HK2 := Lib.hid hk2
          obtain ⟨A9, c9, rfl⟩ := own_slE hA.row
          subst eA
          clear D1 D2 PT hc ok hI hA hT hG hIC hk1 hk2
          generalize l[j].on = pon at *
          --@@ put2
          go_wp2_with fail
          refine (C1.out _ (hM.trans Mor.out) inferInstance (HI.out.mo Mor.out)).mono ?_
          rintro e w5 ⟨E, A5, c5, D5, d5, rfl, J5, K5', I5, K5, T5⟩
          have K : KpS (fun i => i = M ∨ i = B) wr w5 := (KpS.of_mo (Mor.out : Mo wr _)).trans K5 fun _ _ q => q
          have nT := fun {t : TypeId} (ne : 54 ≠ t) => HI.out.noM ne
          have x5 := K.blk hx (fun q => by rcases q with q | q <;> omega)
          have N5 : Mo W w5 := K.mo hM fun k _ q => by rcases q with rfl | rfl <;> omega
          have A6 := HAll.out.kp K (nT (by decide)) (nT (by decide))
          have IC5 := HIC.out.kp K (fun q => by rcases q with q | q <;> omega) (fun q => by rcases q with q | q <;> omega)
          have c12 := K.blk hb12 (fun q => nT (t := 38) (by decide) g12 q _ _ hb12.out)
          have k15 := HK1.out.kp K (nT (by decide))
          have k25 := HK2.out.kp K (nT (by decide))
          have sz5 : b3 ≤ w5.heap.size := by
            exact Nat.le_trans hsz K.size
          rw [← SN.out] at I5
          clear K K5 nT hx hM hb12 HAll HIC HK1 HK2 HI C1
          go_upto_region 26 with (fail)
          refine wp_name ?_
          intro w6 hw6
          have b17 : Blk w6 w5.heap.size 38 (eC E A5 c5 D5 d5) := by rw [hw6]; infer_instance
          have M6 : Mo w5 w6 := by rw [hw6]; exact Mor.out
          have F6 : Hid (EpF w6 E (.agg (eC E A5 c5 D5 d5))) := Lib.hid ⟨A5, c5, D5, d5, rfl, J5.mo M6, K5'.mo M6⟩
          have x6 := M6.blk x5
          have N6 := N5.trans M6
          have A7 := Lib.hid (A6.mo M6)
          have I6 := Lib.hid (I5.mo M6)
          have IC6 := Lib.hid (IC5.mo M6)
          have d12 := M6.blk c12
          have k16 := Lib.hid (k15.mo M6)
          have k26 := Lib.hid (k25.mo M6)
          have sz6 := Nat.le_trans sz5 M6.size
          generalize w5.heap.size = g17 at *
          have HT5 := Lib.hid T5
          clear hw6 M6 x5 N5 A6 I5 IC5 c12 k15 k25 J5 K5' T5
          --@@ after
          cases eb with
          | false =>
            go_wp2_with fail
            go_roundw
            case rel => exact ⟨j + 1, G, Es, CL, by omega, by omega, by go_num, by rw [GN.out], by rw [SN.out, HD1.out rfl]; exact HG.out, HTG.out, by omega, A7.out.mo Mor.out, I6.out.mo Mor.out, IC6.out.mo Mor.out, inferInstance, inferInstance, k16.out.mo Mor.out, k26.out.mo Mor.out, Nat.le_trans sz6 (Mo.size Mor.out), N6.trans Mor.out⟩
            case measure => simp [intOf]; omega
          | true =>
            obtain ⟨i0, hi0, hz0, hz1, hz2⟩ := info_parts infoEp
            go_wp2_with (at_builtin; refine wpList_append_own _ rfl _ _ 61 rfl b3 38 i0 (.agg epz) 7 88 Try.underlying61 hi0 hz0 hz1 hz2 rfl (by decide) _ _ _ rfl (owns_mo A7.out.row (Mor.out : Mo w6 _)) ⟨w6.heap.size, 0, none⟩ 1 1 (eC E A5 c5 D5 d5).toList rfl rfl ?a1 ?a2 ?a3 ?a4 ?a5 ?_)
            case a2 => exact ⟨rfl, rfl, rfl, rfl, rfl, rfl, rfl⟩
            case a3 => unfold maxLen; omega
            case a4 => omega
            case a5 => omega
            intro v' w7 hown1 hgrow _
            have KW : KpS (fun i => (Value.slice A9 Es.length c9).ownBlock = some i) w6 w7 := (KpS.of_mo (Mor.out : Mo w6 (w6.alloc (.cells (eC E A5 c5 D5 d5) 38)))).trans (⟨hgrow.os, hgrow.tape, hgrow.output, hgrow.size, fun k hk nk => hgrow.block k hk fun e => nk e.symm⟩ : KpS (fun i => (Value.slice A9 Es.length c9).ownBlock = some i) _ _) fun _ _ q => q
            have mapNo : ∀ k, (∃ es clock, w6.heap[k]? = some (.map es clock)) → ¬ (Value.slice A9 Es.length c9).ownBlock = some k := fun k hm q => by
              rcases A7.out.row.2 with ⟨e, _⟩ | ⟨g', _, _, e, _, hB, _⟩
              · rw [e] at q; simp [Value.ownBlock] at q
              · rw [e] at q
                have e' : g' = k := by simpa [Value.ownBlock] using q
                obtain ⟨_, _, hm⟩ := hm
                rw [e', hm] at hB
                cases hB
            have tyNo : ∀ {t : TypeId} {k : Nat} {cs : Array Value}, 38 ≠ t → Blk w6 k t cs → ¬ (Value.slice A9 Es.length c9).ownBlock = some k := fun ne b q => own_noT A7.out.row ne _ q _ _ b.out
            have A8 := Lib.hid ((A7.out.mo (Mor.out : Mo w6 _)).snoc (E := E) (C := eC E A5 c5 D5 d5) (F6.out.mo Mor.out) rfl hown1 hgrow)
            have I7 := Lib.hid (I6.out.kp KW (tyNo (by decide) I6.out.bm) (mapNo _ I6.out.b.isMap))
            have IC7 := Lib.hid (IC6.out.kp KW (tyNo (by decide) IC6.out.bm) (mapNo _ IC6.out.b.isMap))
            have x7 := KW.blk x6 (tyNo (by decide) x6)
            have e12 := KW.blk d12 (fun q => by have := (A7.out.row.lt g12 q).1; omega)
            have k17 := Lib.hid (k16.out.kp KW (own_noT A7.out.row (by decide)))
            have k27 := Lib.hid (k26.out.kp KW (own_noT A7.out.row (by decide)))
            have N7 : Mo W w7 := mo_grown (N6.trans Mor.out) hgrow (fun k e => by rw [hgb]; exact Nat.le_trans gb3 (A7.out.row.lt k e).1)
            have sz7 := Nat.le_trans sz6 KW.size
            clear KW mapNo tyNo hown1 hgrow A7 I6 IC6 x6 d12 k16 k26 N6 sz6 b17 F6
            --@@ app
            go_wp2_with fail
            go_roundw
            case rel => exact ⟨j + 1, G ++ [((goS 0 0 (l.take j)).n, (goS 0 0 (l.take j)).cur)], Es ++ [E], CL ++ [eC E A5 c5 D5 d5], by omega, by omega, by go_num, by rw [GN.out], by rw [SN.out, HD2.out (by trivial), HG.out, List.append_assoc], HTG.out.snoc (HT5.out (by trivial)), by rw [List.length_append, List.length_singleton]; omega, A8.out.mo Mor.out, I7.out.mo Mor.out, IC7.out.mo Mor.out, inferInstance, inferInstance, k17.out.mo Mor.out, k27.out.mo Mor.out, Nat.le_trans sz7 (Mo.size Mor.out), N7.trans Mor.out⟩
            case measure => simp [intOf]; omega
        · obtain rfl : L = j := by omega
          have EC := Lib.hid (fun w (I : MkIs w M' B' (mkG st)) => eend_any M' B' st w I)
          have HK1 := Lib.hid hk1
          have HK2 := Lib.hid hk2
          have HAll := Lib.hid hA
          have HTG := Lib.hid hT
          have HG := Lib.hid hG
          have HI := Lib.hid hI
          obtain ⟨A9, c9, rfl⟩ := own_slE hA.row
          clear hA hT hG hI hk1 hk2 EN CP
          --@@ end2
          go_wp2_with fail
          refine (EC.out _ (hIC.mo Mor.out)).mono ?_
          rintro e w5 ⟨E2, A3, k3, A4, k4, t2, rfl, J1, J2, HE2, M5⟩
          obtain ⟨rfl, rfl⟩ := HE1.out.uniq HE2
          have M05 : Mo wr w5 := (Mor.out : Mo wr _).trans M5
          have I5 := HI.out.mo M05
          have IC5 := hIC.mo M05
          have A5 := HAll.out.mo M05
          have x5 := M05.blk hx
          have c12 := M05.blk hb12
          have q1 := HK1.out.mo M05
          have q2 := HK2.out.mo M05
          have N5 := hM.trans M05
          have SM := Lib.hid (fun w (m : Mo w5 w) => same35_any E1 _ _ w ⟨A3, k3, A4, k4, rfl, J1.mo m, J2.mo m⟩ ⟨A1, k1, A2, k2, rfl, q1.mo m, q2.mo m⟩ HE1.out.len.1 HE1.out.len.2)
          clear M5 M05 hIC hx hb12 hM HAll HI HK1 HK2
          --@@ r29
          go_wp2_with fail
          refine (SM.out _ Mor.out).mono ?_
          rintro e w6 ⟨rfl, M6⟩
          have M56 : Mo w5 w6 := (Mor.out : Mo w5 _).trans M6
          have I6 := Lib.hid (I5.mo M56)
          have IC6 := Lib.hid (IC5.mo M56)
          have A6 := Lib.hid (A5.mo M56)
          have x6 := M56.blk x5
          have N6 := N5.trans M56
          obtain ⟨stL, hstL⟩ : ∃ st, goS 0 0 (l.take L) = st := ⟨_, rfl⟩
          have HSL := Lib.hid hstL
          rw [hstL] at I6 HG
          clear hstL M6 M56 I5 IC5 A5 x5 c12 q1 q2 N5 SM EC HE1 HE2
          --@@ loop3
          go_wp2_with fail
          go_loopw [9, 15, 22] (fun n v i wr => ∃ (j k r : Nat) (A' : Option Addr), P ≤ j ∧ j ≤ L ∧ i = .int .i64 j ∧ n = .int .i64 (goS 0 0 (l.take j)).n ∧ k + r = Es.length ∧ (goS 0 0 (l.take j)).done = st.done ++ G.take k ∧ v = .slice A' r (c9 - k) ∧ (0 < r → ∃ g, A9 = some ⟨g, 0, none⟩ ∧ A' = some ⟨g, k * 7, none⟩) ∧ AllE b3 wr (.slice A9 Es.length c9) Es CL ∧ MkIs wr M' B' (mkG (goS 0 0 (l.take j))) ∧ MkIs wr M B (mkG stL) ∧ Blk wr gb 56 #[.slice A L cap] ∧ Mo W wr) (fun _ _ i _ => L - (intOf i).toNat)
          case atStart =>
            refine ⟨P, 0, Es.length, A9, Nat.le_refl _, PL, rfl, by rw [HST.out], by omega, by rw [HST.out, List.take_zero, List.append_nil], rfl, fun q => ?_, A6.out.mo Mor.out, by rw [HST.out]; exact IC6.out.mo Mor.out, I6.out.mo Mor.out, inferInstance, N6.trans Mor.out⟩
            obtain ⟨g, e⟩ := A6.out.adr q
            exact ⟨g, e, by rw [e, Nat.zero_mul]⟩
          case round =>
            clear N6 x6 I6 IC6 A6
            obtain ⟨j, k, r, A', hPj, hj, rfl, rfl, hk, hG3, rfl, hA', hA, hIC, hI, hx, hM⟩ := hrel
            have hKG : Es.length = G.length := HTG.out.1
            by_cases cj : j < L
            · have hjl : j < l.length := by rw [HL.out]; exact cj
              have SN := Lib.hid (goS_take 0 0 l j hjl)
              have bn := goS_bd 0 0 l j
              have ok := HD.out.ok _ (List.getElem_mem hjl)
              have okn := ok.on
              obtain ⟨q, hq⟩ : ∃ q, l[j].on % 4 = q := ⟨_, rfl⟩
              have hqt : Int.tmod l[j].on 4 = q := by rw [Int.tmod_eq_emod_of_nonneg okn.1, hq]
              have GN : Hid ((goS 0 0 (l.take (j + 1))).n = (goS 0 0 (l.take j)).n + q) := Lib.hid (by rw [SN.out, gStep_n, hq])
              obtain ⟨eb, D1, D2, PT⟩ := put_g M' B' (goS 0 0 (l.take j)) 0 l[j] 0 ok (by omega) (by omega) (by omega)
              rw [hq] at PT
              simp only [Int.add_zero] at PT
              have C1 := Lib.hid (fun w (m : Mo W w) (b : Blk w gb 56 #[.slice A L cap]) (I : MkIs w M' B' (mkG (goS 0 0 (l.take j)))) => copies1_any gb A cap L l j M' B' (goS 0 0 (l.take j)) ((goS 0 0 (l.take j)).n + q) eb w HL.out (HD.out.mo m) hjl (by rw [hq]) (by omega) b I PT)
              have HPRE := Lib.hid (goS_pre 0 0 l (j + 1) (L - (j + 1)))
              obtain ⟨g, off, eA, hc⟩ := (HD.out.mo hM).row.resolve_left (fun e => by rw [e] at hjl; cases hjl)
              obtain ⟨-, y1, -, -⟩ := hc j hjl
              have z0 : LtW g wr := LtW.of_cell y1
              have HAA := Lib.hid eA
              have e0 : (0 : Int) ≤ j := by omega
              have e1 : (j : Int) < L := by omega
              have wq : IntKind.i64.wrap q = q := by rw [IntKind.wrap_i64]; omega
              have wn : IntKind.i64.wrap ((goS 0 0 (l.take j)).n + q) = (goS 0 0 (l.take j)).n + q := by rw [IntKind.wrap_i64]; omega
              have hw : IntKind.i64.wrap ((j : Int) + 1) = j + 1 := by rw [IntKind.wrap_i64]; omega
              have HI := Lib.hid hI
              have HIC := Lib.hid hIC
              have HD1 := Lib.hid D1
              have HD2 := Lib.hid D2
              have HAll := Lib.hid hA
              have HG3 := Lib.hid hG3
              have HA' := Lib.hid hA'
              have HK := Lib.hid hk
              subst eA
              clear D1 D2 PT hc ok hI hIC hA hG3 hA' hk
              generalize l[j].on = pon at *
              --@@ put3
              go_wp2_with fail
              refine (C1.out _ (hM.trans Mor.out) inferInstance (HIC.out.mo Mor.out)).mono ?_
              rintro e w7 ⟨E, A5, c5, D5, d5, rfl, J5, K5', I7, K7, T7⟩
              have K : KpS (fun i => i = M' ∨ i = B') wr w7 := (KpS.of_mo (Mor.out : Mo wr _)).trans K7 fun _ _ q => q
              have nT := fun {t : TypeId} (ne : 54 ≠ t) => HIC.out.noM ne
              have x7 := K.blk hx (fun q => by rcases q with q | q <;> omega)
              have N7 : Mo W w7 := K.mo hM fun k _ q => by rcases q with rfl | rfl <;> omega
              have A7 := HAll.out.kp K (nT (by decide)) (nT (by decide))
              have I8 := HI.out.kp K (fun q => by rcases q with q | q <;> omega) (fun q => by rcases q with q | q <;> omega)
              rw [← SN.out] at I7
              clear K K7 nT hx hM HAll HI HIC C1
              --@@ r37
              go_upto_region 37 with (fail)
              refine wp_name ?_
              intro w8 hw8
              have b23 : Blk w8 w7.heap.size 38 (eC E A5 c5 D5 d5) := by rw [hw8]; infer_instance
              have M8 : Mo w7 w8 := by rw [hw8]; exact Mor.out
              have JJ1 := Lib.hid (J5.mo M8)
              have JJ2 := Lib.hid (K5'.mo M8)
              have x8 := M8.blk x7
              have N8 := N7.trans M8
              have A8 := Lib.hid (A7.mo M8)
              have I8' := Lib.hid (I8.mo M8)
              have IC8 := Lib.hid (I7.mo M8)
              generalize w7.heap.size = g23 at *
              have HT7 := Lib.hid T7
              clear hw8 M8 x7 N7 A7 I8 I7 T7 J5 K5'
              --@@ cases
              cases eb with
              | false =>
                go_wp2_with fail
                go_roundw
                case rel => exact ⟨j + 1, k, r, A', by omega, by omega, by go_num, by rw [GN.out], HK.out, by rw [SN.out, HD1.out rfl]; exact HG3.out, rfl, HA'.out, A8.out.mo Mor.out, IC8.out.mo Mor.out, I8'.out.mo Mor.out, inferInstance, N8.trans Mor.out⟩
                case measure => simp [intOf]; omega
              | true =>
                obtain ⟨t, ht⟩ := HPRE.out
                have HKG := Lib.hid hKG
                have hk1 := HK.out
                rw [show j + 1 + (L - (j + 1)) = L by omega, HSL.out, HG.out, SN.out, HD2.out (by trivial), HG3.out] at ht
                obtain ⟨hkG, eG⟩ := pre_next ht (by omega)
                have hkE : k < Es.length := by omega
                have eE : E = Es[k] := told_uniq (HT7.out (by trivial)) (by
                  have h9 := HTG.out.2 k _ _ (List.getElem?_eq_getElem hkG) (List.getElem?_eq_getElem hkE)
                  rw [eG] at h9
                  exact h9)
                have hr : 0 < r := by omega
                obtain ⟨g9, e9, rfl⟩ := HA'.out hr
                obtain ⟨g9', c9', A1', c1', D1', d1', ev, L1, L2, LD⟩ := A8.out.get k hkE
                rw [← eE] at L1 L2 LD
                obtain rfl : g9 = g9' := by
                  injection ev with ev
                  rw [e9] at ev
                  injection ev with ev
                  injection ev
                have capE := A8.out.capE
                have len16 := told_len16 (HT7.out (by trivial))
                obtain ⟨A2, hA2, hs⟩ := cut_ep (some ⟨g9, k * 7, none⟩) r (c9 - k) hr (by omega)
                have HA2 := Lib.hid hA2
                have HE9 := Lib.hid e9
                have HEG := Lib.hid eG
                have SM := Lib.hid (fun w (m : Mo w8 w) => same35_any E _ _ w ⟨A5, c5, D5, d5, rfl, JJ1.out.mo m, JJ2.out.mo m⟩ ⟨A1', c1', D1', d1', rfl, L1.mo m, L2.mo m⟩ len16.1 len16.2)
                have lds := fun J d => LD (more w8 J d) Mor.out
                have d0 : (((r : Nat) : Int) == 0) = false := by simp; omega
                have d0' : (r == 0) = false := by simp; omega
                have r0 : (0 : Int) < r := by omega
                clear ht ev capE len16 hA2 e9 eG L1 L2 LD eE hKG hk1 HPRE
                --@@ r38
                go_upto_region 38 with (fail)
                first | (refine wp_region_mo (by kernel_rfl) (by kernel_rfl) ?_) | (refine wp_region_mo' (by kernel_rfl) (by kernel_rfl) ?_)
                repeat (go_big_quiet_step (first | (with_reducible exact quiet_mo (SM.out _ Mor.out))))
                refine wpQuiet_nil ?_
                intro _ hw'
                obtain ⟨⟨J9, d9⟩, hw''⟩ := hw'
                subst hw''
                --@@ r40
                go_wp2_with fail
                go_roundw
                case rel => exact ⟨j + 1, k + 1, r - 1, A2, by omega, by omega, by go_num, by rw [GN.out], by have := HK.out; omega, by rw [SN.out, HD2.out (by trivial), HG3.out, pre_take hkG, HEG.out, List.append_assoc], rfl, fun q => ⟨g9, HE9.out, by rw [HA2.out _ _ rfl (by omega)]; congr 2; omega⟩, A8.out.mo Mor.out, IC8.out.mo Mor.out, I8'.out.mo Mor.out, inferInstance, N8.trans Mor.out⟩
                case measure => simp [intOf]; omega
            · obtain rfl : L = j := by omega
              obtain rfl : r = 0 := by
                rw [HSL.out, HG.out] at hG3
                have := pre_all hG3
                omega
              rw [HSL.out] at hIC
              have EB := Lib.hid (fun w (I : MkIs w M B (mkG stL)) => eend_any M B stL w I)
              have EC := Lib.hid (fun w (I : MkIs w M' B' (mkG stL)) => eend_any M' B' stL w I)
              have LB := Lib.hid (fun w (I : MkIs w M B (mkG stL)) => elive_any M B (mkG stL) w I)
              have LC := Lib.hid (fun w (I : MkIs w M' B' (mkG stL)) => elive_any M' B' (mkG stL) w I)
              clear hA hG3 hA' hk hKG
              --@@ r41
              go_wp2_with fail
              refine (EB.out _ (hI.mo Mor.out)).mono ?_
              rintro e w7 ⟨E2, A3, k3, A4, k4, t2, rfl, J1, J2, HE2, M7⟩
              have M07 : Mo wr w7 := (Mor.out : Mo wr _).trans M7
              have I7 := hI.mo M07
              have IC7 := hIC.mo M07
              have N7 := hM.trans M07
              have HE2' := Lib.hid HE2
              clear M7 M07 hI hIC hM HE2
              go_upto_region 42 with (fail)
              refine wp_name ?_
              intro w8 hw8
              have b26 : Blk w8 w7.heap.size 38 (eC E2 A3 k3 A4 k4) := by rw [hw8]; infer_instance
              have M8 : Mo w7 w8 := by rw [hw8]; exact Mor.out
              have I8 := I7.mo M8
              have IC8 := IC7.mo M8
              have N8 := N7.trans M8
              have q1 := J1.mo M8
              have q2 := J2.mo M8
              generalize w7.heap.size = g26 at *
              clear hw8 M8 I7 IC7 N7 J1 J2
              --@@ r42
              go_wp2_with fail
              refine (EC.out _ (IC8.mo Mor.out)).mono ?_
              rintro e w9 ⟨E3, A5, k5, A6, k6, t3, rfl, J1, J2, HE3, M9⟩
              obtain ⟨rfl, rfl⟩ := HE2'.out.uniq HE3
              have M89 : Mo w8 w9 := (Mor.out : Mo w8 _).trans M9
              have I9 := I8.mo M89
              have IC9 := IC8.mo M89
              have N9 := N8.trans M89
              have b9 := M89.blk b26
              have p1 := q1.mo M89
              have p2 := q2.mo M89
              have SM := Lib.hid (fun w (m : Mo w9 w) => same35_any E2 _ _ w ⟨A3, k3, A4, k4, rfl, p1.mo m, p2.mo m⟩ ⟨A5, k5, A6, k6, rfl, J1.mo m, J2.mo m⟩ HE3.len.1 HE3.len.2)
              have tt : (t2 == t2) = true := by simp
              generalize (keysB (mkG stL).sv (mkG stL).f).length = ln at *
              have lt : (((ln : Nat) : Int) == ln) = true := by simp
              have HI9 := Lib.hid I9
              have HIC9 := Lib.hid IC9
              clear M9 M89 I8 IC8 N8 b26 q1 q2 p1 p2 J1 J2 HE2' HE3 I9 IC9 HG HTG
              --@@ r43
              go_wp2_with fail
              refine (SM.out _ Mor.out).mono ?_
              rintro e w10 ⟨rfl, M10⟩
              have M10' : Mo w9 w10 := (Mor.out : Mo w9 _).trans M10
              go_wp2_with fail
              refine (LB.out _ (HI9.out.mo (M10'.trans Mor.out))).mono ?_
              rintro e w11 ⟨rfl, M11⟩
              have M11' : Mo w9 w11 := M10'.trans ((Mor.out : Mo w10 _).trans M11)
              go_wp2_with fail
              refine (LC.out _ (HIC9.out.mo (M11'.trans Mor.out))).mono ?_
              rintro e w12 ⟨rfl, M12⟩
              have M12' : Mo w9 w12 := M11'.trans ((Mor.out : Mo w11 _).trans M12)
              go_wp2_with fail
              refine (WK.out _).mono ?_
              rintro e w13 ⟨rfl, M13⟩
              have M13' : Mo w9 w13 := M12'.trans ((Mor.out : Mo w12 _).trans M13)
              go_wp2_with fail
              go_ret
              exact ⟨rfl, N9.trans (M13'.trans Mor.out)⟩
end Go.Proofs.Ytdgmcgfkammioaa
