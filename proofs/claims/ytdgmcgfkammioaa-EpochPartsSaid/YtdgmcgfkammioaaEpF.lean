/- horologelaw35.EpochParts: the walk. -/
import Derived.Test.YtdgmcgfkammioaaEpB
namespace Go.Proofs.Ytdgmcgfkammioaa
open Go.RowKit Go.Maps

set_option maxRecDepth 20000 in
theorem told_lenF {n : Int} {f : BestF} {E : Ep} (h : IsTold n 16 f E) : E.srv.length ≤ 1000 ∧ E.tr.length ≤ 1000 := by
  have h1 := (told_len h).2
  have h2 := (told_tr h).2.2
  have h3 := keysB_len 16 f
  rw [← h1] at h3
  omega
set_option maxRecDepth 20000 in
theorem own_adr {w : World} {b T s n c : Nat} {A : Option Addr} {xs : List Value} (h : w.ownsRow b T s (.slice A n c) n xs) (h0 : 0 < n) : ∃ g, A = some ⟨g, 0, none⟩ := by
  rcases h.2 with ⟨_, e⟩ | ⟨g, cap, cur, hv, _⟩
  · omega
  · injection hv with e
    exact ⟨g, e⟩
set_option maxRecDepth 20000 in
theorem any_take {α : Type} (L : List α) (q : α → Bool) (j : Nat) (hj : j < L.length) : (L.take (j + 1)).any q = ((L.take j).any q || q L[j]) := by
  rw [List.take_add_one, List.getElem?_eq_getElem hj, List.any_append]
  simp
attribute [local go_sem] blk_cell' blk_frozen'
attribute [local go_sem ↓] loadF_ep storeF_ep app35_fold
attribute [local go_sem] run_loadF0 run_storeF0
set_option maxRecDepth 20000 in
set_option maxHeartbeats 16000000 in
theorem parts35_any (A : Option Addr) (cap N : Nat) (l : List PtS) (W : World) (hL : l.length = N) (h : PutsS W A cap l) :
    Calls Try.prog 6 #[.slice A N cap] W fun e w' => e = .returned (.bool true) ∧ Mo W w' := by
  have WK := Lib.hid works35_any
  by_cases c : 100 < N
  · have d1 : decide ((100 : Int) < N) = true := decide_eq_true (by omega)
    have d1' : decide (100 < N) = true := decide_eq_true c
    clear h hL c
    go_enter Try.func6, Try.ntmps6
    go_wp2_with fail
    refine (WK.out _).mono ?_
    rintro e w1 ⟨rfl, M1⟩
    go_wp2_with fail
    go_ret
    exact ⟨rfl, (Mor.out : Mo W _).trans (M1.trans Mor.out)⟩
  have d1 : decide ((100 : Int) < N) = false := decide_eq_false (by omega)
  have d1' : decide (100 < N) = false := decide_eq_false c
  have N100 : N ≤ 100 := by omega
  have HD := Lib.hid h
  have HL := Lib.hid hL
  have GO := Lib.hid (fun w (m : Mo W w) => going_any A cap N l 0 0 w hL (h.mo m) N100 (by omega) (by omega))
  have GN := Lib.hid (fun (A : Option Addr) (cap : Nat) (l : List PtS) (n : Int) (w : World) (h : PutsS w A cap l) (hl : l.length ≤ 100) (b1 : 0 ≤ n) (b2 : n ≤ 1000) => going_any A cap l.length l n 0 w rfl h hl (by omega) (by omega))
  have HQG := Lib.hid (qG_go l)
  have HQO := Lib.hid (qG_ok (qS_ok l h.ok))
  have HQB := Lib.hid (qG_bd l h.ok)
  have HQL := Lib.hid (qS_len l)
  have ST := Lib.hid (fun j => qS_ok (l.take j) fun p hp => h.ok p (List.mem_of_mem_take hp))
  obtain ⟨tp, hip, hp0, hp1, hp2⟩ := info_parts infoPt
  obtain ⟨ts, his, hs0, hs1, hs2⟩ := info_parts infoSlP
  obtain ⟨tn, hin, hn0, hn1, hn2⟩ := info_parts infoI64
  clear h hL c
  go_enter Try.func6, Try.ntmps6
  --@@ going
  go_wp2_with fail
  refine (GO.out _ Mor.out).mono ?_
  rintro e w1 ⟨v, Es, CL, rfl, AL, TG1, M1⟩
  have N1 : Mo W w1 := (Mor.out : Mo W _).trans M1
  rw [HQG.out] at TG1
  have HTG := Lib.hid TG1
  have HAL := Lib.hid AL
  obtain ⟨A9, c9, rfl⟩ := own_slE AL.row
  clear AL TG1 M1 GO
  --@@ loop1
  go_wp2_with fail
  go_loopw [5, 6, 7, 8, 33] (fun at_ n v7 v8 i wr => ∃ (j : Nat) (vs : List Value), j ≤ N ∧ i = .int .i64 j ∧ at_ = .int .i64 ((qG (qS (l.take j))).length : Nat) ∧ n = .int .i64 (qS (l.take j)).n ∧ GrpS w1.heap.size wr v7 v8 vs (qG (qS (l.take j))) ∧ Mo w1 wr) (fun _ _ _ _ i _ => N - (intOf i).toNat)
  case atStart => exact ⟨0, [], by omega, rfl, rfl, rfl, GrpS.nil _ _, Mor.out⟩
  case round =>
    obtain ⟨j, vs, hj, rfl, rfl, rfl, hG, hM⟩ := hrel
    by_cases cj : j < N
    · have hjl : j < l.length := by rw [HL.out]; exact cj
      have SN := Lib.hid (qS_take l j hjl)
      have bn := qS_bd l j
      have bl := (qS_len (l.take j))
      rw [List.length_take] at bl
      have sok := ST.out j
      have ok := HD.out.ok _ (List.getElem_mem hjl)
      obtain ⟨g, off, eA, hc⟩ := (HD.out.mo (N1.trans hM)).row.resolve_left (fun e => by rw [e] at hjl; cases hjl)
      obtain ⟨y0, y1, y2, y3⟩ := hc j hjl
      subst eA
      have z0 : LtW g wr := LtW.of_cell y0
      have e0 : (0 : Int) ≤ j := by omega
      have e1 : (j : Int) < N := by omega
      have hw : IntKind.i64.wrap ((j : Int) + 1) = j + 1 := by rw [IntKind.wrap_i64]; omega
      have okn := ok.on
      generalize l[j] = p at *
      generalize qS (l.take j) = st at *
      obtain ⟨q, hq⟩ : ∃ q, p.on % 4 = q := ⟨_, rfl⟩
      have hqt : Int.tmod p.on 4 = q := by rw [Int.tmod_eq_emod_of_nonneg okn.1, hq]
      have wq : IntKind.i64.wrap q = q := by rw [IntKind.wrap_i64]; omega
      have wn : IntKind.i64.wrap (st.n + q) = st.n + q := by rw [IntKind.wrap_i64]; omega
      have HGS := Lib.hid hG
      have HOW := Lib.hid (fun (i : Nat) (u : Value) (hu : vs[i]? = some u) (k : Nat) (hk : u.ownBlock = some k) => by
        have hi : i < (qG st).length := by rw [← hG.len]; exact (List.getElem?_eq_some_iff.1 hu).1
        exact ((hG.inn i u _ hu (List.getElem?_eq_getElem hi)).lt k hk).2)
      have NEW := Lib.hid (fun c => qG_new (st := st) (p := p) c)
      have OLD := Lib.hid (fun c => qG_old (st := st) (p := p) c)
      have HSO := Lib.hid sok
      have gl : (qG st).length ≤ 100 := by omega
      have ll : lenG (qG st) ≤ 100 := by omega
      obtain ⟨ps, pon, po, pd⟩ := p
      simp only at *
      clear hc ok hG bl sok
      --@@ r12
      go_upto_region 12 with (fail)
      refine wp_name ?_
      intro w2 hw2
      have b10 : Blk w2 wr.heap.size 58 #[.int .u8 ps, .int .u8 pon, .int .i32 po, .int .i32 pd] := by rw [hw2]; infer_instance
      have M2 : Mo wr w2 := by rw [hw2]; exact Mor.out
      have N2 := Lib.hid (hM.trans M2)
      have G2 := Lib.hid (HGS.out.mo M2)
      have sz10 : w1.heap.size ≤ wr.heap.size := hM.size
      generalize wr.heap.size = g10 at *
      clear hw2 M2 HGS hM y0 y1 y2 y3 z0
      --@@ r13
      obtain ⟨aL, haL⟩ : ∃ n, (qG st).length = n := ⟨_, rfl⟩
      have HAL9 := Lib.hid haL
      rw [haL] at gl ⊢
      clear haL
      go_upto_region 13 with (fail)
      obtain ⟨nb, hnb⟩ : ∃ nb : Bool, nb = decide (st.cur = [] ∨ q ≠ 0) := ⟨_, rfl⟩
      have HNB := Lib.hid hnb
      go_cut [53] (fun s53 wx => s53 = .bool nb ∧ wx = w2)
      case first =>
        by_cases c1 : st.cur = []
        · have d3 : ((aL : Int) == 0) = true := by
            have hD : qG st = [] := by unfold qG; rw [if_pos c1]; exact HSO.out.e c1
            have := HAL9.out
            rw [hD] at this
            simp at this
            simp
            omega
          have e9 : nb = true := by rw [hnb]; simp [c1]
          subst e9
          clear hnb
          go_wp2_with fail
          go_meet
          exact ⟨rfl, rfl⟩
        · have hD : qG st = st.done ++ [(st.n, st.cur)] := by unfold qG; rw [if_neg c1]
          have G2' := G2.out
          rw [hD] at G2'
          have hl : (st.done ++ [(st.n, st.cur)]).length = st.done.length + 1 := by simp
          have hal : aL = st.done.length + 1 := by rw [← HAL9.out, hD, hl]
          obtain ⟨gN, cN, eN⟩ : ∃ gN cN, u8 = .slice (some ⟨gN, 0, none⟩) aL cN := by
            have := G2'.rowN
            rw [hl] at this
            obtain ⟨gN, cN, e⟩ := ownsRow_succ this
            exact ⟨gN, cN, by rw [hal]; exact e⟩
          subst eN
          have yN : w2.cell? ⟨gN, st.done.length, none⟩ = some (.int .i64 st.n) := by
            have := G2'.rowN
            rw [hl, ← hal] at this
            refine (own_cell1 this ?_).1
            unfold nmL
            rw [List.map_append, List.getElem?_append_right (by simp), List.length_map, Nat.sub_self]
            rfl
          obtain ⟨dl, hdl⟩ : ∃ d, st.done.length = d := ⟨_, rfl⟩
          rw [hdl] at yN hal
          have d3 : ((aL : Int) == 0) = false := by simp; omega
          have wd1 : IntKind.i64.wrap ((aL : Int) - 1) = dl := by rw [IntKind.wrap_i64]; omega
          have i0 : (0 : Int) ≤ dl := by omega
          have i1 : (dl : Int) < aL := by omega
          by_cases c2 : q = 0
          · have e9 : nb = false := by rw [hnb]; simp [c1, c2]
            have d4 : (st.n != st.n + q) = false := by rw [c2]; simp
            subst e9
            clear hnb hD hl hdl hal G2'
            go_wp2_with fail
            go_meet
            exact ⟨rfl, rfl⟩
          · have e9 : nb = true := by rw [hnb]; simp [c2]
            have d4 : (st.n != st.n + q) = true := by simp; omega
            subst e9
            clear hnb hD hl hdl hal G2'
            go_wp2_with fail
            go_meet
            exact ⟨rfl, rfl⟩
      obtain ⟨h53, hwx⟩ := hcut
      clear hnb
      subst h53
      subst hwx
      rename World => w2
      --@@ if
      go_upto_if 53 with (fail)
      go_cut [5, 7, 8] (fun s5 s7 s8 wx => ∃ (vs' : List Value) (v : Value) (D : List (Int × List PtS)) (c : List PtS), s5 = .int .i64 ((D.length : Int) + 1) ∧ GrpS w1.heap.size wx s7 s8 (vs' ++ [v]) (D ++ [(st.n + q, c)]) ∧ qG (qStep st ⟨ps, pon, po, pd⟩) = D ++ [(st.n + q, c ++ [on0 ⟨ps, pon, po, pd⟩])] ∧ D.length ≤ 100 ∧ c.length ≤ 100 ∧ (∀ (i : Nat) (u : Value), (vs' ++ [v])[i]? = some u → ∀ k, u.ownBlock = some k → k < g10) ∧ Blk wx g10 58 #[.int .u8 ps, .int .u8 pon, .int .i32 po, .int .i32 pd] ∧ Mo w1 wx)
      case first =>
        cases nb with
        | true =>
          have CN : st.cur = [] ∨ q ≠ 0 := of_decide_eq_true HNB.out.symm
          have QN := Lib.hid (NEW.out (by rw [hq]; exact CN))
          rw [hq] at QN
          have RG := G2.out.rowG
          have RN := G2.out.rowN
          rw [HAL9.out] at RG RN
          obtain ⟨A7, c7, e7⟩ := own_slE RG
          obtain ⟨A8, c8, e8⟩ := own_slE RN
          subst e7 e8
          have HRG := Lib.hid RG
          have HRN := Lib.hid RN
          have wa : IntKind.i64.wrap ((aL : Int) + 1) = aL + 1 := by rw [IntKind.wrap_i64]; omega
          have sz : w1.heap.size ≤ w2.heap.size := N2.out.size
          clear RG RN CN
          --@@ app1
          go_wp2_with (at_builtin; refine wpList_append_own _ rfl _ _ 65 rfl w1.heap.size 56 ts (.slice none 0 0) 1 24 Try.underlying65 his hs0 hs1 hs2 rfl (by decide) _ _ _ rfl (owns_mo HRG.out (Mor.out : Mo w2 _)) ⟨w2.heap.size, 0, none⟩ 1 1 [.slice none 0 0] rfl rfl ?a1 ?a2 ?a3 ?a4 ?a5 ?_)
          case a1 => exact cell_one_new _ _ _
          case a2 => simp [Value.oneCell']
          case a3 => unfold maxLen; omega
          case a4 => omega
          case a5 => simp; omega
          intro v7' w5 hown1 hgrow1 _
          have K5 : KpS (fun i => (Value.slice A7 aL c7).ownBlock = some i) w2 w5 := (KpS.of_mo (Mor.out : Mo w2 _)).trans (kpS_grownB hgrow1) fun _ _ q => q
          have M5 : Mo w1 w5 := mo_grown (N2.out.trans Mor.out) hgrow1 (fun k e => (HRG.out.lt k e).1)
          have RN5 := own_kp HRN.out K5 (own_noT HRG.out (by decide))
          have IN5 := Lib.hid (fun (i : Nat) (v : Value) (g : Int × List PtS) h1 h2 => own_kp (G2.out.inn i v g h1 h2) K5 (own_noT HRG.out (by decide)))
          have b15 := K5.blk b10 (fun q => own_noT HRG.out (t := 58) (by decide) g10 q _ _ b10.out)
          have HO1 := Lib.hid hown1
          have HRN5 := Lib.hid RN5
          have sz5 : w1.heap.size ≤ w5.heap.size := M5.size
          have HM5 := Lib.hid M5
          clear K5 hgrow1 RN5 hown1 HRN HRG b10 sz M5
          --@@ app2
          go_wp2_with (at_builtin; refine wpList_append_own _ rfl _ _ 66 rfl w1.heap.size 2 tn (.int .i64 0) 1 8 Try.underlying66 hin hn0 hn1 hn2 rfl (by decide) _ _ _ rfl (owns_mo HRN5.out (Mor.out : Mo w5 _)) ⟨w5.heap.size, 0, none⟩ 1 1 [.int .i64 (st.n + q)] rfl rfl ?b1 ?b2 ?b3 ?b4 ?b5 ?_)
          case b1 => exact cell_one_new _ _ _
          case b2 => simp [Value.oneCell']
          case b3 => unfold maxLen; omega
          case b4 => omega
          case b5 => simp; omega
          intro v8' w6 hown2 hgrow2 _
          have K6 : KpS (fun i => (Value.slice A8 aL c8).ownBlock = some i) w5 w6 := (KpS.of_mo (Mor.out : Mo w5 _)).trans (kpS_grownB hgrow2) fun _ _ q => q
          have M6 : Mo w1 w6 := mo_grown (HM5.out.trans Mor.out) hgrow2 (fun k e => (HRN5.out.lt k e).1)
          have RG6 := own_kp HO1.out K6 (own_noT HRN5.out (by decide))
          have IN6 := Lib.hid (fun (i : Nat) (v : Value) (g : Int × List PtS) h1 h2 => own_kp (IN5.out i v g h1 h2) K6 (own_noT HRN5.out (by decide)))
          have b16 := K6.blk b15 (fun q => own_noT HRN5.out (t := 58) (by decide) g10 q _ _ b15.out)
          have GG : Hid (GrpS w1.heap.size w6 v7' v8' (vs ++ [.slice none 0 0]) (qG st ++ [(st.n + q, [])])) := Lib.hid (G2.out.add (by rw [HAL9.out]; exact RG6) (by rw [HAL9.out]; exact hown2) IN6.out)
          have HM6 := Lib.hid M6
          clear K6 hgrow2 hown2 RG6 IN6 IN5 HO1 HRN5 b15 M6 HM5
          --@@ r15
          go_wp2_with fail
          go_meet
          refine ⟨vs, .slice none 0 0, qG st, [], by rw [HAL9.out], GG.out.mo Mor.out, QN.out, by rw [HAL9.out]; exact gl, by simp, fun i u hu k hk => ?_, inferInstance, HM6.out.trans Mor.out⟩
          rcases snoc_get? hu with ⟨hu, -⟩ | ⟨-, rfl⟩
          · exact HOW.out i u hu k hk
          · simp [Value.ownBlock] at hk
        | false =>
          have CN : ¬ (st.cur = [] ∨ q ≠ 0) := of_decide_eq_false HNB.out.symm
          rw [not_or, Decidable.not_not] at CN
          obtain ⟨C1, C2⟩ := CN
          have QO := Lib.hid (OLD.out C1 (by rw [hq]; exact C2))
          rw [hq] at QO
          have hD : qG st = st.done ++ [(st.n, st.cur)] := by unfold qG; rw [if_neg C1]
          have hl : vs.length = st.done.length + 1 := by rw [G2.out.len, hD]; simp
          have hal : aL = st.done.length + 1 := by rw [← HAL9.out, hD]; simp
          obtain ⟨vs0, v0, rfl, -⟩ := snoc_of_len hl
          have G3 := G2.out
          rw [hD] at G3
          have ll' := ll
          rw [hD, lenG_snoc] at ll'
          have HG3 := Lib.hid G3
          have HAA := Lib.hid hal
          have HC2 := Lib.hid C2
          have HC : st.done.length ≤ 100 ∧ st.cur.length ≤ 100 := ⟨by omega, by simp only at ll'; omega⟩
          clear hl G3 hD hal C1 C2 ll'
          go_wp2_with fail
          go_meet
          refine ⟨vs0, v0, st.done, st.cur, by rw [HAA.out]; rfl, by rw [HC2.out, Int.add_zero]; exact HG3.out.mo Mor.out, QO.out, HC.1, HC.2, HOW.out, inferInstance, N2.out.trans Mor.out⟩
      obtain ⟨vs', v, D, c, rfl, hG, hQ, hDl, hcl, hB, b3, hM⟩ := hcut
      rename World => w3
      have HQ := Lib.hid hQ
      have HDC : Hid (D.length ≤ 100 ∧ c.length ≤ 100) := Lib.hid ⟨hDl, hcl⟩
      have lG : (D ++ [(st.n + q, c)]).length = D.length + 1 := by rw [List.length_append, List.length_singleton]
      have RG := hG.rowG
      rw [lG] at RG
      obtain ⟨gG, cG, e7⟩ := ownsRow_succ RG
      subst e7
      have hvl : vs'.length = D.length := by
        have h1 := hG.len
        rw [lG, List.length_append, List.length_singleton] at h1
        omega
      have hv : (vs' ++ [v])[D.length]? = some v := by rw [← hvl, List.getElem?_append_right (Nat.le_refl _), Nat.sub_self]; rfl
      have hDv : (D ++ [(st.n + q, c)])[D.length]? = some (st.n + q, c) := by rw [List.getElem?_append_right (Nat.le_refl _), Nat.sub_self]; rfl
      obtain ⟨Av, cv, ev⟩ := own_slE (hG.inn D.length v _ hv hDv)
      simp only at ev
      subst ev
      have HV := Lib.hid hv
      have HDV := Lib.hid hDv
      clear G2 N2 b10 HOW NEW OLD HSO HNB HAL9 hQ hv hDv RG
      --@@ r17
      go_upto_region 17 with (fail)
      refine wp_name ?_
      intro w4 hw4
      have K34 : KpS (fun i => i = g10) w3 w4 := by rw [hw4]; exact (KpS.refl (fun i => i = g10) w3).cell rfl 1 _
      have b4 : Blk w4 g10 58 #[.int .u8 ps, .int .u8 0, .int .i32 po, .int .i32 pd] := by rw [hw4]; exact ⟨(blk_setCell b3 1 (.int .u8 0)).out⟩
      have M4 : Mo w1 w4 := K34.mo hM fun k _ e => by rw [e]; exact sz10
      have G4 := hG.kpB K34 (fun g e => by rw [e]; exact noT_blk b3 (by decide)) (fun g e => by rw [e]; exact noT_blk b3 (by decide)) (fun i u hu k hk e => by have := hB i u hu k hk; omega)
      clear hw4 b3 K34 hG hM hB
      have RG4 := G4.rowG
      have RN4 := G4.rowN
      have RI4 := G4.inn D.length _ _ HV.out HDV.out
      rw [lG] at RG4 RN4
      simp only at RI4
      have yG := own_cell1 RG4 HV.out
      have hT := (Mor.out : Mo w4 ((w4.alloc (.cells #[.int .u8 ps, .int .u8 0, .int .i32 po, .int .i32 pd] 58)).drew))
      obtain ⟨v9, w9, hrun, hown9, hgrow9, -, hob⟩ := run_append_own_at (P := Try.prog) ((w4.alloc (.cells #[.int .u8 ps, .int .u8 0, .int .i32 po, .int .i32 pd] 58)).drew) w1.heap.size 56 56 58 tp (.agg #[.int .u8 0, .int .u8 0, .int .i32 0, .int .i32 0]) 4 12 Try.underlying56 hip hp0 hp1 hp2 rfl (by decide) _ _ _ (owns_mo RI4 hT) ⟨w4.heap.size, 0, none⟩ 1 1 (ptC (on0 ⟨ps, pon, po, pd⟩)) rfl (news_of_blk (g := w4.heap.size) (t := 58) (cs := #[.int .u8 ps, .int .u8 0, .int .i32 po, .int .i32 pd]) inferInstance _ rfl) (by intro u hu; simp [ptC] at hu; rcases hu with rfl | rfl | rfl | rfl <;> rfl) (by unfold maxLen; omega) (by omega) (by have := M4.size; simp; omega)
      replace hrun : (app35 #[56, 56] 56 #[.slice Av c.length cv, .slice (some ⟨w4.heap.size, 0, none⟩) 1 1]).run Try.prog _ = .ok v9 w9 := hrun
      obtain ⟨gq, cq, e9⟩ := ownsRow_succ hown9
      subst e9
      have K9 : KpS (fun i => (Value.slice Av c.length cv).ownBlock = some i) w4 w9 := (KpS.of_mo hT).trans (kpS_grownB hgrow9) fun _ _ q => q
      have RG9 := own_kp RG4 K9 (own_noT RI4 (by decide))
      have RN9 := own_kp RN4 K9 (own_noT RI4 (by decide))
      obtain ⟨y9, f9⟩ := own_cell1 RG9 HV.out
      have IN9 : ∀ (i : Nat) (u : Value) (g : Int × List PtS), vs'[i]? = some u → D[i]? = some g → w9.ownsRow w1.heap.size 58 4 u g.2.length (ptL g.2) := fun i u g h1 h2 => by
        have hi := (List.getElem?_eq_some_iff.1 h1).1
        have h1' : (vs' ++ [Value.slice Av c.length cv])[i]? = some u := by rw [List.getElem?_append_left hi]; exact h1
        have h2' : (D ++ [(st.n + q, c)])[i]? = some g := by rw [List.getElem?_append_left (by omega)]; exact h2
        exact own_kpB (G4.inn i u g h1' h2') K9 fun k hk e => G4.dis i D.length u _ (by omega) h1' HV.out k hk e
      have KF : KpS (fun i => i = gG) w9 (w9.setCell ⟨gG, D.length, none⟩ (.slice (some ⟨gq, 0, none⟩) (c.length + 1) cq)) := kpS_setCell w9 gG D.length _ rfl
      have noG : ∀ {t : TypeId}, 56 ≠ t → ∀ g, g = gG → NoT t w9 g := fun ne g e => by rw [e]; exact own_noT RG9 ne gG rfl
      have GF := Lib.hid (G4.put (p := on0 ⟨ps, pon, po, pd⟩) (own_setLast RG9 (u' := .slice (some ⟨gq, 0, none⟩) (c.length + 1) cq)) (own_kp RN9 KF (noG (by decide))) (fun i u g h1 h2 => own_kp (IN9 i u g h1 h2) KF (noG (by decide))) (own_kp hown9 KF (noG (by decide))) (hob.imp (fun e => e) fun e => ⟨_, e, hT.size⟩))
      have MF := Lib.hid (mo_setCell (mo_grown (M4.trans hT) hgrow9 fun k e => (RI4.lt k e).1) (RG9.lt gG rfl).1 D.length (.slice (some ⟨gq, 0, none⟩) (c.length + 1) cq))
      obtain ⟨yG1, yG2⟩ := yG
      have zG : LtW gG w4 := LtW.of_cell yG1
      have wD : IntKind.i64.wrap (D.length : Int) = D.length := by rw [IntKind.wrap_i64]; omega
      have wD1 : IntKind.i64.wrap ((D.length : Int) + 1 - 1) = D.length := by rw [IntKind.wrap_i64]; omega
      have i0 : (0 : Int) ≤ D.length := by omega
      have i1 : (D.length : Int) < (D.length : Int) + 1 := by omega
      clear hown9 hgrow9 hob K9 RG9 RN9 IN9 KF noG RG4 RN4 RI4 hT hvl G4 hDl hcl
      --@@ r17b
      go_region
      go_wp2_with fail
      go_roundw
      case rel => exact ⟨j + 1, vs' ++ [.slice (some ⟨gq, 0, none⟩) (c.length + 1) cq], by omega, by go_num, by rw [SN.out, HQ.out, List.length_append, List.length_singleton]; rfl, by rw [SN.out, qStep_n]; simp only; rw [hq], by rw [SN.out, HQ.out]; exact GF.out.mo Mor.out, MF.out.trans Mor.out⟩
      case measure => simp [intOf]; omega
    · obtain rfl : N = j := by omega
      rename World => wG
      have et : l.take N = l := List.take_of_length_le (by rw [HL.out]; exact Nat.le_refl _)
      rw [et] at hG ⊢
      clear ST et
      obtain ⟨G, hGq⟩ : ∃ G, qG (qS l) = G := ⟨_, rfl⟩
      rw [hGq] at hG HTG HQO HQB HQL ⊢
      clear hGq HQG
      have EK : Es.length = G.length := by have := HTG.out.1; rwa [List.length_map] at this
      have GL100 : G.length ≤ 100 := by have := HQL.out.2; have := HL.out; omega
      have d9 : (((Es.length : Nat) : Int) != (G.length : Nat)) = false := by rw [EK]; simp
      have HEK := Lib.hid EK
      obtain ⟨A7, c7, e7⟩ := own_slE hG.rowG
      obtain ⟨A8, c8, e8⟩ := own_slE hG.rowN
      subst e7 e8
      have HG := Lib.hid hG
      have HM := Lib.hid hM
      clear hG hM EK
      --@@ loop2
      go_wp2_with fail
      go_loopw [83] (fun i w => ∃ k : Nat, k ≤ G.length ∧ i = .int .i64 k ∧ Mo wG w) (fun i _ => G.length - (intOf i).toNat)
      case atStart => exact ⟨0, by omega, rfl, Mor.out⟩
      case round =>
        obtain ⟨k, hk, rfl, hM2⟩ := hrel
        by_cases ck : k < G.length
        · have GA := HG.out.mo hM2
          have AA := HAL.out.mo (HM.out.trans hM2)
          have N2 := Lib.hid (N1.trans (HM.out.trans hM2))
          have hkE : k < Es.length := by rw [HEK.out]; exact ck
          have T0 := HTG.out.2 k _ _ (by rw [List.getElem?_map, List.getElem?_eq_getElem ck]; rfl) (List.getElem?_eq_getElem hkE)
          have okG := HQO.out _ (List.getElem_mem ck)
          have bdG := HQB.out _ (List.getElem_mem ck)
          have lnG := lenG_mem (List.getElem_mem ck)
          rw [HQL.out.1, HL.out] at lnG
          have hvk : k < vs.length := by rw [GA.len]; exact ck
          have RI := GA.inn k _ _ (List.getElem?_eq_getElem hvk) (List.getElem?_eq_getElem ck)
          obtain ⟨g7, rfl⟩ := own_adr GA.rowG (by omega)
          obtain ⟨g8, rfl⟩ := own_adr GA.rowN (by omega)
          have RG := GA.rowG
          have RN := GA.rowN
          have y7 := (own_cell1 RG (List.getElem?_eq_getElem hvk)).1
          have y8 := (own_cell1 RN (show (nmL G)[k]? = some (.int .i64 G[k].1) by unfold nmL; rw [List.getElem?_map, List.getElem?_eq_getElem ck]; rfl)).1
          obtain ⟨g9, c9', e9, y9⟩ := AA.num k hkE
          obtain ⟨g9', c9'', A0, c0, D0, d0, e9', J1, J2, LD⟩ := AA.get k hkE
          have en := (told_len T0).1
          have len0 := told_lenF T0
          rw [en] at y9
          generalize Es[k] = E at *
          generalize vs[k] = vk at *
          obtain ⟨gk, hgk⟩ : ∃ g, G[k] = g := ⟨_, rfl⟩
          rw [hgk] at T0 okG bdG lnG RI y8 y9 en
          clear hgk
          obtain ⟨gn, lg⟩ := gk
          simp only at T0 okG bdG lnG RI y8 y9 en
          replace T0 : IsTold gn 16 (bestL (lg.map (smP 0))) E := T0
          replace y9 : wr.cell? ⟨g9, k * 7, none⟩ = some (.int .i64 gn) := y9
          obtain rfl : g9 = g9' := by
            injection e9 with e9
            injection e9' with e9'
            rw [e9] at e9'
            injection e9' with e9'
            injection e9'
          obtain rfl : A9 = some ⟨g9, 0, none⟩ := by injection e9
          obtain ⟨Ai, ci, ev, PS⟩ := own_puts RI rfl (by omega) fun p hp => (okG.2 p hp).1
          subst ev
          have hwk : IntKind.i64.wrap ((k : Int) + 1) = k + 1 := by rw [IntKind.wrap_i64]; omega
          have bn : (gn != gn) = false := by simp
          have n0 : 0 ≤ gn := bdG.1
          have n1000 : gn ≤ 1000 := by have := bdG.2; have := HL.out; omega
          obtain ⟨ni, hni⟩ : ∃ n, lg.length = n := ⟨_, rfl⟩
          have HNI := Lib.hid hni
          have GNI := Lib.hid (fun w h => GN.out Ai ci lg gn w h (by omega) n0 n1000)
          have ni0 : 0 < ni := by
            rw [← hni]
            exact List.length_pos_iff.2 okG.1
          have HOK := Lib.hid okG
          have HT0 := Lib.hid T0
          have HPS := Lib.hid PS
          have HJ1 := Lib.hid J1
          have HJ2 := Lib.hid J2
          have HLD := Lib.hid LD
          have HM2 := Lib.hid hM2
          have HLEN := Lib.hid len0
          rw [hni] at lnG GNI y7
          have z7 : LtW g7 wr := LtW.of_cell y7
          have z8 : LtW g8 wr := LtW.of_cell y8
          have z9 : LtW g9 wr := LtW.of_cell y9
          have k0 : (0 : Int) ≤ k := by omega
          have k1 : (k : Int) < G.length := by omega
          have k2 : (k : Int) < Es.length := by have := HEK.out; omega
          clear e9 e9' en RG RN RI T0 okG bdG hni PS J1 J2 LD len0 hM2 GA AA hkE hvk
          --@@ r24
          go_upto_region 24 with (fail)
          first | (refine wp_region_mo (by kernel_rfl) (by kernel_rfl) ?_) | (refine wp_region_mo' (by kernel_rfl) (by kernel_rfl) ?_)
          repeat (go_big_quiet_step (fail))
          refine wpQuiet_nil ?_
          intro _ hw'
          obtain ⟨⟨J9, d9⟩, hw''⟩ := hw'
          subst hw''
          --@@ one
          go_wp2_with fail
          refine (GNI.out _ (HPS.out.mo Mor.out)).mono ?_
          rintro e w5 ⟨v13, Es1, CL1, rfl, B1, TG1, M5⟩
          rw [go_one gn lg (fun p hp => (HOK.out.2 p hp).2) HOK.out.1] at TG1
          obtain ⟨E1, rfl, T1⟩ := TG1.one
          obtain rfl : E = E1 := told_uniq HT0.out T1
          have M5' : Mo wr w5 := (Mor.out : Mo wr _).trans M5
          obtain ⟨g1, c1, A1, k1', D1, k2', ev1, L1, L2, LD1⟩ := B1.get 0 (by simp)
          subst ev1
          simp only [List.getElem_cons_zero, Nat.zero_mul, List.length_singleton] at L1 L2 LD1 ⊢
          have lds1 := fun J d => LD1 (more w5 J d) Mor.out
          have lds0 := fun J d => HLD.out (more w5 J d) (M5'.trans Mor.out)
          have SM := Lib.hid (fun w (m : Mo w5 w) => same35_any E _ _ w ⟨A1, k1', D1, k2', rfl, L1.mo m, L2.mo m⟩ ⟨A0, c0, D0, d0, rfl, HJ1.out.mo (M5'.trans m), HJ2.out.mo (M5'.trans m)⟩ HLEN.out.1 HLEN.out.2)
          have y75 : w5.cell? ⟨g8, k, none⟩ = some (.int .i64 gn) := by rw [M5'.cell]; exact y8
          have z85 : LtW g8 w5 := LtW.of_cell y75
          clear M5 B1 TG1 T1 LD1 L1 L2 y7 y8 y9 z7 z8 z9
          --@@ r27
          go_upto_region 27 with (fail)
          first | (refine wp_region_mo (by kernel_rfl) (by kernel_rfl) ?_) | (refine wp_region_mo' (by kernel_rfl) (by kernel_rfl) ?_)
          repeat (go_big_quiet_step (first | (with_reducible exact quiet_mo (SM.out _ Mor.out))))
          refine wpQuiet_nil ?_
          intro _ hw'
          obtain ⟨⟨J9, d9⟩, hw''⟩ := hw'
          subst hw''
          have hwl : IntKind.i64.wrap ((ni : Int) - 1) = (ni : Int) - 1 := by rw [IntKind.wrap_i64]; omega
          obtain ⟨tp2, hip2, hq0, hq1, hq2⟩ := info_parts infoPt
          clear lds1 lds0 SM
          --@@ loop3
          go_upto_region 29 with (fail)
          refine wp_name ?_
          intro w6 hw6
          have M56 : Mo w5 w6 := by rw [hw6]; exact Mor.out
          have M6 := Lib.hid (M5'.trans M56)
          have y76 : w6.cell? ⟨g8, k, none⟩ = some (.int .i64 gn) := by rw [M56.cell]; exact y75
          clear hw6 M56 M5' y75 z85
          go_wp2_with fail
          go_loopw [15, 16, 17] (fun vb bk ks wr => ∃ (m : Nat) (b : Bool), m ≤ ni ∧ ks = .int .i64 ((m : Int) - 1) ∧ bk = .bool b ∧ Scan lg m b ∧ wr.ownsRow w6.heap.size 58 4 vb (ni - m) (ptL (lg.drop m).reverse) ∧ Mo w6 wr) (fun _ _ ks _ => (intOf ks + 1).toNat)
          case atStart =>
            refine ⟨ni, false, Nat.le_refl _, rfl, rfl, ?_, ?_, Mor.out⟩
            · rw [← HNI.out]; exact Scan.end_ lg
            · rw [Nat.sub_self, ← HNI.out, List.drop_length]; exact World.ownsRow_nil _ _ _ _
          case round =>
            rename World => w7
            obtain ⟨m, b, hm, rfl, rfl, hS, hown, hM7⟩ := hrel
            have HS := Lib.hid hS
            have HO := Lib.hid hown
            obtain ⟨Ab, cb, evb⟩ := own_slE hown
            subst evb
            clear hS hown
            cases m with
            | succ m =>
              have ek : (((m + 1 : Nat) : Int) - 1) = m := by omega
              have d5 : decide ((0 : Int) ≤ m) = true := decide_eq_true (by omega)
              have d5' : decide ((0 : Int) ≤ ((m + 1 : Nat) : Int) - 1) = true := decide_eq_true (by omega)
              rw [ek]
              obtain ⟨r, hr⟩ : ∃ r, ni - (m + 1) = r := ⟨_, rfl⟩
              have HRr := Lib.hid hr
              have HOR := HO.out
              rw [hr] at HOR ⊢
              have hml : m < lg.length := by rw [HNI.out]; omega
              have hrl : (lg.drop (m + 1)).reverse.length = r := by rw [List.length_reverse, List.length_drop, HNI.out]; exact hr
              have r100 : r ≤ 100 := by omega
              have PB := own_puts HOR hrl r100 fun p hp => (HOK.out.2 p (List.mem_of_mem_drop (List.mem_reverse.1 hp))).1
              obtain ⟨Ab', cb', evb, PB⟩ := PB
              obtain ⟨rfl, rfl⟩ : Ab = Ab' ∧ cb = cb' := by injection evb with q1 q2 q3; exact ⟨q1, q3⟩
              have HPB := Lib.hid PB
              have HOB := Lib.hid HOR
              have HRL := Lib.hid hrl
              have PG := HPS.out.mo (M6.out.trans hM7)
              have okm := (HOK.out.2 _ (List.getElem_mem hml)).1
              obtain ⟨gi, oi, eAi, hci⟩ := PG.row.resolve_left HOK.out.1
              subst eAi
              obtain ⟨x0, x1, x2, x3⟩ := hci m hml
              obtain ⟨pm, hpm⟩ : ∃ x, lg[m] = x := ⟨_, rfl⟩
              have HPM := Lib.hid hpm
              rw [hpm] at x0 x1 x2 x3 okm
              obtain ⟨gs, gon, go_, gd⟩ := pm
              simp only at x0 x1 x2 x3
              have okms := okm.s
              simp only at okms
              obtain ⟨sg, hsg⟩ : ∃ x, gs % 16 = x := ⟨_, rfl⟩
              have htg : Int.tmod gs 16 = sg := by rw [Int.tmod_eq_emod_of_nonneg okms.1, hsg]
              have m0 : (0 : Int) ≤ m := by omega
              have m1 : (m : Int) < ni := by omega
              have zi : LtW gi w7 := LtW.of_cell x0
              have wm : IntKind.i64.wrap ((m : Int) - 1) = (m : Int) - 1 := by rw [IntKind.wrap_i64]; omega
              clear PB PG hpm evb hr hrl HOR HO hci okm
              --@@ loop4
              go_wp2_with fail
              go_loopw [16, 134] (fun bk i w => ∃ (i' : Nat) (b' : Bool), i' ≤ r ∧ i = .int .i64 i' ∧ bk = .bool b' ∧ b' = (b || ((lg.drop (m + 1)).reverse.take i').any fun p => likeP p lg[m]) ∧ Mo w7 w) (fun _ i _ => r - (intOf i).toNat)
              case atStart => exact ⟨0, b, by omega, rfl, rfl, by simp, Mor.out⟩
              case round =>
                rename World => w8
                obtain ⟨i, b4, hi, rfl, rfl, hb4, hM8⟩ := hrel
                have HB4 := Lib.hid hb4
                clear hb4
                by_cases ci4 : i < r
                · have hil : i < (lg.drop (m + 1)).reverse.length := by rw [HRL.out]; exact ci4
                  have PB8 := HPB.out.mo hM8
                  have okp := PB8.ok _ (List.getElem_mem hil)
                  obtain ⟨gb, ob, eAb, hcb⟩ := PB8.row.resolve_left (fun e => by rw [e] at hil; cases hil)
                  subst eAb
                  obtain ⟨u0, u1, u2, u3⟩ := hcb i hil
                  have AT := Lib.hid (any_take (lg.drop (m + 1)).reverse (fun p => likeP p lg[m]) i hil)
                  obtain ⟨pp, hpp⟩ : ∃ x, (lg.drop (m + 1)).reverse[i] = x := ⟨_, rfl⟩
                  rw [hpp] at u0 u1 u2 u3 okp AT
                  rw [HPM.out] at AT HB4
                  obtain ⟨ps, pon, po, pd⟩ := pp
                  simp only at u0 u1 u2 u3
                  have okps := okp.s
                  simp only at okps
                  obtain ⟨sp, hsp⟩ : ∃ x, ps % 16 = x := ⟨_, rfl⟩
                  have htp : Int.tmod ps 16 = sp := by rw [Int.tmod_eq_emod_of_nonneg okps.1, hsp]
                  have LK : Hid (likeP ⟨ps, pon, po, pd⟩ ⟨gs, gon, go_, gd⟩ = (decide (sp = sg) && (decide (pd = gd) && decide (po ≠ go_)))) := Lib.hid (by unfold likeP; simp only; rw [hsp, hsg])
                  have x0' : w8.cell? ⟨gi, oi + m * 4, none⟩ = some (.int .u8 gs) := by rw [hM8.cell]; exact x0
                  have x2' : w8.cell? ⟨gi, oi + m * 4 + 2, none⟩ = some (.int .i32 go_) := by rw [hM8.cell]; exact x2
                  have x3' : w8.cell? ⟨gi, oi + m * 4 + 3, none⟩ = some (.int .i32 gd) := by rw [hM8.cell]; exact x3
                  have zi' : LtW gi w8 := LtW.of_cell x0'
                  have zb' : LtW gb w8 := LtW.of_cell u0
                  have i0 : (0 : Int) ≤ i := by omega
                  have i1 : (i : Int) < r := by omega
                  have hwi : IntKind.i64.wrap ((i : Int) + 1) = i + 1 := by rw [IntKind.wrap_i64]; omega
                  clear PB8 okp hcb hpp x0 x1 x2 x3 zi hsp hsg
                  --@@ r37
                  go_upto_region 37 with (fail)
                  refine wp_name ?_
                  intro w9 hw9
                  have b19 : Blk w9 w8.heap.size 58 #[.int .u8 ps, .int .u8 pon, .int .i32 po, .int .i32 pd] := by rw [hw9]; infer_instance
                  have M9 : Mo w8 w9 := by rw [hw9]; exact Mor.out
                  have x0 : w9.cell? ⟨gi, oi + m * 4, none⟩ = some (.int .u8 gs) := by rw [M9.cell]; exact x0'
                  have x2 : w9.cell? ⟨gi, oi + m * 4 + 2, none⟩ = some (.int .i32 go_) := by rw [M9.cell]; exact x2'
                  have x3 : w9.cell? ⟨gi, oi + m * 4 + 3, none⟩ = some (.int .i32 gd) := by rw [M9.cell]; exact x3'
                  have N6 := hM8.trans M9
                  generalize w8.heap.size = g19 at *
                  clear hw9 M9 u0 u1 u2 u3 x0' x2' x3' zi' zb' hM8
                  have zi : LtW gi w9 := LtW.of_cell x0
                  cases b4 with
                  | true =>
                    --@@ t
                    go_upto_region 37 with (fail)
                    first | (refine wp_region_mo (by kernel_rfl) (by kernel_rfl) ?_) | (refine wp_region_mo' (by kernel_rfl) (by kernel_rfl) ?_)
                    repeat (go_big_quiet_step (fail))
                    refine wpQuiet_nil ?_
                    intro _ hw'
                    obtain ⟨⟨J9, d9⟩, hw''⟩ := hw'
                    subst hw''
                    go_wp2_with fail
                    go_roundw
                    case rel => exact ⟨i + 1, true, by omega, by go_num, rfl, by rw [HPM.out, AT.out, ← Bool.or_assoc, ← HB4.out]; simp, N6.trans Mor.out⟩
                    case measure => simp [intOf]; omega
                  | false =>
                    by_cases q1 : sp = sg
                    · have t1 : (sp == sg) = true := by simp [q1]
                      by_cases q2 : pd = gd
                      · have t2 : (pd == gd) = true := by simp [q2]
                        by_cases q3 : po = go_
                        · have t3 : (po != go_) = false := by simp [q3]
                          have LK' := Lib.hid (LK.out.trans (show _ = false by simp [q3]))
                          clear q1 q2 q3 LK
                          --@@ f1
                          go_upto_region 37 with (fail)
                          first | (refine wp_region_mo (by kernel_rfl) (by kernel_rfl) ?_) | (refine wp_region_mo' (by kernel_rfl) (by kernel_rfl) ?_)
                          repeat (go_big_quiet_step (fail))
                          refine wpQuiet_nil ?_
                          intro _ hw'
                          obtain ⟨⟨J9, d9⟩, hw''⟩ := hw'
                          subst hw''
                          go_wp2_with fail
                          go_roundw
                          case rel => exact ⟨i + 1, false, by omega, by go_num, rfl, by rw [HPM.out, AT.out, ← Bool.or_assoc, ← HB4.out]; simp [LK'.out], N6.trans Mor.out⟩
                          case measure => simp [intOf]; omega
                        · have t3 : (po != go_) = true := by simp [q3]
                          have LK' := Lib.hid (LK.out.trans (show _ = true by simp [q1, q2, q3]))
                          clear q1 q2 q3 LK
                          --@@ f2
                          go_upto_region 37 with (fail)
                          first | (refine wp_region_mo (by kernel_rfl) (by kernel_rfl) ?_) | (refine wp_region_mo' (by kernel_rfl) (by kernel_rfl) ?_)
                          repeat (go_big_quiet_step (fail))
                          refine wpQuiet_nil ?_
                          intro _ hw'
                          obtain ⟨⟨J9, d9⟩, hw''⟩ := hw'
                          subst hw''
                          go_wp2_with fail
                          go_roundw
                          case rel => exact ⟨i + 1, true, by omega, by go_num, rfl, by rw [HPM.out, AT.out, ← Bool.or_assoc, ← HB4.out]; simp [LK'.out], N6.trans Mor.out⟩
                          case measure => simp [intOf]; omega
                      · have t2 : (pd == gd) = false := by simp [q2]
                        have LK' := Lib.hid (LK.out.trans (show _ = false by simp [q2]))
                        clear q1 q2 LK
                        --@@ f3
                        go_upto_region 37 with (fail)
                        first | (refine wp_region_mo (by kernel_rfl) (by kernel_rfl) ?_) | (refine wp_region_mo' (by kernel_rfl) (by kernel_rfl) ?_)
                        repeat (go_big_quiet_step (fail))
                        refine wpQuiet_nil ?_
                        intro _ hw'
                        obtain ⟨⟨J9, d9⟩, hw''⟩ := hw'
                        subst hw''
                        go_wp2_with fail
                        go_roundw
                        case rel => exact ⟨i + 1, false, by omega, by go_num, rfl, by rw [HPM.out, AT.out, ← Bool.or_assoc, ← HB4.out]; simp [LK'.out], N6.trans Mor.out⟩
                        case measure => simp [intOf]; omega
                    · have t1 : (sp == sg) = false := by simp [q1]
                      have LK' := Lib.hid (LK.out.trans (show _ = false by simp [q1]))
                      clear q1 LK
                      --@@ f4
                      go_upto_region 37 with (fail)
                      first | (refine wp_region_mo (by kernel_rfl) (by kernel_rfl) ?_) | (refine wp_region_mo' (by kernel_rfl) (by kernel_rfl) ?_)
                      repeat (go_big_quiet_step (fail))
                      refine wpQuiet_nil ?_
                      intro _ hw'
                      obtain ⟨⟨J9, d9⟩, hw''⟩ := hw'
                      subst hw''
                      go_wp2_with fail
                      go_roundw
                      case rel => exact ⟨i + 1, false, by omega, by go_num, rfl, by rw [HPM.out, AT.out, ← Bool.or_assoc, ← HB4.out]; simp [LK'.out], N6.trans Mor.out⟩
                      case measure => simp [intOf]; omega
                · obtain rfl : r = i := by omega
                  have e4 : b4 = (b || (lg.drop (m + 1)).any fun p => likeP p lg[m]) := by
                    rw [HB4.out, List.take_of_length_le (by rw [HRL.out]; exact Nat.le_refl _), List.any_reverse]
                  have HS4 := Lib.hid (HS.out.step hml e4)
                  have HO8 := Lib.hid (owns_mo HOB.out hM8)
                  have x0' : w8.cell? ⟨gi, oi + m * 4, none⟩ = some (.int .u8 gs) := by rw [hM8.cell]; exact x0
                  have x1' : w8.cell? ⟨gi, oi + m * 4 + 1, none⟩ = some (.int .u8 gon) := by rw [hM8.cell]; exact x1
                  have x2' : w8.cell? ⟨gi, oi + m * 4 + 2, none⟩ = some (.int .i32 go_) := by rw [hM8.cell]; exact x2
                  have x3' : w8.cell? ⟨gi, oi + m * 4 + 3, none⟩ = some (.int .i32 gd) := by rw [hM8.cell]; exact x3
                  have zi' : LtW gi w8 := LtW.of_cell x0'
                  have N8 := Lib.hid (hM7.trans hM8)
                  have sz8 : w6.heap.size ≤ w8.heap.size := N8.out.size
                  have eD : Hid (ptL (lg.drop m).reverse = ptL (lg.drop (m + 1)).reverse ++ ptC ⟨gs, gon, go_, gd⟩) := Lib.hid (by rw [List.drop_eq_getElem_cons hml, List.reverse_cons, ptL_snoc, HPM.out])
                  clear e4 x0 x1 x2 x3 zi hM8 hM7 HS HOB HB4 HPB
                  --@@ r39
                  go_wp2_with (at_builtin; refine wpList_append_own _ rfl _ _ 56 rfl w6.heap.size 58 tp2 (.agg #[.int .u8 0, .int .u8 0, .int .i32 0, .int .i32 0]) 4 12 Try.underlying56 hip2 hq0 hq1 hq2 rfl (by decide) _ _ _ rfl (owns_mo HO8.out (Mor.out : Mo w8 _)) ⟨w8.heap.size, 0, none⟩ 1 1 (ptC ⟨gs, gon, go_, gd⟩) rfl rfl ?f1 ?f2 ?f3 ?f4 ?f5 ?_)
                  case f1 => exact news_of_blk (t := 58) (cs := #[.int .u8 gs, .int .u8 gon, .int .i32 go_, .int .i32 gd]) inferInstance _ rfl
                  case f2 => intro u hu; simp [ptC] at hu; rcases hu with rfl | rfl | rfl | rfl <;> rfl
                  case f3 => unfold maxLen; omega
                  case f4 => omega
                  case f5 => simp; omega
                  intro vb' w9 hown9 hgrow9 _
                  have M9 := Lib.hid (mo_grown (N8.out.trans Mor.out) hgrow9 (fun k e => (HO8.out.lt k e).1))
                  have HO9 := Lib.hid hown9
                  clear hown9 hgrow9
                  --@@ r33
                  go_wp2_with fail
                  go_roundw
                  case rel => exact ⟨m, b4, by omega, by go_num, rfl, HS4.out, by rw [eD.out, show ni - m = r + 1 by have := HRr.out; omega]; exact owns_mo HO9.out Mor.out, M9.out.trans Mor.out⟩
                  case measure => simp [intOf]
            | zero =>
              have d5 : decide ((0 : Int) ≤ ((0 : Nat) : Int) - 1) = false := by decide
              have HOR := HO.out
              rw [Nat.sub_zero, List.drop_zero] at HOR
              rw [Nat.sub_zero]
              have hrl : lg.reverse.length = ni := by rw [List.length_reverse, HNI.out]
              have okr : ∀ p ∈ lg.reverse, PtOk p ∧ p.on = 0 := fun p hp => HOK.out.2 p (List.mem_reverse.1 hp)
              obtain ⟨Ab', cb', evb, PB⟩ := own_puts HOR hrl (by omega) fun p hp => (okr p hp).1
              obtain ⟨rfl, rfl⟩ : Ab = Ab' ∧ cb = cb' := by injection evb with q1 q2 q3; exact ⟨q1, q3⟩
              have GB := Lib.hid (fun w h => GN.out Ab cb lg.reverse gn w h (by omega) n0 n1000)
              rw [hrl] at GB
              have HPB := Lib.hid PB
              have HRV := Lib.hid (go_one gn lg.reverse (fun p hp => (okr p hp).2) (fun e => HOK.out.1 (List.reverse_eq_nil_iff.1 e)))
              have y77 : w7.cell? ⟨g8, k, none⟩ = some (.int .i64 gn) := by
                have : LtW g8 w6 := LtW.of_cell y76
                rw [hM7.cell]; exact y76
              have z87 : LtW g8 w7 := LtW.of_cell y77
              have M67 := Lib.hid (M6.out.trans hM7)
              clear HOR HO hrl okr evb PB hM7 GNI GN
              --@@ back
              go_wp2_with fail
              refine (GB.out _ (HPB.out.mo Mor.out)).mono ?_
              rintro e w8 ⟨v13, Es2, CL2, rfl, B2, TG2, M8⟩
              rw [HRV.out] at TG2
              obtain ⟨E2, rfl, T2⟩ := TG2.one
              have M8' : Mo wr w8 := M67.out.trans ((Mor.out : Mo w7 _).trans M8)
              obtain ⟨g2, c2, A2, k3, D2, k4, ev2, L1, L2, LD2⟩ := B2.get 0 (by simp)
              subst ev2
              simp only [List.getElem_cons_zero, Nat.zero_mul, List.length_singleton] at L1 L2 LD2 ⊢
              have HN8 := Lib.hid (HM2.out.trans M8')
              cases b with
              | true =>
                clear L1 L2 LD2 T2 B2 TG2 HS M8
                --@@ r41t
                go_upto_region 41 with (fail)
                first | (refine wp_region_mo (by kernel_rfl) (by kernel_rfl) ?_) | (refine wp_region_mo' (by kernel_rfl) (by kernel_rfl) ?_)
                repeat (go_big_quiet_step (fail))
                refine wpQuiet_nil ?_
                intro _ hw'
                obtain ⟨⟨J9, d9⟩, hw''⟩ := hw'
                subst hw''
                go_wp2_with fail
                go_roundw
                case rel => exact ⟨k + 1, by omega, by go_num, HN8.out.trans Mor.out⟩
                case measure => simp [intOf]; omega
              | false =>
                obtain rfl : E = E2 := told_back (fun p hp => (HOK.out.2 p hp).1) (HS.out.no rfl) HT0.out T2
                have lds1 := fun J d => LD2 (more w8 J d) Mor.out
                have lds0 := fun J d => HLD.out (more w8 J d) (M8'.trans Mor.out)
                have SM := Lib.hid (fun w (m : Mo w8 w) => same35_any E _ _ w ⟨A2, k3, D2, k4, rfl, L1.mo m, L2.mo m⟩ ⟨A0, c0, D0, d0, rfl, HJ1.out.mo (M8'.trans m), HJ2.out.mo (M8'.trans m)⟩ HLEN.out.1 HLEN.out.2)
                clear L1 L2 LD2 T2 B2 TG2 HS M8
                --@@ r41f
                go_upto_region 41 with (fail)
                first | (refine wp_region_mo (by kernel_rfl) (by kernel_rfl) ?_) | (refine wp_region_mo' (by kernel_rfl) (by kernel_rfl) ?_)
                repeat (go_big_quiet_step (first | (with_reducible exact quiet_mo (SM.out _ Mor.out))))
                refine wpQuiet_nil ?_
                intro _ hw'
                obtain ⟨⟨J9, d9⟩, hw''⟩ := hw'
                subst hw''
                go_wp2_with fail
                go_roundw
                case rel => exact ⟨k + 1, by omega, by go_num, HN8.out.trans Mor.out⟩
                case measure => simp [intOf]; omega
        · obtain rfl : G.length = k := by omega
          clear GN
          --@@ works
          go_wp2_with fail
          refine (WK.out _).mono ?_
          rintro e w9 ⟨rfl, M9⟩
          go_wp2_with fail
          go_ret
          exact ⟨rfl, (N1.trans (HM.out.trans hM2)).trans ((Mor.out : Mo wr _).trans (M9.trans Mor.out))⟩
end Go.Proofs.Ytdgmcgfkammioaa
