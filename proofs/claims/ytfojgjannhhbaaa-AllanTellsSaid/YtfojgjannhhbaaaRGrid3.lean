/- horologeref32.Grid: Told. -/
import Derived.Test.YtfojgjannhhbaaaRGrid2
import Derived.BigRegion
namespace Go.Proofs.Ytfojgjannhhbaaa
open Go.RowKit

set_option maxRecDepth 20000 in
theorem off_at {w : World} {P base : Nat} {x o : Int} {M : List Slot} {vN vO vD : Value} (h : RG w P base x o M vN vO vD) (h0 : 0 < M.length) : ∃ g c cur, vO = .slice (some ⟨g, 0, none⟩) M.length c ∧ Blk w g 2 cur ∧ ∀ j, j < M.length → cur[j]? = some (.int .i64 (M.getD j slot0).off) := by
  obtain ⟨g, c, cur, e, _, B, _, hc⟩ := row_at h.off h0
  refine ⟨g, c, cur, e, B, fun j hj => ?_⟩
  rw [hc j (by rw [List.length_map]; exact hj)]
  simp [List.getD, List.getElem?_eq_getElem hj]
set_option maxRecDepth 20000 in
theorem getD_mem {M : List Slot} {j : Nat} (hj : j < M.length) : M.getD j slot0 ∈ M := by
  rw [List.getD, List.getElem?_eq_getElem hj]
  exact List.getElem_mem _
set_option maxRecDepth 20000 in
theorem con_none1 {k : Nat} {L : List Slot} {s : Slot} (h : lk L (s.num - 2 ^ k) = none) : con k L s = (0, 0) := by unfold con; rw [h]
set_option maxRecDepth 20000 in
theorem con_none2 {k : Nat} {L : List Slot} {s : Slot} (h : lk L (s.num - 2 * 2 ^ k) = none) : con k L s = (0, 0) := by
  unfold con
  rw [h]
  cases lk L (s.num - 2 ^ k) <;> rfl
set_option maxRecDepth 20000 in
theorem con_some {k : Nat} {L : List Slot} {s a b : Slot} (h1 : lk L (s.num - 2 ^ k) = some a) (h2 : lk L (s.num - 2 * 2 ^ k) = some b) : con k L s = (1, (s.off - a.off - a.off + b.off) * (s.off - a.off - a.off + b.off)) := by
  unfold con
  rw [h1, h2]
  simp only
  rw [show s.off - 2 * a.off + b.off = s.off - a.off - a.off + b.off by omega]
set_option maxRecDepth 20000 in
theorem sumN_zero (k : Nat) (M : List Slot) (i : Nat) (h : con k (M.take i) (M.getD i slot0) = (0, 0)) : sumN k M (i + 1) = sumN k M i := by
  rw [sumN, h]
  simp
set_option maxRecDepth 20000 in
theorem sumN_one (k : Nat) (M : List Slot) (i : Nat) (d : Int) (h : con k (M.take i) (M.getD i slot0) = (1, d * d)) : sumN k M (i + 1) = ((sumN k M i).1 + 1, (sumN k M i).2 + d * d) := by
  rw [sumN, h]
set_option maxRecDepth 20000 in
theorem owns_kp {w w' : World} {b sz n : Nat} {e : TypeId} {v : Value} {xs : List Value} {S : Nat → Prop} (h : w.ownsRow b e sz v n xs) (k : KpS S w w') (ns : ∀ g, v.ownBlock = some g → ¬ S g) : w'.ownsRow b e sz v n xs := by
  refine ⟨h.1, ?_⟩
  rcases h.2 with hn | ⟨g, cap, cur, rfl, hb, hg, rest⟩
  · exact .inl hn
  · exact .inr ⟨g, cap, cur, rfl, hb, (k.block g (Array.getElem?_eq_some_iff.1 hg).1 (ns g rfl)).trans hg, rest⟩
set_option maxRecDepth 20000 in
theorem taus_succ (M : List Slot) (k : Nat) : taus M (k + 1) = taus M k ++ [tauN M k] := by unfold taus; rw [List.range_succ, List.map_append]; rfl
attribute [local go_sem] blk_cell' blk_frozen'
set_option maxRecDepth 20000 in
set_option maxHeartbeats 16000000 in
theorem rtold_any (P base o : Nat) (x : Int) (M : List Slot) (vN vO vD : Value) (W : World) (hG : RG W P base x o M vN vO vD) (hF : ∀ s ∈ M, Fine s) (hr : Rises M) (hl : M.length ≤ 1000) (ho : o ≤ 10) :
    Calls Try.prog 16 #[.pointer (some ⟨P, 0, none⟩)] W (ToldRet (taus M o) W) := by
  obtain ⟨PO, hPO⟩ : ∃ Q, ToldRet (taus M o) W = Q := ⟨_, rfl⟩
  rw [hPO]
  have RR := Lib.hid hPO
  clear hPO
  have HG := Lib.hid hG
  obtain ⟨AN, cN, eN⟩ := row_sl hG.n
  subst eN
  have bP := hG.g
  obtain ⟨N, hN⟩ : ∃ N, M.length = N := ⟨_, rfl⟩
  have HN := Lib.hid hN
  have FI := Lib.hid hF
  have BH := Lib.hid (fun (j : Nat) (m : Int) (hj : j < M.length) (m1 : 1 ≤ m) (m2 : m ≤ 1048576) w (K : Mo W w) => behind_any P base x o M _ vO vD j m w (hG.mo K) hF hr hj hl m1 m2)
  have SB := Lib.hid (fun k n hn => sumN_bd k M hF n hn)
  have O0 := Lib.hid (fun w => rof_any 0 (by decide) (by decide) w)
  rw [show decide ((0 : Int) < 0) = false by decide, show absI 0 = 0 by decide] at O0
  rw [hN] at hl bP
  clear hG hN hr hF
  obtain ⟨i0, hi0, hz0, hz1, hz2⟩ := info_parts infoTau
  go_enter Try.func16, Try.ntmps16
  go_wp2_with fail
  go_loopw [3, 4, 5] (fun v s4 s5 wr => ∃ k : Nat, k ≤ o ∧ s5 = .int .i64 k ∧ s4 = .int .i64 ((2 ^ k : Nat) : Int) ∧ wr.ownsRow W.heap.size 48 5 v k (tauRow (taus M k)) ∧ Mo W wr) (fun _ _ s _ => o - (intOf s).toNat)
  case atStart => exact ⟨0, by omega, rfl, rfl, ⟨rfl, .inl ⟨rfl, rfl⟩⟩, Mo.refl _⟩
  case round =>
    obtain ⟨k, hk, rfl, rfl, hown, hM⟩ := hrel
    have OW := Lib.hid hown
    clear hown
    have BQ := hM.blk bP
    have hp : (2 : Nat) ^ k ≤ 1024 := Nat.le_trans (Nat.pow_le_pow_right (by decide) (by omega : k ≤ 10)) (by decide)
    have hp1 : 1 ≤ (2 : Nat) ^ k := Nat.one_le_two_pow
    have hs : (2 : Nat) ^ (k + 1) = 2 * 2 ^ k := by rw [Nat.pow_succ]; omega
    obtain ⟨q, hq⟩ : ∃ q : Nat, 2 ^ k = q := ⟨_, rfl⟩
    have pk : (2 : Int) ^ k = (q : Int) := by rw [← hq]; simp
    rw [hq] at hp hp1 hs ⊢
    by_cases ck : k < o
    · have d0 : decide ((k : Int) < o) = true := decide_eq_true (by omega)
      have w2 : IntKind.i64.wrap (2 * (q : Int)) = 2 * q := by rw [IntKind.wrap_i64]; omega
      have HS := Lib.hid hs
      have HPK := Lib.hid pk
      clear hq hs pk
      go_wp2_with fail
      refine (O0.out _).mono ?_
      rintro e w1 ⟨rfl, M1⟩
      have N1 := hM.trans ((Mor.out : Mo wr _).trans M1)
      have T1 : Blk w1 wr.heap.size 48 #[.int .i64 (q : Int), .int .i64 0, .int .i64 0, .int .u64 0, .int .u64 0] := M1.blk inferInstance
      have OW1 := Lib.hid (owns_mo OW.out ((Mor.out : Mo wr _).trans M1))
      obtain ⟨g6, hg6⟩ : ∃ g, wr.heap.size = g := ⟨_, rfl⟩
      have hg6W : W.heap.size ≤ g6 := by rw [← hg6]; exact hM.size
      rw [hg6] at T1
      have hO6 : Hid (∀ b, u3.ownBlock = some b → b < g6) := Lib.hid (by rw [← hg6]; exact fun b e => (OW.out.lt b e).2)
      rw [hg6]
      clear M1 OW hM hg6 BQ
      go_upto_region 8 with (fail)
      refine wp_name ?_
      intro wS hwS
      have S6 : Blk wS g6 48 #[.int .i64 (q : Int), .int .i64 0, .int .i64 0, .int .u64 0, .int .u64 0] := by rw [hwS]; infer_instance
      have S7 : Blk wS w1.heap.size 73 (numC false (lim 0)) := by rw [hwS]; infer_instance
      have NS : Mo W wS := by rw [hwS]; exact N1.trans Mor.out
      have OWS := Lib.hid (show wS.ownsRow W.heap.size 48 5 u3 k (tauRow (taus M k)) by rw [hwS]; exact owns_mo OW1.out Mor.out)
      have L67 : g6 < w1.heap.size := T1.lt
      clear hwS T1 N1 OW1
      obtain ⟨g7, hg7⟩ : ∃ g, w1.heap.size = g := ⟨_, rfl⟩
      rw [hg7] at S7 L67 ⊢
      clear hg7 w1
      go_wp2_with fail
      go_loopw [8] (fun s8 w => ∃ (i : Nat) (sg : Bool), sg = false ∧ i ≤ N ∧ s8 = .int .i64 i ∧ Sg sg (sumN k M i).2 ∧ Blk w g6 48 #[.int .i64 (q : Int), .int .i64 (sumN k M i).1, .int .i64 0, .int .u64 0, .int .u64 0] ∧ Blk w g7 73 (numC sg (lim (absI (sumN k M i).2))) ∧ KpS (fun b => b = g6 ∨ b = g7) wS w) (fun s _ => N - (intOf s).toNat)
      case atStart => exact ⟨0, false, rfl, by omega, rfl, Sg.pos (by show (0 : Int) ≤ 0; omega), S6, S7, KpS.refl _ _⟩
      case round =>
        clear S6 S7
        obtain ⟨i, sg, esg, hi, rfl, hsg, B6, B7, hK⟩ := hrel
        have ES := Lib.hid esg
        clear esg
        have MW : Mo W wr := hK.mo NS (fun b _ e => by omega)
        have BQ := MW.blk bP
        have sb := SB.out k i (by rw [HN.out]; exact hi)
        by_cases ci : i < N
        · have H1 := Lib.hid (BH.out i q (by rw [HN.out]; exact ci) (by omega) (by omega) wr MW)
          have H2 := Lib.hid (fun w (K : Mo W w) => BH.out i (2 * q) (by rw [HN.out]; exact ci) (by omega) (by omega) w K)
          have di : decide ((i : Int) < N) = true := decide_eq_true (by omega)
          go_wp2_with fail
          refine H1.out.mono ?_
          rintro e w2' ⟨⟨r1, rfl, h1⟩, M2⟩
          have MW2 := MW.trans M2
          have B62 := M2.blk B6
          have B72 := M2.blk B7
          have K2 := hK.trans (KpS.of_mo (S := fun b => b = g6 ∨ b = g7) M2) fun _ _ e => e
          have h1' := Lib.hid h1
          clear h1 H1 B6 B7 hK M2 MW BQ
          go_wp2_with fail
          refine (H2.out _ MW2).mono ?_
          rintro e w3 ⟨⟨r2, rfl, h2⟩, M3⟩
          have MW3 := MW2.trans M3
          have B63 := M3.blk B62
          have B73 := M3.blk B72
          have BQ := MW3.blk bP
          have K3 := K2.trans (KpS.of_mo (S := fun b => b = g6 ∨ b = g7) M3) fun _ _ e => e
          have h2' := Lib.hid h2
          clear h2 H2 B62 B72 K2 M3 MW2
          rcases h1'.out with ⟨rfl, l1⟩ | ⟨a, ha, rfl, l1⟩
          · rw [← HPK.out] at l1
            have Z := Lib.hid (sumN_zero k M i (con_none1 l1))
            clear l1 h1' h2'
            go_wp2_with fail
            go_roundw
            case rel => exact ⟨i + 1, sg, ES.out, by omega, by go_num, by rw [Z.out]; exact hsg, by rw [Z.out]; exact B63, by rw [Z.out]; exact B73, K3⟩
            case measure => simp [intOf]; omega
          · have da : decide ((a : Int) < 0) = false := decide_eq_false (by omega)
            rcases h2'.out with ⟨rfl, l2⟩ | ⟨b, hb, rfl, l2⟩
            · rw [← HPK.out] at l2
              have Z := Lib.hid (sumN_zero k M i (con_none2 l2))
              clear l1 l2 h1' h2'
              go_wp2_with fail
              go_roundw
              case rel => exact ⟨i + 1, sg, ES.out, by omega, by go_num, by rw [Z.out]; exact hsg, by rw [Z.out]; exact B63, by rw [Z.out]; exact B73, K3⟩
              case measure => simp [intOf]; omega
            · have db : decide ((b : Int) < 0) = false := decide_eq_false (by omega)
              rw [← HPK.out] at l1 l2
              have CS := con_some l1 l2
              obtain ⟨g, c', cur, e1, BO, hc⟩ := off_at (HG.out.mo MW3) (by rw [HN.out]; omega)
              rw [HN.out] at e1 hc
              subst e1
              have yi := hc i ci
              have ya := hc a (by omega)
              have yb := hc b (by omega)
              have ni := (FI.out _ (getD_mem (M := M) (j := i) (by rw [HN.out]; omega))).near
              have na := (FI.out _ (getD_mem (M := M) (j := a) (by rw [HN.out]; omega))).near
              have nb := (FI.out _ (getD_mem (M := M) (j := b) (by rw [HN.out]; omega))).near
              obtain ⟨oi, hoi⟩ : ∃ z, (M.getD i slot0).off = z := ⟨_, rfl⟩
              obtain ⟨oa, hoa⟩ : ∃ z, (M.getD a slot0).off = z := ⟨_, rfl⟩
              obtain ⟨ob, hob⟩ : ∃ z, (M.getD b slot0).off = z := ⟨_, rfl⟩
              rw [hoi] at yi ni CS
              rw [hoa] at ya na CS
              rw [hob] at yb nb CS
              obtain ⟨n1, n2⟩ := ni
              obtain ⟨n3, n4⟩ := na
              obtain ⟨n5, n6⟩ := nb
              have e1 : IntKind.i64.wrap (oi - oa) = oi - oa := by rw [IntKind.wrap_i64]; omega
              have e2 : IntKind.i64.wrap (oi - oa - oa) = oi - oa - oa := by rw [IntKind.wrap_i64]; omega
              obtain ⟨d, hd⟩ : ∃ d, oi - oa - oa + ob = d := ⟨_, rfl⟩
              have e3 : IntKind.i64.wrap (oi - oa - oa + ob) = d := by rw [← hd, IntKind.wrap_i64]; omega
              have db1 : -562949953421312 ≤ d := by omega
              have db2 : d ≤ 562949953421312 := by omega
              rw [hd] at CS
              have Z := Lib.hid (sumN_one k M i d CS)
              have OFd := Lib.hid (fun w => rof_any d (by omega) (by omega) w)
              have LP : LtW P w3 := ⟨BQ.lt⟩
              have Lg : LtW g w3 := ⟨BO.lt⟩
              have f1 : wrap64 (oi - oa) = oi - oa := by unfold wrap64; omega
              have f2 : wrap64 (oi - oa - oa) = oi - oa - oa := by unfold wrap64; omega
              have b1 : (0 : Int) ≤ i := by omega
              have b2 : (i : Int) < N := by omega
              have b3 : (0 : Int) ≤ a := by omega
              have b4 : (a : Int) < N := by omega
              have b5 : (0 : Int) ≤ b := by omega
              have b6 : (b : Int) < N := by omega
              clear hoi hoa hob n1 n2 n3 n4 n5 n6 CS l1 l2 h1' h2' hd hc
              go_upto_region 14 with (fail)
              go_cut [11] (fun s11 wx => ∃ g11, s11 = .pointer (some ⟨g11, 0, none⟩) ∧ Blk wx g11 73 (numC (decide (d < 0)) (lim (absI d))) ∧ Mo w3 wx)
              case first =>
                as_aux_lemma =>
                go_region_held3 (fun w' => MoC w3 w') (first | exact ⟨Mor.out⟩ | exact ⟨M39⟩ | exact ⟨M39.trans Mor.out⟩ | exact ⟨mo_setRow M39 (Nat.le_refl _) _⟩)
                  (first
                  | ((with_reducible refine (OFd.out _).mono ?_)
                     rintro e w9 ⟨rfl, M9⟩
                     have M39 := (Mor.out : Mo w3 _).trans M9
                     have iM9 : MoC _ w9 := ⟨M9⟩))
                all_goals (
                  go_wp2_with fail
                  go_meet
                  refine ⟨_, rfl, ?_, ?_⟩
                  · first
                      | infer_instance
                      | exact blk_setRow (M9.blk (by infer_instance))
                  · first
                      | exact M39.trans Mor.out
                      | exact mo_setRow M39 (Nat.le_refl _) _)
              obtain ⟨g11, rfl, B11, M11⟩ := hcut
              have MW11 := MW3.trans M11
              have B6x := M11.blk B63
              have B7x := M11.blk B73
              have Kx := K3.trans (KpS.of_mo (S := fun b => b = g6 ∨ b = g7) M11) fun _ _ e => e
              clear M11 MW3 B63 B73 K3 BO f1 f2 b1 b2 b3 b4 b5 b6 e1 e2 e3 LP Lg OFd yi ya yb
              have ds : absI d ≤ 562949953421312 := by unfold absI; omega
              have d0 := absI_nonneg d
              have dd : absI d * absI d = d * d := by
                unfold absI
                split
                · rw [Int.neg_mul_neg]
                · rfl
              have d2 : 0 ≤ d * d := by rw [← dd]; exact Int.mul_nonneg d0 d0
              have d3 : d * d ≤ 316912650057057350374175801344 := by rw [← dd]; exact Int.le_trans (Int.mul_le_mul ds ds d0 (by omega)) (by omega)
              have MD := Lib.hid (fun w => rmul_any (decide (d < 0)) (decide (d < 0)) (absI d) (absI d) d0 (by omega) d0 (by rw [dd]; omega) w)
              rw [show (decide (d < 0) != decide (d < 0)) = false by cases decide (d < 0) <;> rfl, dd] at MD
              have s0 : absI (d * d) = d * d := by unfold absI; rw [if_neg (by omega)]
              have Hs := Lib.hid (addS_sg (c := false) hsg (Sg.pos d2))
              have AD := Lib.hid (fun w => radd_any sg false (sumN k M i).2 (d * d) hsg (Sg.pos d2) (by unfold absI; split <;> omega) (by rw [s0]; omega) w)
              rw [s0] at AD
              obtain ⟨s, hs⟩ : ∃ s, (sumN k M i).2 = s := ⟨_, rfl⟩
              rw [hs] at B7x AD Hs Z
              obtain ⟨n, hn⟩ : ∃ n, (sumN k M i).1 = n := ⟨_, rfl⟩
              rw [hn] at B6x Z sb
              have n1 : IntKind.i64.wrap (n + 1) = n + 1 := by rw [IntKind.wrap_i64]; omega
              clear hs hn sb ds d0 dd d2 d3 s0 db1 db2 hsg
              rename World => Wb
              go_upto_region 15 with (fail)
              refine wp_region_mo_tail 5 (by kernel_rfl) (by kernel_rfl) ?_
              simp only [List.take_succ_cons, List.take_zero, List.drop_succ_cons, List.drop_zero]
              repeat (go_big_quiet_step (first | (with_reducible exact quiet_mo (MD.out _)) | (with_reducible exact quiet_mo (AD.out _))))
              refine wpQuiet_nil ?_
              intro _ hw'
              obtain ⟨⟨J2, d2⟩, hw''⟩ := hw'
              subst hw''
              go_upto_region 16 with (fail)
              refine wp_name ?_
              intro wY hwY
              have B6y : Blk wY g6 48 #[.int .i64 (q : Int), .int .i64 n, .int .i64 0, .int .u64 0, .int .u64 0] := by
                have := blk_setRow_ne (cs' := numC (addS sg false s (d * d)) (lim (absI (s + d * d)))) B6x (show g7 ≠ g6 by omega)
                rw [hwY]
                infer_instance
              have B7y : Blk wY g7 73 (numC (addS sg false s (d * d)) (lim (absI (s + d * d)))) := by
                have := blk_setRow (cs' := numC (addS sg false s (d * d)) (lim (absI (s + d * d)))) B7x
                rw [hwY]
                infer_instance
              have Ky : KpS (fun b => b = g6 ∨ b = g7) wS wY := by
                rw [hwY]
                exact (Kx.row (g := g7) (.inr rfl) (numC (addS sg false s (d * d)) (lim (absI (s + d * d))))).trans (KpS.of_mo (S := fun b => b = g6 ∨ b = g7) Mor.out) fun _ _ e => e
              clear hwY B6x B7x Kx MW11 B11 AD MD
              go_wp2_with fail
              go_roundw
              case rel =>
                refine ⟨i + 1, addS sg false s (d * d), by rw [ES.out]; rfl, by omega, by go_num, by rw [Z.out]; exact Hs.out, ?_, ?_, ?_⟩
                · rw [Z.out]
                  exact blk_setCell B6y 1 _
                · rw [Z.out]
                  exact blk_setCell_ne B7y (show g6 ≠ g7 by omega) 1 _
                · exact Ky.cell (g := g6) (.inl rfl) 1 _
              case measure => simp [intOf]; omega
        · have ei : i = N := by omega
          subst ei
          have di : decide ((i : Int) < i) = false := decide_eq_false (by omega)
          have WDE := Lib.hid (fun w => rwide_any sg (sumN k M i).2 hsg (by unfold absI; split <;> omega) w)
          rw [cl_in (show InW (sumN k M i).2 by unfold InW; omega)] at WDE
          go_wp2_with fail
          refine (WDE.out _).mono ?_
          rintro e wV ⟨rfl, MV⟩
          have B6v := MV.blk B6
          have B7v := MV.blk B7
          have Kv := hK.trans (KpS.of_mo (S := fun b => b = g6 ∨ b = g7) MV) fun _ _ e => e
          have TN : Hid (∃ s n, (sumN k M i).2 = s ∧ (sumN k M i).1 = n) := Lib.hid ⟨_, _, rfl, rfl⟩
          obtain ⟨s, n, hs, hn⟩ := TN.out
          rw [hs] at B7v hsg sb ⊢
          rw [hn] at B6v sb
          clear WDE B6 B7 hK MV MW BQ TN
          go_upto_region 18 with (fail)
          obtain rfl := ES.out
          refine wp_name ?_
          intro wZ hwZ
          have B6z : Blk wZ g6 48 #[.int .i64 (q : Int), .int .i64 n, .int .i64 (hiW s), .int .u64 (loW s), .int .u64 0] := by
            rw [hwZ]
            exact blk_setCell (blk_setCell B6v 2 _) 3 _
          have B7z : Blk wZ g7 73 (numC false (lim (absI s))) := by
            rw [hwZ]
            exact blk_setCell_ne (blk_setCell_ne B7v (show g6 ≠ g7 by omega) 2 _) (show g6 ≠ g7 by omega) 3 _
          have Kz : KpS (fun b => b = g6 ∨ b = g7) wS wZ := by
            rw [hwZ]
            exact (Kv.cell (g := g6) (.inl rfl) 2 _).cell (g := g6) (.inl rfl) 3 _
          have TK : Hid (tauN M k = ⟨q, n, s, devT n s⟩) := Lib.hid (by unfold tauN; rw [HN.out, hs, hn, HPK.out])
          clear hwZ B6v B7v Kv hs hn
          go_upto_if 93 with (fail)
          go_cut [6] (fun s6 wx => s6 = .pointer (some ⟨g6, 0, none⟩) ∧ Blk wx g6 48 (tauC (tauN M k)) ∧ KpS (fun b => b = g6 ∨ b = g7) wS wx)
          case first =>
            as_aux_lemma =>
            by_cases cp : 0 < n
            · have dp : decide (0 < n) = true := decide_eq_true cp
              have w2n : IntKind.i64.wrap (2 * n) = 2 * n := by rw [IntKind.wrap_i64]; omega
              have OF2 := Lib.hid (fun w => rof_any (2 * n) (by omega) (by omega) w)
              rw [show decide (2 * n < 0) = false from decide_eq_false (by omega), show absI (2 * n) = 2 * n by unfold absI; rw [if_neg (by omega)]] at OF2
              have FL := Lib.hid (fun w => rfloor_any false s (2 * n) hsg (by unfold absI; split <;> omega) (by omega) (by omega) w)
              have q0 : 0 ≤ s / (2 * n) := Int.ediv_nonneg sb.2.2.1 (by omega)
              rw [show absI (s / (2 * n)) = s / (2 * n) by unfold absI; rw [if_neg (by omega)]] at FL
              have RT := Lib.hid (fun w => rroot_any (s / (2 * n)) (inW_div (show InW s by unfold InW; omega) (by omega)) q0 w)
              have DV := Lib.hid (divpos n s cp)
              clear q0
              go_wp2_with fail
              refine wp_region_mo_tail 8 (by kernel_rfl) (by kernel_rfl) ?_
              simp only [List.take_succ_cons, List.take_zero, List.drop_succ_cons, List.drop_zero]
              repeat (go_big_quiet_step (first | (with_reducible exact quiet_mo (OF2.out _)) | (with_reducible exact quiet_mo (FL.out _)) | (with_reducible exact quiet_mo (RT.out _))))
              refine wpQuiet_nil ?_
              intro _ hw'
              obtain ⟨⟨J2, d2⟩, hw''⟩ := hw'
              subst hw''
              go_wp2_with fail
              go_meet
              refine ⟨rfl, ?_, ?_⟩
              · have := blk_setCell B6z 4 (.int .u64 (rootV (s / (2 * n))))
                rw [TK.out, DV.out]
                first
                  | exact (Mor.out : Mo (wZ.setCell ⟨g6, 4, none⟩ (.int .u64 (rootV (s / (2 * n))))) _).blk this
                  | (simp only [go_sem]; infer_instance)
              · exact (Kz.cell (g := g6) (.inl rfl) 4 (.int .u64 (rootV (s / (2 * n))))).trans (KpS.of_mo (S := fun b => b = g6 ∨ b = g7) Mor.out) fun _ _ e => e
            · have DV := Lib.hid (divzero n s cp)
              have dp : decide (0 < n) = false := decide_eq_false cp
              go_wp2_with fail
              go_meet
              refine ⟨rfl, ?_, Kz⟩
              rw [TK.out, DV.out]
              exact B6z
          obtain ⟨rfl, BX, KX⟩ := hcut
          clear B6z B7z Kz hsg sb TK
          rename World => wX
          have hown : wX.ownsRow W.heap.size 48 5 u3 k (tauRow (taus M k)) := owns_kp OWS.out KX (fun g e => by
            have := hO6.out g e
            show ¬ (g = g6 ∨ g = g7)
            omega)
          have hMX : Mo W wX := KX.mo NS (fun b _ e => by omega)
          clear KX OWS hO6 NS
          go_wp2_with (at_builtin; refine wpList_append_own _ rfl _ _ 40 rfl W.heap.size 48 i0 (.agg (tauC ⟨0, 0, 0, 0⟩)) 5 40 Try.underlying40 hi0 hz0 hz1 hz2 rfl (by decide) _ _ _ rfl (owns_mo hown (Mor.out : Mo wX _)) _ 1 1 (tauL (tauN M k)) rfl rfl ?c1 ?c2 ?c3 ?c4 ?c5 ?_)
          try (case c1 => exact news_of_blk (cs := tauC (tauN M k)) (t := 48) (by infer_instance) _ rfl)
          case c2 => simp [Value.oneCell']
          case c3 => unfold maxLen; omega
          case c4 => omega
          case c5 =>
            first
              | exact Mo.size (hMX.trans Mor.out)
              | (have := hMX.size; first | omega | (simp; omega))
          intro v' w9 hown1 hgrow _
          have hM2 : Mo W w9 := by
            refine mo_grown ?_ hgrow (fun k e => (hown.lt k e).1)
            exact hMX.trans Mor.out
          have hown2 : w9.ownsRow W.heap.size 48 5 v' (k + 1) (tauRow (taus M (k + 1))) := by rw [taus_succ, tauRow_snoc]; exact hown1
          clear hown hown1 hgrow BX
          go_wp2_with fail
          go_roundw
          case rel => exact ⟨k + 1, by omega, by go_num, by rw [HS.out, show ((2 * q : Nat) : Int) = 2 * (q : Int) by omega], hown2, hM2⟩
          case measure => simp [intOf]; omega
    · have ek : k = o := by omega
      subst ek
      have d0 : decide ((k : Int) < k) = false := decide_eq_false (by omega)
      go_wp2_with fail
      rw [← RR.out]
      first
        | exact ⟨_, rfl, by rw [taus_len]; exact OW.out, hM⟩
        | (go_ret; exact ⟨_, rfl, by rw [taus_len]; exact OW.out, hM⟩)
end Go.Proofs.Ytfojgjannhhbaaa
