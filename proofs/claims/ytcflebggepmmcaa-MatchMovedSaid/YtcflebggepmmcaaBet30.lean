/- horologelaw30.MatchBetween returns true: the walk. -/
import Derived.Test.YtcflebggepmmcaaBetP
import Derived.Test.YtcflebggepmmcaaRuns30
namespace Go.Proofs.Ytcflebggepmmcaa
open Go.RowKit

set_option maxRecDepth 20000 in
theorem mod3 {x : Int} (h : 0 ≤ x ∧ x ≤ 255) : Int.tmod x 3 = 0 ∨ Int.tmod x 3 = 1 ∨ Int.tmod x 3 = 2 := by
  rw [Int.tmod_eq_emod_of_nonneg h.1]; omega
set_option maxRecDepth 20000 in
theorem runS_fits (win k : Int) (l : List Dg) (ok : ∀ d ∈ l, DgOk d) (byte : ∀ d ∈ l, ∀ c ∈ d.bs, 0 ≤ c ∧ c ≤ 255) : ∀ n, ∀ a ∈ runS win k l n, Fits (ksOf 45) a.toList
  | 0, a, h => by cases h
  | n + 1, a, h => by
    rw [runS] at h
    cases e : l[n]? with
    | none => rw [e] at h; exact runS_fits win k l ok byte n a h
    | some d =>
      rw [e] at h
      simp only at h
      split at h
      · rcases List.mem_append.1 h with h | h
        · exact runS_fits win k l ok byte n a h
        · rw [List.mem_singleton] at h
          rw [h]
          have hm := List.mem_of_getElem? e
          exact fits_smM (ok d hm) (by rw [classP_fst]; exact takeP_ok _ (byte d hm))
      · exact runS_fits win k l ok byte n a h
set_option maxRecDepth 20000 in
theorem DgsS.byte {W : World} {A : Option Addr} {cap : Nat} {l : List Dg} (h : DgsS W A cap l) : ∀ d ∈ l, ∀ c ∈ d.bs, 0 ≤ c ∧ c ≤ 255 := fun d hd => by
  obtain ⟨i, hi, rfl⟩ := List.getElem_of_mem hd
  obtain ⟨_, _, _, _, _, _, hb⟩ := h.get2 i hi
  exact hb.byte
attribute [local go_sem] blk_cell' blk_frozen' dg_at dg_b dg_src dg_dst
attribute [local go_sem ↓] loadF_dg storeF_dg' loadF_cnt storeF_cnt buildF_cnt loadF_samp storeF_samp buildF_samp eqlF_samp eqlF_cnt neqF_samp neqF_cnt buildDg_fold buildF_hd' buildF_pk
attribute [local go_sem] run_loadF0 run_storeF0 run_loadFo run_loadFz run_bd1 run_build_h6 run_build_pkD
set_option maxRecDepth 20000 in
set_option maxHeartbeats 16000000 in
theorem bet30_any (A A' : Option Addr) (cap cap' L L' : Nat) (l : List Dg) (ot : List Int) (K wn : Int) (W : World) (hL : l.length = L) (hL' : ot.length = L') (h : DgsS W A cap l) (h' : ByteS W A' cap' ot) (bK : 0 ≤ K ∧ K ≤ 255) (bw : 0 ≤ wn ∧ wn ≤ 4294967295) :
    Calls Try.prog 5 #[.slice A L cap, .int .u8 K, .int .u32 wn, .slice A' L' cap'] W fun e w' => e = .returned (.bool true) ∧ Mo W w' := by
  have GR := Lib.hid (fun w (m : Mo W w) => great_any A cap L l w hL (h.mo m))
  have WK := Lib.hid (fun w => works30_any w)
  obtain ⟨gb, hgb⟩ : ∃ b, GreatM l = b := ⟨_, rfl⟩
  rw [hgb] at GR
  by_cases big : gb = true ∨ 60 < L ∨ 60 < L'
  · have fin : ∀ w1, Mo W w1 → Hid (∀ w, Mo w1 w → Calls Try.prog 10 #[] w fun e w' => e = .returned (.bool true) ∧ Mo w w') := fun w1 _ => Lib.hid fun w _ => WK.out w
    go_enter Try.func5, Try.ntmps5
    go_wp2_with fail
    refine (GR.out _ Mor.out).mono ?_
    rintro e w1 ⟨rfl, M1⟩
    have N1 := (Mor.out : Mo W _).trans M1
    clear M1 GR h h' hL hL' hgb
    cases gb with
    | true =>
      clear big
      go_wp2_with fail
      refine (WK.out _).mono ?_
      rintro e w2 ⟨rfl, M2⟩
      go_wp2_with fail
      go_ret
      exact ⟨rfl, N1.trans ((Mor.out : Mo w1 _).trans (M2.trans Mor.out))⟩
    | false =>
      by_cases c1 : 60 < L
      · have d1 : decide (60 < (L : Int)) = true := decide_eq_true (by omega)
        clear big
        go_wp2_with fail
        refine (WK.out _).mono ?_
        rintro e w2 ⟨rfl, M2⟩
        go_wp2_with fail
        go_ret
        exact ⟨rfl, N1.trans ((Mor.out : Mo w1 _).trans (M2.trans Mor.out))⟩
      · have c2 : 60 < L' := by
          rcases big with q | q | q
          · cases q
          · omega
          · exact q
        have d1 : decide (60 < (L : Int)) = false := decide_eq_false (by omega)
        have d2 : decide (60 < (L' : Int)) = true := decide_eq_true (by omega)
        clear big
        go_wp2_with fail
        refine (WK.out _).mono ?_
        rintro e w2 ⟨rfl, M2⟩
        go_wp2_with fail
        go_ret
        exact ⟨rfl, N1.trans ((Mor.out : Mo w1 _).trans (M2.trans Mor.out))⟩
  · obtain rfl : gb = false := by
      cases gb with
      | true => exact absurd (.inl rfl) big
      | false => rfl
    have hl60 : L ≤ 60 := by omega
    have hl60' : L' ≤ 60 := by omega
    have d1 : decide (60 < (L : Int)) = false := decide_eq_false (by omega)
    have d2 : decide (60 < (L' : Int)) = false := decide_eq_false (by omega)
    have d1' : decide (60 < L) = false := decide_eq_false (by omega)
    have d2' : decide (60 < L') = false := decide_eq_false (by omega)
    have HD := Lib.hid h
    have HL := Lib.hid hL
    have HO := Lib.hid h'
    have HL' := Lib.hid hL'
    obtain ⟨room, hroom⟩ : ∃ r, 1 + K = r := ⟨_, rfl⟩
    have rm : 1 ≤ room ∧ room ≤ 65536 := by omega
    have wK : IntKind.i64.wrap K = K := by rw [IntKind.wrap_i64]; omega
    have wK1 : IntKind.i64.wrap (1 + K) = room := by rw [IntKind.wrap_i64]; omega
    have wW : IntKind.i64.wrap wn = wn := by rw [IntKind.wrap_i64]; omega
    have cw : 0 ≤ wn ∧ wn ≤ 1152921504606846976 := by omega
    obtain ⟨i0, z0, hi, hz0, hz1, hz2, hz3⟩ := info_dg39
    clear h h' hL hL' big hgb
    go_enter Try.func5, Try.ntmps5
    go_wp2_with fail
    refine (GR.out _ Mor.out).mono ?_
    rintro e w1 ⟨rfl, M1⟩
    have N1 := (Mor.out : Mo W _).trans M1
    clear M1 GR
    go_wp2_with fail
    go_loopw [9, 36] (fun v i wr => ∃ (j : Nat) (LA : List Dg) (CL : List (Array Value)), j ≤ L ∧ i = .int .i64 j ∧ Mo W wr ∧ AllS W.heap.size wr v LA CL ∧ BetP wn room l j LA) (fun _ i _ => L - (intOf i).toNat)
    case atStart => exact ⟨0, [], [], by omega, rfl, N1, AllS.nil _ _, BetP.start _ _ _⟩
    case round =>
      obtain ⟨j, LA, CL, hj, rfl, hM, hS, hP⟩ := hrel
      have HS := Lib.hid hS
      have HP := Lib.hid hP
      clear hS hP
      obtain ⟨A9, c9, rfl⟩ := row_slS HS.out.row
      by_cases cj : j < L
      · have hjl : j < l.length := by rw [HL.out]; exact cj
        obtain ⟨g, off, B1, bc, rfl, ldW, hb⟩ := HD.out.get2 j hjl
        have ld := ldW _ hM
        have XO := HD.out.ok _ (List.getElem_mem hjl)
        have i0' : (0 : Int) ≤ j := by omega
        have i1 : (j : Int) < L := by omega
        have za := sz_wide XO.at_
        have zs := sz_ends XO.src
        have zt := sz_ends XO.dst
        have oa := one_of_fits XO.at_
        have os := one_of_fits XO.src
        have ot' := one_of_fits XO.dst
        have hw : IntKind.i64.wrap ((j : Int) + 1) = j + 1 := by rw [IntKind.wrap_i64]; omega
        have DW : Hid (∀ w, Mo W w → DgW W.heap.size w l[j] (dgC l[j].at_ l[j].src l[j].dst (.slice B1 l[j].bs.length bc))) := Lib.hid fun w m => ⟨B1, bc, rfl, hb.mo m, fun g' off' e1 e2 => .inl (byteS_lt (e1 ▸ hb) e2)⟩
        have DX : Hid (∀ (bs : List Int), DgOk ⟨l[j].at_, l[j].src, l[j].dst, bs⟩) := Lib.hid fun bs => ⟨XO.at_, XO.src, XO.dst⟩
        have RL : Hid (∀ LA', BetQ wn room l j LA' → BetP wn room l (j + 1) (LA' ++ [l[j]])) := Lib.hid fun LA' q => q.real hjl
        have XOK := Lib.hid XO
        generalize hdj : l[j] = dj at *
        obtain ⟨da, ds, dd, db⟩ := dj
        simp only at *
        clear hb ldW XO hdj hjl
        go_upto_if 44 with (fail)
        have hP := HP.out.ge
        have LAl : LA.length ≤ 200 := by omega
        go_cut [9] (fun s9 wx => ∃ LA' CL', AllS W.heap.size wx s9 LA' CL' ∧ BetQ wn room l j LA' ∧ Mo W wx ∧ Blk wx wr.heap.size 41 (dgC da ds dd (.slice B1 db.length bc)))
        case first =>
          by_cases co : j < L'
          · have dO : decide ((j : Int) < L') = true := decide_eq_true (by omega)
            have dO' : decide (j < L') = true := decide_eq_true co
            have hjo : j < ot.length := by rw [HL'.out]; exact co
            obtain ⟨go, oo, rfl, lgo, lbo⟩ := HO.out.get (by omega)
            obtain ⟨lb1, xb1, xb2⟩ := lbo j hjo
            have LB := Lib.hid (fun w (m : Mo W w) => show w.cell? ⟨go, oo + j, none⟩ = some (.int .u8 ot[j]) by rw [m.cell]; exact lb1)
            have j1o : (j : Int) < L' := by omega
            generalize ot[j] = x at *
            have tm := mod3 ⟨xb1, xb2⟩
            clear lbo lb1 hjo
            go_upto_region 9 with (fail)
            refine wp_name ?_
            intro w3 hw3
            have b3 : Blk w3 wr.heap.size 41 (dgC da ds dd (.slice B1 db.length bc)) := by rw [hw3]; infer_instance
            have x3 : Blk w3 (wr.heap.size + 1) 41 (dgC da ds dd (.slice B1 db.length bc)) := by rw [hw3]; infer_instance
            have M3 : Mo wr w3 := by rw [hw3]; exact Mor.out
            have lbw := LB.out _ (hM.trans M3)
            have lgw : LtW go w3 := (hM.trans M3).ltW lgo
            clear hw3
            rcases tm with tm | tm | tm
            · --@@ nil
              go_upto_region 12 with (fail)
              refine wp_name ?_
              intro w4 hw4
              have x4 : Blk w4 (wr.heap.size + 1) 41 (dgC da ds dd (.slice none 0 0)) := by
                rw [hw4]
                have q := blk_setCell x3 38 (.slice none 0 0)
                rwa [dg_setb] at q
              have b4 : Blk w4 wr.heap.size 41 (dgC da ds dd (.slice B1 db.length bc)) := by rw [hw4]; exact blk_setCell_ne b3 (by omega) _ _
              have M4 : Mo wr w4 := by rw [hw4]; exact mo_setCell M3 (by omega) _ _
              have S4 := Lib.hid (HS.out.mo M4)
              have N4 := hM.trans M4
              have lWs := N4.size
              have D4 : Hid (DgW W.heap.size (w4.alloc (.cells (dgC da ds dd (.slice none 0 0)) 41)) ⟨da, ds, dd, []⟩ (dgC da ds dd (.slice none 0 0))) := Lib.hid ⟨none, 0, rfl, byteS_none _, fun _ _ e => by cases e⟩
              clear hw4 b3 x3 M3 lbw lgw LB tm
              go_wp2_with (at_builtin; refine wpList_append_own _ rfl _ _ 22 rfl W.heap.size 41 i0 z0 39 80 Try.underlying22 hi hz0 hz1 hz2 hz3 (by decide) _ _ _ rfl (owns_mo S4.out.row (Mor.out : Mo w4 _)) ⟨w4.heap.size, 0, none⟩ 1 1 (dgC da ds dd (.slice none 0 0)).toList rfl ?n1 ?n2 ?n3 ?n4 ?n5 ?n6 ?_)
              case n1 => rw [Array.length_toList]; exact (inferInstance : SzA (dgC da ds dd (.slice none 0 0)) 39).out
              case n2 =>
                intro jj u hu
                have ea : (⟨w4.heap.size, 0, none⟩ : Addr).add jj = ⟨w4.heap.size, jj, none⟩ := by
                  unfold Addr.add
                  split
                  · rename_i e; rw [e]
                  · rw [Nat.zero_add]
                rw [ea, blk_cell (inferInstance : Blk _ w4.heap.size 41 (dgC da ds dd (.slice none 0 0))), ← Array.getElem?_toList]
                exact hu
              case n3 => exact fun u hu => one_list (cs := (dgC da ds dd (.slice none 0 0))) inferInstance u hu
              case n4 => unfold maxLen; omega
              case n5 => omega
              case n6 => exact Nat.le_trans lWs (Mo.size Mor.out)
              intro v' w7 hown1 hgrow hq7
              have M7 : Mo W w7 := mo_grown (N4.trans Mor.out) hgrow (fun k e => (S4.out.row.lt k e).1)
              have b7 : Blk w7 wr.heap.size 41 (dgC da ds dd (.slice B1 db.length bc)) := by
                refine ⟨(hgrow.block wr.heap.size (Nat.lt_of_lt_of_le b4.lt (Mo.size Mor.out)) (fun e => by have := (HS.out.row.lt _ e.symm).2; omega)).trans ?_⟩
                exact (inferInstance : Blk (w4.alloc (.cells (dgC da ds dd (.slice none 0 0)) 41)) wr.heap.size 41 (dgC da ds dd (.slice B1 db.length bc))).out
              have S7 := Lib.hid ((S4.out.mo (Mor.out : Mo w4 _)).snoc D4.out (DX.out []) hown1 hgrow)
              have Q7 := Lib.hid (HP.out.idle (x := ⟨da, ds, dd, []⟩) (.inl nil_cls))
              clear hown1 hgrow hq7 D4 S4 b4
              go_wp2_with fail
              go_meet
              exact ⟨_, _, S7.out.mo Mor.out, Q7.out, M7.trans Mor.out, inferInstance⟩
            · --@@ put
              go_upto_region 14 with (fail)
              have wx : IntKind.u64.wrap x = x := by rw [IntKind.wrap_u64]; omega
              have w6 : IntKind.u8.wrap 6 = 6 := by decide
              have hWr := hM.size
              have PT := Lib.hid (fun w => rput_row ⟨h6D x, [], []⟩ (pkV (h6D x) (.slice none 0 0) (.slice none 0 0)) w ⟨none, 0, none, 0, rfl, extS_none w, byteS_none w⟩ (h6_ok ⟨xb1, by omega⟩) (fun _ => by show totM [] + 0 ≤ 100000; decide))
              rw [putP_hd (by unfold h6D; rfl)] at PT
              have hbl := hdB_len (h6D x)
              have hcl := h6_cls (x := x) ⟨xb1, by omega⟩
              generalize hdB (h6D x) = pb at *
              have iR3 : Mor W w3 := ⟨hM.trans M3⟩
              have HBL := Lib.hid hbl
              have HCL := Lib.hid hcl
              clear hbl hcl
              go_region_held3 (fun w' => w'.cell? ⟨go, oo + j, none⟩ = some (.int .u8 x)) (first | exact LB.out _ Mor.out | exact LB.out _ (mo_setCell Mor.out (by omega) _ _))
                (first
                  | ((with_reducible refine (PT.out _).mono ?_)
                     rintro e wz ⟨vz, rfl, hrow, hby, M9⟩
                     have hrow48 : wz.ownsRow _ 5 1 vz 48 (byteL pb) := (by have q := hrow; dsimp only at q; rw [HBL.out] at q; exact q)
                     clear hrow
                     obtain ⟨Az, cz, rfl⟩ := row_slS hrow48
                     have iM9 : MoC _ wz := ⟨M9⟩
                     have iR9 : Mor W wz := ⟨(Mor.out : Mo W _).trans M9⟩))
              go_upto_region 15 with (fail)
              refine wp_name ?_
              intro w4 hw4
              have M9' : Mo w3 wz := (Mor.out : Mo w3 w3.drew).trans M9
              have M39 := M3.trans M9'
              have x9 := M9'.blk x3
              have b9 := M9'.blk b3
              have x4 : Blk w4 (wr.heap.size + 1) 41 (dgC da ds dd (.slice Az 48 cz)) := by
                rw [hw4]
                have q := blk_setCell x9 38 (.slice Az 48 cz)
                rwa [dg_setb] at q
              have b4 : Blk w4 wr.heap.size 41 (dgC da ds dd (.slice B1 db.length bc)) := by rw [hw4]; exact blk_setCell_ne b9 (by omega) _ _
              have M4 : Mo wr w4 := by rw [hw4]; exact mo_setCell M39 (by omega) _ _
              have S4 := Lib.hid (HS.out.mo M4)
              have N4 := hM.trans M4
              have lWs := N4.size
              have D4' : Hid (DgW W.heap.size w4 ⟨da, ds, dd, pb⟩ (dgC da ds dd (.slice Az 48 cz))) := Lib.hid (by
                have hne : ∀ k, (Value.slice Az 48 cz).ownBlock = some k → k ≠ wr.heap.size + 1 := fun k e => by
                  have h1 := (hrow48.lt k e).1
                  have h2 := x3.lt
                  have h3 : w3.drew.heap.size = w3.heap.size := rfl
                  omega
                have r4 : w4.ownsRow w3.drew.heap.size 5 1 (.slice Az 48 cz) 48 (byteL pb) := by rw [hw4]; exact owns_set hrow48 hne _ _
                obtain ⟨A5, c5, e5, h5⟩ := owns_byteS r4 (by omega) hby.2
                rw [HBL.out] at e5
                injection e5 with e5 _ e6
                subst e5 e6
                refine ⟨Az, cz, by rw [HBL.out], h5, fun g5 off5 e7 _ => .inr fun cs f e8 => ?_⟩
                subst e7
                rcases r4.2 with ⟨q, _⟩ | ⟨g6, cap6, cur6, q, _, hb6, _⟩
                · cases q
                · injection q with q
                  injection q with q
                  injection q with q
                  subst q
                  rw [hb6] at e8
                  injection e8 with e8
                  injection e8 with _ e8 _
                  exact absurd e8 (by decide))
              clear hw4 b3 x3 M3 lbw lgw LB tm hrow48 M9 M9' M39 x9 b9 iM9 iR9 iR3 PT
              go_wp2_with (at_builtin; refine wpList_append_own _ rfl _ _ 22 rfl W.heap.size 41 i0 z0 39 80 Try.underlying22 hi hz0 hz1 hz2 hz3 (by decide) _ _ _ rfl (owns_mo S4.out.row (Mor.out : Mo w4 _)) ⟨w4.heap.size, 0, none⟩ 1 1 (dgC da ds dd (.slice Az 48 cz)).toList rfl ?p1 ?p2 ?p3 ?p4 ?p5 ?p6 ?_)
              case p1 => rw [Array.length_toList]; exact (inferInstance : SzA (dgC da ds dd (.slice Az 48 cz)) 39).out
              case p2 =>
                intro jj u hu
                have ea : (⟨w4.heap.size, 0, none⟩ : Addr).add jj = ⟨w4.heap.size, jj, none⟩ := by
                  unfold Addr.add
                  split
                  · rename_i e; rw [e]
                  · rw [Nat.zero_add]
                rw [ea, blk_cell (inferInstance : Blk _ w4.heap.size 41 (dgC da ds dd (.slice Az 48 cz))), ← Array.getElem?_toList]
                exact hu
              case p3 => exact fun u hu => one_list (cs := (dgC da ds dd (.slice Az 48 cz))) inferInstance u hu
              case p4 => unfold maxLen; omega
              case p5 => omega
              case p6 => exact Nat.le_trans lWs (Mo.size Mor.out)
              intro v' w7 hown1 hgrow hq7
              have M7 : Mo W w7 := mo_grown (N4.trans Mor.out) hgrow (fun k e => (S4.out.row.lt k e).1)
              have b7 : Blk w7 wr.heap.size 41 (dgC da ds dd (.slice B1 db.length bc)) := by
                refine ⟨(hgrow.block wr.heap.size (Nat.lt_of_lt_of_le b4.lt (Mo.size Mor.out)) (fun e => by have := (HS.out.row.lt _ e.symm).2; omega)).trans ?_⟩
                exact (inferInstance : Blk (w4.alloc (.cells (dgC da ds dd (.slice Az 48 cz)) 41)) wr.heap.size 41 (dgC da ds dd (.slice B1 db.length bc))).out
              have S7 := Lib.hid ((S4.out.mo (Mor.out : Mo w4 _)).snoc (D4'.out.mo Mor.out) (DX.out pb) hown1 hgrow)
              have Q7 := Lib.hid (HP.out.idle (x := ⟨da, ds, dd, pb⟩) (.inr HCL.out))
              clear hown1 hgrow hq7 D4' S4 b4
              go_wp2_with fail
              go_meet
              exact ⟨_, _, S7.out.mo Mor.out, Q7.out, M7.trans Mor.out, inferInstance⟩
            · --@@ skip
              go_wp2_with fail
              go_meet
              exact ⟨LA, CL, HS.out.mo (M3.trans Mor.out), HP.out.q, hM.trans (M3.trans Mor.out), inferInstance⟩
          · have dO : decide ((j : Int) < L') = false := decide_eq_false (by omega)
            have dO' : decide (j < L') = false := decide_eq_false co
            go_wp2_with fail
            go_meet
            exact ⟨LA, CL, HS.out.mo Mor.out, HP.out.q, hM.trans Mor.out, inferInstance⟩
        obtain ⟨LA2, CL2, S2, Q2, N2, b2⟩ := hcut
        rename World => w8
        have S8 := Lib.hid S2
        have Q8 := Lib.hid Q2
        have lWs := N2.size
        obtain ⟨A8, c8, rfl⟩ := row_slS S2.row
        have hg8 := Q2.ge
        clear S2 Q2 HS HP hM ld hP LAl
        have LA2l : LA2.length ≤ 200 := by omega
        go_wp2_with (at_builtin; refine wpList_append_own _ rfl _ _ 22 rfl W.heap.size 41 i0 z0 39 80 Try.underlying22 hi hz0 hz1 hz2 hz3 (by decide) _ _ _ rfl (owns_mo S8.out.row (Mor.out : Mo w8 _)) ⟨w8.heap.size, 0, none⟩ 1 1 (dgC da ds dd (.slice B1 db.length bc)).toList rfl ?r1 ?r2 ?r3 ?r4 ?r5 ?r6 ?_)
        case r1 => rw [Array.length_toList]; exact (inferInstance : SzA (dgC da ds dd (.slice B1 db.length bc)) 39).out
        case r2 =>
          intro jj u hu
          have ea : (⟨w8.heap.size, 0, none⟩ : Addr).add jj = ⟨w8.heap.size, jj, none⟩ := by
            unfold Addr.add
            split
            · rename_i e; rw [e]
            · rw [Nat.zero_add]
          rw [ea, blk_cell (inferInstance : Blk _ w8.heap.size 41 (dgC da ds dd (.slice B1 db.length bc))), ← Array.getElem?_toList]
          exact hu
        case r3 => exact fun u hu => one_list (cs := (dgC da ds dd (.slice B1 db.length bc))) inferInstance u hu
        case r4 => unfold maxLen; omega
        case r5 => omega
        case r6 => exact Nat.le_trans lWs (Mo.size Mor.out)
        intro v' w7 hown1 hgrow hq7
        have M7 : Mo W w7 := mo_grown (N2.trans Mor.out) hgrow (fun k e => (S8.out.row.lt k e).1)
        have S7 := Lib.hid ((S8.out.mo (Mor.out : Mo w8 _)).snoc (DW.out _ (N2.trans Mor.out)) XOK.out hown1 hgrow)
        have Q7 := Lib.hid (RL.out _ Q8.out)
        clear hown1 hgrow hq7 S8 Q8 b2
        go_wp2_with fail
        go_roundw
        case rel => exact ⟨j + 1, _, _, by omega, by go_num, M7.trans Mor.out, S7.out.mo Mor.out, Q7.out⟩
        case measure => simp [intOf]; omega
      · obtain rfl : j = L := by omega
        obtain ⟨A', cap2, e2, hDg⟩ := HS.out.dgs (by have := HP.out.ge; omega)
        injection e2 with e2 _ e2'
        subst e2 e2'
        have ge := HP.out.ge
        have R1 := Lib.hid (fun w (m : Mo W w) => mrun_in A cap j l room wn w HL.out (HD.out.mo m) (by omega) rm cw)
        obtain ⟨NA, hNA⟩ : ∃ n, LA.length = n := ⟨_, rfl⟩
        have R2 := Lib.hid (fun w (m : Mo wr w) => mrun_in A9 c9 NA LA room wn w hNA (hDg.mo m) (by omega) rm cw)
        have SM := HP.out.samp
        have CN' := HP.out.cnt
        have MR' := HP.out.more
        rw [hNA] at SM CN' MR' ⊢
        rw [SM] at R2
        rw [hNA] at ge
        have FT := Lib.hid (runS_fits wn room l HD.out.ok HD.out.byte j)
        have SZ := Lib.hid (runS_szs wn room l HD.out.ok j)
        have CN := Lib.hid CN'
        have MR := Lib.hid MR'
        have B1 := runC_bd wn room l j
        have RLn := runS_len wn room l j
        have B2 := runC_bd wn room LA NA
        generalize runC wn room l j = C at *
        generalize runC wn room LA NA = D at *
        generalize runS wn room l j = R at *
        have zC : ∀ i, -9223372036854775808 ≤ C i ∧ C i ≤ 9223372036854775807 := fun i => by have := B1 i; omega
        have d0 := (B2 0)
        have d8 := (B2 8)
        obtain ⟨N, hN⟩ : ∃ N, R.length = N := ⟨_, rfl⟩
        rw [hN] at R1 R2
        have HN := Lib.hid hN
        have N60 : N ≤ 60 := by omega
        have HB1 := Lib.hid B1
        clear hN hNA HS HP hDg B1 B2 SM CN' MR'
        go_wp2_with fail
        refine (R1.out _ (hM.trans Mor.out)).mono ?_
        rintro e w2 ⟨v1, rfl, O1, M2⟩
        have M02 : Mo wr w2 := Mo.trans Mor.out M2
        obtain ⟨P1, q1, rfl⟩ := row_slS O1
        have O1' := Lib.hid O1
        clear M2 O1 R1
        go_upto_region 19 with (fail)
        refine wp_name ?_
        intro w3 hw3
        have b3 : Blk w3 w2.heap.size 29 (cnC C) := by rw [hw3]; infer_instance
        have M23 : Mo w2 w3 := by rw [hw3]; exact Mor.out
        have O3 := Lib.hid (owns_mo O1'.out M23)
        have M03 := M02.trans M23
        obtain ⟨g14, hg14⟩ : ∃ x, w2.heap.size = x := ⟨_, rfl⟩
        have lr1 := M02.size
        rw [hg14] at b3 lr1 ⊢
        clear hw3 O1' M23 M02 hg14
        go_wp2_with fail
        refine (R2.out _ (M03.trans Mor.out)).mono ?_
        rintro e w4 ⟨v2, rfl, O2, M4⟩
        have M34 : Mo w3 w4 := Mo.trans Mor.out M4
        obtain ⟨P2, q2, rfl⟩ := row_slS O2
        have O2' := Lib.hid O2
        clear M4 O2 R2
        go_upto_region 20 with (fail)
        refine wp_name ?_
        intro w5 hw5
        have b17 : Blk w5 w4.heap.size 29 (cnC D) := by rw [hw5]; infer_instance
        have M45 : Mo w4 w5 := by rw [hw5]; exact Mor.out
        have b14 := (M34.trans M45).blk b3
        have O15 := Lib.hid (owns_mo O3.out (M34.trans M45))
        have O25 := Lib.hid (owns_mo O2'.out M45)
        have M05 := M03.trans (M34.trans M45)
        have lg14 := b3.lt
        have lg17 := M34.size
        obtain ⟨g17, hg17⟩ : ∃ x, w4.heap.size = x := ⟨_, rfl⟩
        rw [hg17] at b17 lg17 ⊢
        clear hw5 O2' O3 M45 hg17 b3 M34 M03
        have dN : ((N : Int) != (N : Int)) = false := by simp
        have dN' : (N != N) = false := by simp
        go_wp2_with fail
        go_loopw [122] (fun i wx => ∃ m : Nat, m ≤ N ∧ i = .int .i64 m ∧ Mo w5 wx) (fun i _ => N - (intOf i).toNat)
        case atStart => exact ⟨0, by omega, rfl, Mor.out⟩
        case round =>
          obtain ⟨m, hm, rfl, hM5⟩ := hrel
          by_cases cm : m < N
          · have hmR : m < R.length := by rw [HN.out]; exact cm
            obtain ⟨ga, ca, ea, -, hca⟩ := own_cellsS (O15.out) SZ.out (by omega)
            obtain ⟨gb, cb, eb, -, hcb⟩ := own_cellsS (O25.out) SZ.out (by omega)
            injection ea with ea _ ea'
            injection eb with eb _ eb'
            subst ea ea' eb eb'
            have FX := FT.out _ (List.getElem_mem hmR)
            have zx : SzA R[m] 48 := ⟨SZ.out _ (List.getElem_mem hmR)⟩
            have h1 := hca m hmR
            have h2 := hcb m hmR
            have la : ∀ J d, (loadF 45 (.pointer (some ⟨ga, m * 48, none⟩))).run Try.prog (more wr J d) = .ok (.agg R[m]) (more wr J d) := fun J d => run_loadC 45 48 _ ga (m * 48) _ zx.out (fun jj u hj => by
              have q := h1 jj u hj
              have : LtW ga w5 := LtW.of_cell q
              rw [(hM5.trans Mor.out : Mo w5 (more wr J d)).cell, q])
            have lb : ∀ J d, (loadF 45 (.pointer (some ⟨gb, m * 48, none⟩))).run Try.prog (more wr J d) = .ok (.agg R[m]) (more wr J d) := fun J d => run_loadC 45 48 _ gb (m * 48) _ zx.out (fun jj u hj => by
              have q := h2 jj u hj
              have : LtW gb w5 := LtW.of_cell q
              rw [(hM5.trans Mor.out : Mo w5 (more wr J d)).cell, q])
            have m0 : (0 : Int) ≤ m := by omega
            have m1 : (m : Int) < N := by omega
            have nq := fun w => run_neq_self fl_samp w FX
            have hwm : IntKind.i64.wrap ((m : Int) + 1) = m + 1 := by rw [IntKind.wrap_i64]; omega
            generalize R[m] = X at *
            clear hca hcb h1 h2 FX hmR
            go_upto_region 25 with (fail)
            first | (refine wp_region_mo (by kernel_rfl) (by kernel_rfl) ?_) | (refine wp_region_mo' (by kernel_rfl) (by kernel_rfl) ?_)
            repeat (go_big_quiet_step (fail))
            refine wpQuiet_nil ?_
            intro _ hw'
            obtain ⟨⟨J9, d9⟩, hw''⟩ := hw'
            subst hw''
            go_wp2_with fail
            go_roundw
            case rel => exact ⟨m + 1, by omega, by go_num, hM5.trans Mor.out⟩
            case measure => simp [intOf]; omega
          · obtain rfl : m = N := by omega
            have e14 := hM5.blk b14
            have e17 := hM5.blk b17
            have c1 := CN.out 1 (by omega) (by omega)
            have c2 := CN.out 2 (by omega) (by omega)
            have c3 := CN.out 3 (by omega) (by omega)
            have c4 := CN.out 4 (by omega) (by omega)
            have c5 := CN.out 5 (by omega) (by omega)
            have c6 := CN.out 6 (by omega) (by omega)
            have c7 := CN.out 7 (by omega) (by omega)
            rw [show cnC D = #[.int .i64 (D 0), .int .i64 (C 1), .int .i64 (C 2), .int .i64 (C 3), .int .i64 (C 4), .int .i64 (C 5), .int .i64 (C 6), .int .i64 (C 7), .int .i64 (D 8)] by rw [← c1, ← c2, ← c3, ← c4, ← c5, ← c6, ← c7]] at e17
            have FX := fits_cnC (c := fun i => if i = 0 ∨ i = 8 then 0 else C i) (fun i => by have := HB1.out i; split <;> omega)
            have eq : ∀ w : World, (eqlF 29 (.agg #[.int .i64 0, .int .i64 (C 1), .int .i64 (C 2), .int .i64 (C 3), .int .i64 (C 4), .int .i64 (C 5), .int .i64 (C 6), .int .i64 (C 7), .int .i64 0]) (.agg #[.int .i64 0, .int .i64 (C 1), .int .i64 (C 2), .int .i64 (C 3), .int .i64 (C 4), .int .i64 (C 5), .int .i64 (C 6), .int .i64 (C 7), .int .i64 0])).run Try.prog w = .ok (.bool true) w := fun w => run_eqlF_self fl_cnt w FX
            have hsum : IntKind.i64.wrap (D 0 + D 8) = D 0 + D 8 := by rw [IntKind.wrap_i64]; omega
            have hsub : IntKind.i64.wrap ((NA : Int) - j) = NA - j := by rw [IntKind.wrap_i64]; omega
            have dm : decide ((NA : Int) - j ≤ D 0 + D 8) = true := decide_eq_true MR.out
            clear c1 c2 c3 c4 c5 c6 c7 CN b14 b17 FX
            have ne : g14 ≠ g17 := by omega
            have f14 : Blk (wr.setCell ⟨g14, 0, none⟩ (.int .i64 0)) g14 29 #[.int .i64 0, .int .i64 (C 1), .int .i64 (C 2), .int .i64 (C 3), .int .i64 (C 4), .int .i64 (C 5), .int .i64 (C 6), .int .i64 (C 7), .int .i64 (C 8)] := blk_setCell e14 0 _
            go_upto_region 29 with (fail)
            refine wp_name ?_
            intro w6 hw6
            have h14 : Blk w6 g14 29 #[.int .i64 0, .int .i64 (C 1), .int .i64 (C 2), .int .i64 (C 3), .int .i64 (C 4), .int .i64 (C 5), .int .i64 (C 6), .int .i64 (C 7), .int .i64 0] := by rw [hw6]; exact blk_setCell f14 8 _
            have h17 : Blk w6 g17 29 #[.int .i64 (D 0), .int .i64 (C 1), .int .i64 (C 2), .int .i64 (C 3), .int .i64 (C 4), .int .i64 (C 5), .int .i64 (C 6), .int .i64 (C 7), .int .i64 (D 8)] := by rw [hw6]; exact blk_setCell_ne (blk_setCell_ne e17 ne _ _) ne _ _
            have N6 : Mo W w6 := by rw [hw6]; exact mo_setCell (mo_setCell (hM.trans (M05.trans hM5)) (by have := hM.size; omega) _ _) (by have := hM.size; omega) _ _
            clear hw6 f14 e14 e17
            have f17 : Blk (w6.setCell ⟨g17, 0, none⟩ (.int .i64 0)) g17 29 #[.int .i64 0, .int .i64 (C 1), .int .i64 (C 2), .int .i64 (C 3), .int .i64 (C 4), .int .i64 (C 5), .int .i64 (C 6), .int .i64 (C 7), .int .i64 (D 8)] := blk_setCell h17 0 _
            go_upto_region 31 with (fail)
            refine wp_name ?_
            intro w7 hw7
            have j14 : Blk w7 g14 29 #[.int .i64 0, .int .i64 (C 1), .int .i64 (C 2), .int .i64 (C 3), .int .i64 (C 4), .int .i64 (C 5), .int .i64 (C 6), .int .i64 (C 7), .int .i64 0] := by rw [hw7]; exact blk_setCell_ne (blk_setCell_ne h14 (Ne.symm ne) _ _) (Ne.symm ne) _ _
            have j17 : Blk w7 g17 29 #[.int .i64 0, .int .i64 (C 1), .int .i64 (C 2), .int .i64 (C 3), .int .i64 (C 4), .int .i64 (C 5), .int .i64 (C 6), .int .i64 (C 7), .int .i64 0] := by rw [hw7]; exact blk_setCell f17 8 _
            have N7 : Mo W w7 := by rw [hw7]; exact mo_setCell (mo_setCell N6 (by have := hM.size; omega) _ _) (by have := hM.size; omega) _ _
            clear hw7 f17 h14 h17
            go_wp2_with fail
            refine (WK.out _).mono ?_
            rintro e w9 ⟨rfl, M9⟩
            go_wp2_with fail
            go_ret
            exact ⟨rfl, N7.trans ((Mor.out : Mo w7 _).trans (M9.trans Mor.out))⟩
end Go.Proofs.Ytcflebggepmmcaa
