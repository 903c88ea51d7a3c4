/- horologelaw30.MatchMoved returns true: the walk. -/
import Derived.Test.YtcflebggepmmcaaMovW
namespace Go.Proofs.Ytcflebggepmmcaa
open Go.RowKit

set_option maxRecDepth 20000 in
theorem sm_st (f : Array Value) (t1 t2 t3 t4 o d s st : Int) [h : SzA f 36] : (smC f t1 t2 t3 t4 o d s st)[47]? = some (.int .u8 st) := by
  unfold smC
  rw [Array.getElem?_append_right (by rw [h.out]; omega), h.out]
  rfl
set_option maxRecDepth 20000 in
theorem sm_flowM (f : Array Value) (t1 t2 t3 t4 o d s st : Int) [h : SzA f 36] : (smC f t1 t2 t3 t4 o d s st).extract 0 36 = f := by
  unfold smC
  refine Array.ext_getElem? fun j => ?_
  rw [Array.getElem?_extract]
  by_cases c : j < 36
  · rw [if_pos (by rw [Array.size_append, h.out]; simp; omega), Nat.zero_add, Array.getElem?_append, if_pos (by rw [h.out]; exact c)]
  · rw [if_neg (by rw [Array.size_append, h.out]; simp; omega), Array.getElem?_eq_none (by rw [h.out]; omega)]
set_option maxRecDepth 20000 in
theorem dg_hi (x y : Value) (s u : Array Value) (v : Value) : (dgC #[x, y] s u v)[0]? = some x := by
  unfold dgC
  simp only [Array.append_assoc]
  rw [Array.getElem?_append_left (by simp)]
  rfl
set_option maxRecDepth 20000 in
theorem neqF_flowL (x y : Value) : binOp .neq 43 x y = neqF 43 x y := rfl
set_option maxRecDepth 20000 in
theorem neqF_wideL (x y : Value) : binOp .neq 32 x y = neqF 32 x y := rfl
/-- what the loop has seen -/
def MvUp (b : Int) (l : List Dg) (j : Nat) : Prop := ∀ i (h : i < l.length), i < j → MvOk b l[i]
set_option maxRecDepth 20000 in
theorem MvUp.succ {b : Int} {l : List Dg} {j : Nat} (h : MvUp b l j) (hj : j < l.length) (k : MvOk b l[j]) : MvUp b l (j + 1) := fun i hi q => by
  by_cases c : i < j
  · exact h i hi c
  · obtain rfl : i = j := by omega
    exact k
set_option maxRecDepth 20000 in
theorem MvUp.all {b : Int} {l : List Dg} (h : MvUp b l l.length) : ∀ d ∈ l, MvOk b d := fun d hd => by
  obtain ⟨i, hi, rfl⟩ := List.getElem_of_mem hd
  exact h i hi hi
set_option maxRecDepth 20000 in
theorem mv_snoc (b : Int) (l : List Dg) (j : Nat) (hj : j < l.length) : ((l.take (j + 1)).map fun d => mvD d b) = ((l.take j).map fun d => mvD d b) ++ [mvD l[j] b] := by
  rw [List.take_add_one, List.getElem?_eq_getElem hj, List.map_append]
  rfl
set_option maxRecDepth 20000 in
theorem mvD_okD {d : Dg} (h : DgOk d) (b : Int) : DgOk (mvD d b) := ⟨fits_wd (inW_cl _), h.src, h.dst⟩
set_option maxRecDepth 20000 in
theorem hl_ex {e lo : Int} (hl : 0 ≤ lo ∧ lo ≤ 18446744073709551615) : ∃ b, hiW b = e ∧ loW b = lo := ⟨e * 18446744073709551616 + lo, by unfold hiW; omega, by unfold loW; omega⟩
attribute [local go_sem] blk_cell' blk_frozen' dg_at dg_b dg_src dg_dst dg_hi sm_1 sm_2 sm_3 sm_4 sm_o sm_d sm_s sm_st sm_flowM
attribute [local go_sem ↓] loadF_dg storeF_dg' loadF_cnt storeF_cnt loadF_samp storeF_samp eqlF_samp eqlF_cnt neqF_samp neqF_cnt buildDg_fold loadF_pk storeAt_pk loadF_flow loadF_wide' storeF_wideM neqF_flowL neqF_wideL
attribute [local go_sem] run_loadF0 run_storeF0 run_storePk run_loadFo run_loadFz run_bd1
set_option maxRecDepth 20000 in
set_option maxHeartbeats 16000000 in
theorem moved30_any (A : Option Addr) (cap L : Nat) (l : List Dg) (K wn era lo : Int) (W : World) (hL : l.length = L) (h : DgsS W A cap l) (bK : 0 ≤ K ∧ K ≤ 255) (bw : 0 ≤ wn ∧ wn ≤ 4294967295) (be : 0 ≤ era ∧ era ≤ 255) (bl : 0 ≤ lo ∧ lo ≤ 18446744073709551615) :
    Calls Try.prog 8 #[.slice A L cap, .int .u8 K, .int .u32 wn, .int .u8 era, .int .u64 lo] W fun e w' => e = .returned (.bool true) ∧ Mo W w' := by
  have GR := Lib.hid (fun w (m : Mo W w) => great_any A cap L l w hL (h.mo m))
  have WK := Lib.hid (fun w => works30_any w)
  obtain ⟨gb, hgb⟩ : ∃ b, GreatM l = b := ⟨_, rfl⟩
  rw [hgb] at GR
  by_cases big : gb = true ∨ 60 < L
  · go_enter Try.func8, Try.ntmps8
    go_wp2_with fail
    refine (GR.out _ Mor.out).mono ?_
    rintro e w1 ⟨rfl, M1⟩
    have N1 := (Mor.out : Mo W _).trans M1
    clear M1 GR h hL hgb be bl bw bK
    cases gb with
    | true =>
      clear big
      go_wp2_with fail
      refine (WK.out _).mono ?_
      rintro e w2 ⟨rfl, M2⟩
      go_wp2_with fail
      go_ret
      exact ⟨rfl, N1.trans ((Mor.out : Mo w1 _).trans (M2.trans Mor.out))⟩
    | false =>
      have c1 : 60 < L := by
        rcases big with q | q
        · cases q
        · exact q
      have d1 : decide (60 < (L : Int)) = true := decide_eq_true (by omega)
      clear big
      go_wp2_with fail
      refine (WK.out _).mono ?_
      rintro e w2 ⟨rfl, M2⟩
      go_wp2_with fail
      go_ret
      exact ⟨rfl, N1.trans ((Mor.out : Mo w1 _).trans (M2.trans Mor.out))⟩
  · obtain rfl : gb = false := by
      cases gb with
      | true => exact absurd (.inl rfl) big
      | false => rfl
    have hl60 : L ≤ 60 := by omega
    have d1 : decide (60 < (L : Int)) = false := decide_eq_false (by omega)
    have d1' : decide (60 < L) = false := decide_eq_false (by omega)
    have HD := Lib.hid h
    have HL := Lib.hid hL
    obtain ⟨room, hroom⟩ : ∃ r, 1 + K = r := ⟨_, rfl⟩
    have rm : 1 ≤ room ∧ room ≤ 65536 := by omega
    have wK : IntKind.i64.wrap K = K := by rw [IntKind.wrap_i64]; omega
    have wK1 : IntKind.i64.wrap (1 + K) = room := by rw [IntKind.wrap_i64]; omega
    have wW : IntKind.i64.wrap wn = wn := by rw [IntKind.wrap_i64]; omega
    have cw : 0 ≤ wn ∧ wn ≤ 1152921504606846976 := by omega
    obtain ⟨b, rfl, rfl⟩ := hl_ex (e := era) bl
    have wE : IntKind.i64.wrap (hiW b) = hiW b := by rw [IntKind.wrap_i64]; omega
    have b0 : 0 ≤ b := by unfold hiW at be; omega
    have b1 : b < 4722366482869645213696 := by unfold hiW at be; omega
    have ib : InW b := by unfold InW; omega
    obtain ⟨i0, z0, hi, hz0, hz1, hz2, hz3⟩ := info_dg39
    clear h hL big hgb be bl
    go_enter Try.func8, Try.ntmps8
    go_wp2_with fail
    refine (GR.out _ Mor.out).mono ?_
    rintro e w1 ⟨rfl, M1⟩
    have N1 := (Mor.out : Mo W _).trans M1
    clear M1 GR
    go_upto_region 5 with (fail)
    refine wp_name ?_
    intro w3 hw3
    have b11 : Blk w3 w1.heap.size 32 #[.int .i64 (hiW b), .int .u64 (loW b)] := by rw [hw3]; infer_instance
    have M0 : Mo W w3 := by rw [hw3]; exact N1.trans Mor.out
    have g0 := N1.size
    clear hw3 N1
    obtain ⟨g11, hg11⟩ : ∃ x, w1.heap.size = x := ⟨_, rfl⟩
    rw [hg11] at b11 g0 ⊢
    clear hg11
    go_wp2_with fail
    go_loopw [12, 43] (fun v i wr => ∃ (j : Nat) (CL : List (Array Value)), j ≤ L ∧ i = .int .i64 j ∧ Mo w3 wr ∧ AllS w3.heap.size wr v ((l.take j).map fun d => mvD d b) CL ∧ MvUp b l j) (fun _ i _ => L - (intOf i).toNat)
    case atStart => exact ⟨0, [], by omega, rfl, Mor.out, AllS.nil _ _, fun i _ q => absurd q (Nat.not_lt_zero i)⟩
    case round =>
      obtain ⟨j, CL, hj, rfl, hM, hS, hP⟩ := hrel
      have HS := Lib.hid hS
      have HP := Lib.hid hP
      clear hS hP
      obtain ⟨A9, c9, rfl⟩ := row_slS HS.out.row
      have hlen : ((l.take j).map fun d => mvD d b).length = j := by rw [List.length_map, List.length_take, HL.out]; omega
      obtain ⟨LA, hLA⟩ : ∃ LA, ((l.take j).map fun d => mvD d b) = LA := ⟨_, rfl⟩
      rw [hLA] at HS hlen ⊢
      have HLN := Lib.hid hlen
      have HLA := Lib.hid hLA
      clear hlen hLA
      by_cases cj : j < L
      · have hjl : j < l.length := by rw [HL.out]; exact cj
        obtain ⟨g, off, B1, bc, rfl, ldW, hb⟩ := HD.out.get2 j hjl
        have ld := ldW _ (M0.trans hM)
        have XO := HD.out.ok _ (List.getElem_mem hjl)
        have i0' : (0 : Int) ≤ j := by omega
        have i1 : (j : Int) < L := by omega
        have hw : IntKind.i64.wrap ((j : Int) + 1) = j + 1 := by rw [IntKind.wrap_i64]; omega
        have XY := mvD_okD XO b
        have SN := Lib.hid (mv_snoc b l j hjl)
        rw [HLA.out] at SN
        clear HLA
        obtain ⟨wat, iw⟩ := wd_fits XO.at_
        have UP : Hid (-1000 ≤ hiW (wI l[j].at_) → hiW (wI l[j].at_) ≤ 1000 → (classP l[j].bs).2 = (classP (mvD l[j] b).bs).2 → MvUp b l (j + 1)) := Lib.hid fun q1 q2 q3 => HP.out.succ hjl ⟨XO, hb.byte, q1, q2, q3⟩
        have MV := Lib.hid (fun w (m : Mo w3 w) => moved_any w3.heap.size l[j] (dgC l[j].at_ l[j].src l[j].dst (.slice B1 l[j].bs.length bc)) b w XO ⟨B1, bc, rfl, hb.mo (M0.trans m), fun g' off' e1 e2 => .inl (Nat.lt_of_lt_of_le (byteS_lt (e1 ▸ hb) e2) M0.size)⟩ iw wat ib)
        have C1 := Lib.hid (fun w (m : Mo w3 w) => class_any l[j] (.agg (dgC l[j].at_ l[j].src l[j].dst (.slice B1 l[j].bs.length bc))) w ⟨B1, bc, rfl, hb.mo (M0.trans m)⟩ XO)
        have C2 := Lib.hid (fun w v (hv : DgV w (mvD l[j] b) v) => class_any (mvD l[j] b) v w hv XY)
        have za := sz_wide XO.at_
        have zs := sz_ends XO.src
        have zt := sz_ends XO.dst
        have oa := one_of_fits XO.at_
        have os := one_of_fits XO.src
        have ot' := one_of_fits XO.dst
        have ya := sz_wide XY.at_
        have ys := sz_ends XY.src
        have yt := sz_ends XY.dst
        have pa := one_of_fits XY.at_
        have ps := one_of_fits XY.src
        have pt := one_of_fits XY.dst
        have XYH := Lib.hid XY
        generalize (classP (mvD l[j] b).bs).2 = f2 at *
        generalize (classP (mvD l[j] b).bs).1 = p2 at *
        generalize (classP l[j].bs).2 = f1 at *
        generalize (classP l[j].bs).1 = p1 at *
        generalize mvD l[j] b = dy at *
        generalize l[j] = dj at *
        obtain ⟨da, ds, dd, db⟩ := dj
        obtain ⟨ea, es, ed, eb⟩ := dy
        simp only at *
        generalize wI da = t at *
        subst wat
        generalize db.length = n at *
        have wu : wdC t = #[.int .i64 (hiW t), .int .u64 (loW t)] := rfl
        rw [wu] at ld MV C1 za oa
        clear hb ldW XO XY hjl iw
        by_cases lo1 : hiW t < -1000
        · have e1 : decide (hiW t < -1000) = true := decide_eq_true lo1
          go_wp2_with fail
          refine (WK.out _).mono ?_
          rintro e w9 ⟨rfl, M9⟩
          go_wp2_with fail
          go_ret
          exact ⟨rfl, M0.trans (hM.trans ((Mor.out : Mo wr _).trans (M9.trans Mor.out)))⟩
        · have e1 : decide (hiW t < -1000) = false := decide_eq_false lo1
          by_cases hi1 : 1000 < hiW t
          · have e2 : decide (1000 < hiW t) = true := decide_eq_true hi1
            go_wp2_with fail
            refine (WK.out _).mono ?_
            rintro e w9 ⟨rfl, M9⟩
            go_wp2_with fail
            go_ret
            exact ⟨rfl, M0.trans (hM.trans ((Mor.out : Mo wr _).trans (M9.trans Mor.out)))⟩
          · have e2 : decide (1000 < hiW t) = false := decide_eq_false hi1
            have b11r := hM.blk b11
            go_wp2_with fail
            refine (MV.out _ (hM.trans Mor.out)).mono ?_
            rintro e w4 ⟨C5, rfl, ⟨B5, c5, rfl, hb5, ht5⟩, M4⟩
            simp only at hb5 ht5 ⊢
            have HB5 := Lib.hid hb5
            have HT5 := Lib.hid ht5
            generalize hm : eb.length = m at *
            have HMM := Lib.hid hm
            clear hb5 ht5 hm MV
            have b14 : Blk w4 wr.heap.size 41 (dgC #[.int .i64 (hiW t), .int .u64 (loW t)] ds dd (.slice B1 n bc)) := M4.blk inferInstance
            have M04 := (Mor.out : Mo wr _).trans M4
            clear M4
            go_wp2_with fail
            refine (C1.out _ (hM.trans (M04.trans Mor.out))).mono ?_
            rintro e w5 ⟨u1, rfl, ⟨a1, k1, a2, k2, rfl, -, -⟩, M5⟩
            have b15 : Blk w5 w4.heap.size 41 (dgC ea es ed (.slice B5 m c5)) := M5.blk inferInstance
            have M45 := (Mor.out : Mo w4 _).trans M5
            clear M5 C1
            have b14 := M45.blk b14
            have M05 := M04.trans M45
            clear M04
            obtain ⟨h1, x1, y1⟩ := p1
            simp only at *
            generalize x1.length = n1 at *
            generalize y1.length = n2 at *
            go_wp2_with fail
            refine (C2.out _ _ ⟨B5, c5, by show Value.agg (dgC ea es ed (.slice B5 m c5)) = .agg (dgC ea es ed (.slice B5 eb.length c5)); rw [HMM.out], HB5.out.mo (M45.trans Mor.out)⟩).mono ?_
            rintro e w6 ⟨u2, rfl, ⟨a3, k3, a4, k4, rfl, -, -⟩, M6⟩
            have b16 : Blk w6 w5.heap.size 66 (pkL h1 (.slice a1 n1 k1) (.slice a2 n2 k2)).toArray := M6.blk inferInstance
            have M56 := (Mor.out : Mo w5 _).trans M6
            clear M6 C2
            have b14 := M56.blk b14
            have b15 := M56.blk b15
            have M06 := M05.trans M56
            have M46 := M45.trans M56
            clear M05 M45 M56
            obtain ⟨h2, x2, y2⟩ := p2
            simp only at *
            generalize x2.length = n3 at *
            generalize y2.length = n4 at *
            go_upto_region 13 with (fail)
            refine wp_name ?_
            intro w7 hw7
            have b18 : Blk w7 w6.heap.size 66 (pkL h2 (.slice a3 n3 k3) (.slice a4 n4 k4)).toArray := by rw [hw7]; infer_instance
            have M67 : Mo w6 w7 := by rw [hw7]; exact Mor.out
            have b14 := M67.blk b14
            have b15 := M67.blk b15
            have b16 := M67.blk b16
            have M07 := M06.trans M67
            have M47 := M46.trans M67
            clear hw7 M06 M46 M67
            go_cut [113] (fun s wx => ∃ q : Bool, s = .bool q ∧ (q = false → f1 = f2) ∧ Mo w7 wx)
            case first =>
              by_cases k1 : f1 = f2
              · subst k1
                have d0 : (f1 != f1) = false := by simp
                cases q2 : (f1 != 0) with
                | false =>
                    go_wp2_with fail
                    go_meet
                    exact ⟨_, rfl, fun _ => (by trivial), Mor.out⟩
                | true =>
                  cases q3 : (h1.m == 3) with
                  | false =>
                      cases q4 : (h1.m == 4) with
                      | false =>
                        go_wp2_with fail
                        go_meet
                        exact ⟨_, rfl, fun _ => (by trivial), Mor.out⟩
                      | true =>
                        cases q5 : (h1.o == 0) with
                        | true =>
                          go_wp2_with fail
                          go_meet
                          exact ⟨_, rfl, fun _ => (by trivial), Mor.out⟩
                        | false =>
                          cases q6 : (h2.o == 0) with
                          | true =>
                            go_wp2_with fail
                            go_meet
                            exact ⟨_, rfl, fun _ => (by trivial), Mor.out⟩
                          | false =>
                            go_wp2_with fail
                            go_meet
                            exact ⟨_, rfl, fun _ => (by trivial), Mor.out⟩
                  | true =>
                    cases q7 : (h1.x == 0) with
                    | true =>
                        go_wp2_with fail
                        go_meet
                        exact ⟨_, rfl, fun _ => (by trivial), Mor.out⟩
                    | false =>
                      cases q8 : (h2.x == 0) with
                      | true =>
                          go_wp2_with fail
                          go_meet
                          exact ⟨_, rfl, fun _ => (by trivial), Mor.out⟩
                      | false =>
                          cases q4 : (h1.m == 4) with
                          | false =>
                            go_wp2_with fail
                            go_meet
                            exact ⟨_, rfl, fun _ => (by trivial), Mor.out⟩
                          | true =>
                            cases q5 : (h1.o == 0) with
                            | true =>
                              go_wp2_with fail
                              go_meet
                              exact ⟨_, rfl, fun _ => (by trivial), Mor.out⟩
                            | false =>
                              cases q6 : (h2.o == 0) with
                              | true =>
                                go_wp2_with fail
                                go_meet
                                exact ⟨_, rfl, fun _ => (by trivial), Mor.out⟩
                              | false =>
                                go_wp2_with fail
                                go_meet
                                exact ⟨_, rfl, fun _ => (by trivial), Mor.out⟩
              · have d0 : (f1 != f2) = true := by simp [k1]
                go_wp2_with fail
                go_meet
                exact ⟨_, rfl, fun q => (by cases q), Mor.out⟩
            obtain ⟨q, rfl, hq, mq⟩ := hcut
            rename World => w8
            have b15 := mq.blk b15
            have M08 := M07.trans mq
            have M48 := M47.trans mq
            clear b14 b16 b18 M07 M47 mq
            cases q with
            | true =>
              clear hq
              go_wp2_with fail
              refine (WK.out _).mono ?_
              rintro e w9 ⟨rfl, M9⟩
              go_wp2_with fail
              go_ret
              exact ⟨rfl, M0.trans (hM.trans (M08.trans ((Mor.out : Mo w8 _).trans (M9.trans Mor.out))))⟩
            | false =>
              have UPJ := Lib.hid (UP.out (by omega) (by omega) (hq rfl))
              have S8 := Lib.hid (HS.out.mo M08)
              have N8 := hM.trans M08
              have lWs := N8.size
              have D8 : Hid (DgW w3.heap.size w8 ⟨ea, es, ed, eb⟩ (dgC ea es ed (.slice B5 m c5))) := Lib.hid (DgW.mo (w := w4) ⟨B5, c5, by show dgC ea es ed (.slice B5 m c5) = dgC ea es ed (.slice B5 eb.length c5); rw [HMM.out], HB5.out, HT5.out⟩ M48)
              have LAl : LA.length ≤ 60 := by rw [HLN.out]; omega
              clear hq UP M48 b11 b11r
              go_wp2_with (at_builtin; refine wpList_append_own _ rfl _ _ 22 rfl w3.heap.size 41 i0 z0 39 80 Try.underlying22 hi hz0 hz1 hz2 hz3 (by decide) _ _ _ rfl (owns_mo S8.out.row (Mor.out : Mo w8 _)) ⟨w8.heap.size, 0, none⟩ 1 1 (dgC ea es ed (.slice B5 m c5)).toList rfl ?r1 ?r2 ?r3 ?r4 ?r5 ?r6 ?_)
              case r1 => rw [Array.length_toList]; exact (inferInstance : SzA (dgC ea es ed (.slice B5 m c5)) 39).out
              case r2 =>
                intro jj u hu
                have ea' : (⟨w8.heap.size, 0, none⟩ : Addr).add jj = ⟨w8.heap.size, jj, none⟩ := by
                  unfold Addr.add
                  split
                  · rename_i e; rw [e]
                  · rw [Nat.zero_add]
                rw [ea', blk_cell (inferInstance : Blk _ w8.heap.size 41 (dgC ea es ed (.slice B5 m c5))), ← Array.getElem?_toList]
                exact hu
              case r3 => exact fun u hu => one_list (cs := (dgC ea es ed (.slice B5 m c5))) inferInstance u hu
              case r4 => unfold maxLen; omega
              case r5 => omega
              case r6 => exact Nat.le_trans lWs (Mo.size Mor.out)
              intro v' w9 hown1 hgrow hq7
              have M9 : Mo w3 w9 := mo_grown (N8.trans Mor.out) hgrow (fun k e => (S8.out.row.lt k e).1)
              have S9 := Lib.hid ((S8.out.mo (Mor.out : Mo w8 _)).snoc (D8.out.mo Mor.out) XYH.out hown1 hgrow)
              clear hown1 hgrow hq7 S8 D8
              go_wp2_with fail
              go_roundw
              case rel => exact ⟨j + 1, CL ++ [dgC ea es ed (.slice B5 m c5)], by omega, by go_num, M9.trans Mor.out, by rw [SN.out]; exact S9.out.mo Mor.out, UPJ.out⟩
              case measure => simp [intOf]; omega
      · obtain rfl : j = L := by omega
        have eL : LA = l.map fun d => mvD d b := by rw [← HLA.out, ← HL.out, List.take_length]
        subst eL
        obtain ⟨A', cap2, e2, hDg⟩ := HS.out.dgs (by rw [HLN.out]; omega)
        injection e2 with e2 _ e2'
        subst e2 e2'
        have HUP : ∀ d ∈ l, MvOk b d := MvUp.all (by rw [HL.out]; exact HP.out)
        obtain ⟨rn1, rn2, rn3⟩ := runs_mv (win := wn) (room := room) HUP b0 b1 j (by rw [HL.out]; exact Nat.le_refl j)
        have R1 := Lib.hid (fun w (m : Mo W w) => mrun_in A cap j l room wn w HL.out (HD.out.mo m) (by omega) rm cw)
        obtain ⟨NA, hNA⟩ : ∃ n, (l.map fun d => mvD d b).length = n := ⟨_, rfl⟩
        have eNA : NA = j := by rw [← hNA, HLN.out]
        have R2 := Lib.hid (fun w (m : Mo wr w) => mrun_in A9 c9 NA (l.map fun d => mvD d b) room wn w hNA (hDg.mo m) (by omega) rm cw)
        rw [hNA] at ⊢
        subst eNA
        rw [rn1] at R2
        have SZ := Lib.hid (runS_szs wn room l HD.out.ok NA)
        have SZ2 := Lib.hid (runS_szs wn room (l.map fun d => mvD d b) (fun d hd => by obtain ⟨x, hx, rfl⟩ := List.mem_map.1 hd; exact mvD_okD (HD.out.ok x hx) b) NA)
        have BC := runC_bd wn room l NA
        have RLn := runS_len wn room l NA
        have FC := fits_cnC (c := runC wn room l NA) (fun i => by have := BC i; omega)
        have nqc := fun w => run_neq_self fl_cnt w FC
        have RN3 := Lib.hid rn3
        generalize runC wn room l NA = C at *
        generalize runS wn room l NA = R at *
        generalize runS wn room (l.map fun d => mvD d b) NA = R' at *
        obtain ⟨N, hN⟩ : ∃ N, R.length = N := ⟨_, rfl⟩
        rw [hN] at R1 rn2 RLn
        rw [rn2] at R2
        have HN := Lib.hid hN
        have HN2 := Lib.hid rn2
        have N60 : N ≤ 60 := by omega
        clear hN hNA HS HP hDg BC rn1 rn2 rn3 HUP FC HLN HLA
        go_wp2_with fail
        refine (R1.out _ (M0.trans (hM.trans Mor.out))).mono ?_
        rintro e w4 ⟨v1, rfl, O1, M4⟩
        have M04 : Mo wr w4 := Mo.trans Mor.out M4
        obtain ⟨P1, q1, rfl⟩ := row_slS O1
        have O1' := Lib.hid O1
        clear M4 O1 R1
        go_upto_region 18 with (fail)
        refine wp_name ?_
        intro w5 hw5
        have b21 : Blk w5 w4.heap.size 29 (cnC C) := by rw [hw5]; infer_instance
        have M45 : Mo w4 w5 := by rw [hw5]; exact Mor.out
        have O5 := Lib.hid (owns_mo O1'.out M45)
        have M05 := M04.trans M45
        obtain ⟨g21, hg21⟩ : ∃ x, w4.heap.size = x := ⟨_, rfl⟩
        have lr1 := M04.size
        rw [hg21] at b21 lr1 ⊢
        clear hw5 O1' M45 M04 hg21
        go_wp2_with fail
        refine (R2.out _ (M05.trans Mor.out)).mono ?_
        rintro e w6 ⟨v2, rfl, O2, M6⟩
        have M56 : Mo w5 w6 := Mo.trans Mor.out M6
        obtain ⟨P2, q2, rfl⟩ := row_slS O2
        have O2' := Lib.hid O2
        clear M6 O2 R2
        go_upto_region 19 with (fail)
        refine wp_name ?_
        intro w7 hw7
        have b24 : Blk w7 w6.heap.size 29 (cnC C) := by rw [hw7]; infer_instance
        have M67 : Mo w6 w7 := by rw [hw7]; exact Mor.out
        have b21 := (M56.trans M67).blk b21
        have O17 := Lib.hid (owns_mo O5.out (M56.trans M67))
        have O27 := Lib.hid (owns_mo O2'.out M67)
        have M07 := M05.trans (M56.trans M67)
        obtain ⟨g24, hg24⟩ : ∃ x, w6.heap.size = x := ⟨_, rfl⟩
        rw [hg24] at b24 ⊢
        clear hw7 O2' O5 M67 hg24 M05 M56
        have dN : ((N : Int) != (N : Int)) = false := by simp
        have dN' : (N != N) = false := by simp
        go_wp2_with fail
        go_loopw [160] (fun i wx => ∃ m : Nat, m ≤ N ∧ i = .int .i64 m ∧ Mo w7 wx) (fun i _ => N - (intOf i).toNat)
        case atStart => exact ⟨0, by omega, rfl, Mor.out⟩
        case round =>
          rename World => wx
          obtain ⟨m, hm, rfl, hMx⟩ := hrel
          by_cases cm : m < N
          · have hmR : m < R.length := by rw [HN.out]; exact cm
            have hmR' : m < R'.length := by rw [HN2.out]; exact cm
            obtain ⟨ga, ca, ea, -, hca⟩ := own_cellsS (O17.out) SZ.out (by omega)
            obtain ⟨gb, cb, eb, -, hcb⟩ := own_cellsS (O27.out) SZ2.out (by omega)
            injection ea with ea _ ea'
            injection eb with eb _ eb'
            subst ea ea' eb eb'
            have zx : R[m].size = 48 := SZ.out _ (List.getElem_mem hmR)
            have zy : R'[m].size = 48 := SZ2.out _ (List.getElem_mem hmR')
            have h1 := hca m hmR
            have h2 := hcb m hmR'
            obtain ⟨f, t1, t2, t3, t4, o, dd, s, st, hf, ff, iu, it, e1, e2⟩ := (RN3.out m R[m] R'[m] (List.getElem?_eq_getElem hmR) (List.getElem?_eq_getElem hmR')).ex
            have la : ∀ w, Mo w7 w → (loadF 45 (.pointer (some ⟨ga, m * 48, none⟩))).run Try.prog w = .ok (.agg (smC f t1 t2 t3 t4 o dd s st)) w := fun w M => by
              rw [← e1]
              exact run_loadC 45 48 _ ga (m * 48) _ zx (fun jj u hj => by
                have q := h1 jj u hj
                have : LtW ga w7 := LtW.of_cell q
                rw [M.cell, q])
            have lb : ∀ w, Mo w7 w → (loadF 45 (.pointer (some ⟨gb, m * 48, none⟩))).run Try.prog w = .ok (.agg (smC f (t1 + b) (t2 + b) (t3 + b) (t4 + b) o dd s st)) w := fun w M => by
              rw [← e2]
              exact run_loadC 45 48 _ gb (m * 48) _ zy (fun jj u hj => by
                have q := h2 jj u hj
                have : LtW gb w7 := LtW.of_cell q
                rw [M.cell, q])
            have la1 := la wx hMx
            have HLB := Lib.hid lb
            have m0 : (0 : Int) ≤ m := by omega
            have m1 : (m : Int) < N := by omega
            have hwm : IntKind.i64.wrap ((m : Int) + 1) = m + 1 := by rw [IntKind.wrap_i64]; omega
            obtain ⟨it1, it2, it3, it4⟩ := it
            obtain ⟨iu1, iu2, iu3, iu4⟩ := iu
            have add : ∀ t, InW t → InW (t + b) → ∀ w, Calls Try.prog 26 #[.agg #[.int .i64 (hiW t), .int .u64 (loW t)], .agg #[.int .i64 (hiW b), .int .u64 (loW b)]] w fun e w' => e = .returned (.agg #[.int .i64 (hiW (t + b)), .int .u64 (loW (t + b))]) ∧ Mo w w' := fun t ht hu w => by
              have q := add_any t b ht ib w
              rw [cl_in hu] at q
              exact q
            have A1 := Lib.hid (add t1 it1 iu1)
            have A2 := Lib.hid (add t2 it2 iu2)
            have A3 := Lib.hid (add t3 it3 iu3)
            have A4 := Lib.hid (add t4 it4 iu4)
            have nw : ∀ t, InW t → ∀ w, (neqF 32 (.agg #[.int .i64 (hiW t), .int .u64 (loW t)]) (.agg #[.int .i64 (hiW t), .int .u64 (loW t)])).run Try.prog w = .ok (.bool false) w := fun t ht w => run_neq_self fl_wide w (fits_wd ht)
            have nw1 := nw _ iu1
            have nw2 := nw _ iu2
            have nw3 := nw _ iu3
            have nw4 := nw _ iu4
            have nf := fun w => run_neq_self fl_flow w ff
            have of_ := one_of_fits ff
            generalize t1 + b = u1 at *
            generalize t2 + b = u2 at *
            generalize t3 + b = u3 at *
            generalize t4 + b = u4 at *
            clear hca hcb h1 h2 hmR hmR' zx zy e1 e2 la lb add nw it1 it2 it3 it4 iu1 iu2 iu3 iu4 ff
            go_upto_region 24 with (fail)
            refine wp_name ?_
            intro wy hwy
            have b27 : Blk wy wx.heap.size 45 (smC f t1 t2 t3 t4 o dd s st) := by rw [hwy]; infer_instance
            have Mxy : Mo wx wy := by rw [hwy]; exact Mor.out
            have lb1 := HLB.out wy (hMx.trans Mxy)
            have b11y := ((hM.trans M07).trans (hMx.trans Mxy)).blk b11
            clear hwy la1 HLB
            go_upto_region 25 with (fail)
            refine wp_name ?_
            intro wz hwz
            have b28 : Blk wz wy.heap.size 45 (smC f u1 u2 u3 u4 o dd s st) := by rw [hwz]; infer_instance
            have Myz : Mo wy wz := by rw [hwz]; exact Mor.out
            have b27 := Myz.blk b27
            have b11z := Myz.blk b11y
            clear hwz lb1 b11y
            first | (refine wp_region_mo (by kernel_rfl) (by kernel_rfl) ?_) | (refine wp_region_mo' (by kernel_rfl) (by kernel_rfl) ?_)
            simp only [List.append]
            repeat (go_big_quiet_step (first | (with_reducible exact quiet_mo (A1.out _)) | (with_reducible exact quiet_mo (A2.out _)) | (with_reducible exact quiet_mo (A3.out _)) | (with_reducible exact quiet_mo (A4.out _))))
            refine wpQuiet_nil ?_
            intro _ hw'
            obtain ⟨⟨J9, d9⟩, hw''⟩ := hw'
            subst hw''
            go_wp2_with fail
            go_roundw
            case rel => exact ⟨m + 1, by omega, by go_num, hMx.trans (Mxy.trans (Myz.trans Mor.out))⟩
            case measure => simp [intOf]; omega
          · obtain rfl : m = N := by omega
            go_wp2_with fail
            refine (WK.out _).mono ?_
            rintro e w9 ⟨rfl, M9⟩
            go_wp2_with fail
            go_ret
            exact ⟨rfl, M0.trans (hM.trans (M07.trans (hMx.trans ((Mor.out : Mo wx _).trans (M9.trans Mor.out)))))⟩
end Go.Proofs.Ytcflebggepmmcaa
