/- horologelaw21.ExtPads: the walk. -/
import Derived.Test.YtbndcopeaaifdaaExtO
import Derived.Test.YtbndcopeaaifdaaFind21
import Derived.Test.YtbndcopeaaifdaaExtG
import Derived.Deep.RegionHeld3
namespace Go.Proofs.Ytbndcopeaaifdaa
open Go.RowKit

theorem extS_two {w : World} {g : Nat} {k k2 : Int} {u u2 : Value} {v v2 : List Int} (h : Blk w g 43 #[.int .u16 k, u, .int .u16 k2, u2]) (h1 : 0 ≤ k) (h2 : k ≤ 65535) (h3 : 0 ≤ k2) (h4 : k2 ≤ 65535) (hu : ByteV w u v) (hu2 : ByteV w u2 v2) : ExtS w (some ⟨g, 0, none⟩) 2 [⟨k, v⟩, ⟨k2, v2⟩] :=
  ⟨by simp, by simp, fun e => (by cases e), .inr ⟨g, 0, rfl, fun i hi => by
    have : i = 0 ∨ i = 1 := by simp at hi; omega
    rcases this with rfl | rfl
    · exact ⟨by rw [blk_cell h]; rfl, h1, h2, u, by rw [blk_cell h]; rfl, hu⟩
    · exact ⟨by rw [blk_cell h]; rfl, h3, h4, u2, by rw [blk_cell h]; rfl, hu2⟩⟩⟩
set_option maxRecDepth 20000 in
set_option maxHeartbeats 8000000 in
theorem pads21_any (k other : Int) (A : Option Addr) (n cap : Nat) (vs : List Int) (W : World) (hk1 : 0 ≤ k) (hk2 : k ≤ 65535) (hn : vs.length = n) (h : ByteS W A cap vs) :
    Calls Try.prog 7 #[.agg #[.int .u16 k, .slice A n cap], .int .u16 other] W fun e w' => e = .returned (.bool true) ∧ Mo W w' := by
  have hlim := h.lim
  have hle := h.le
  rw [hn] at hlim hle
  obtain ⟨t, ht⟩ : ∃ t : Nat, (vs.take 65528).length = t := ⟨_, rfl⟩
  have ht' : min n 65528 = t := by rw [← ht, List.length_take, hn]; omega
  have hp := padM_ok vs
  have hpi := padM_idem vs
  have hpe : padM vs = vs.take 65528 ++ zeros (padL t - t) := by unfold padM; rw [ht]
  have hpl : (padM vs).length = padL t := by rw [padM_len, ht]
  have PA := Lib.hid (fun w (m : Mo W w) => pad_any k A n cap vs w hn (h.mo m))
  have WK := Lib.hid works_any
  obtain ⟨q, hq⟩ : ∃ q : Nat, padL t = q := ⟨_, rfl⟩
  have hq1 : t ≤ q ∧ q ≤ max (t + 3) 12 ∧ 12 ≤ q ∧ q % 4 = 0 ∧ q ≤ 65528 := by rw [← hq]; unfold padL; omega
  rw [hq] at hpe hpl
  have HT := Lib.hid ht
  have HB := Lib.hid h
  have HN := Lib.hid hn
  generalize padM vs = p at *
  have HPE := Lib.hid hpe
  have HPL := Lib.hid hpl
  have HP := Lib.hid hp
  have HPI := Lib.hid hpi
  clear h hn ht hpe hpl hp hpi hq
  have m20 : ∀ w : World, (Instr.makeSlice 23 (.int .i64 20) (.int .i64 20)).run Try.prog w = .ok (.slice (some ⟨w.heap.size, 0, none⟩) 20 20) (w.alloc (.cells (byteZ 20) 5)) := make_bytes 20 (by omega)
  obtain ⟨kx, hkx, kx1, kx2, kx3⟩ := xor_one k hk1 hk2
  go_enter Try.func7, Try.ntmps7
  by_cases cn : 70000 < n
  · have cn' : (70000 : Int) < n := by omega
    go_wp2_with fail
    refine (WK.out _).mono ?_
    rintro e w9 ⟨rfl, M9⟩
    go_wp2_with fail
    go_ret
    exact ⟨rfl, Mo.trans Mor.out M9⟩
  · have cn' : ¬ (70000 : Int) < n := by omega
    go_wp2_with fail
    refine (PA.out _ Mor.out).mono ?_
    rintro e w1 ⟨v, rfl, ⟨A1, c1, rfl, hb1⟩, M1⟩
    rw [HPL.out]
    have BX : Blk w1 W.heap.size 43 #[.int .u16 k, .slice A n cap] := M1.blk inferInstance
    have M1' := Mo.trans (Mor.out : Mo W _) M1
    have H1 := Lib.hid hb1
    clear hb1 M1 PA
    have a0 : w1.cell? ⟨W.heap.size, 0, none⟩ = some (.int .u16 k) := by rw [blk_cell BX]; rfl
    have a1 : w1.cell? ⟨W.heap.size, 1, none⟩ = some (.slice A n cap) := by rw [blk_cell BX]; rfl
    go_upto_region 4 with (fail)
    refine wp_name ?_
    intro V hV
    have B5 : Blk V w1.heap.size 43 #[.int .u16 k, .slice A1 q c1] := by rw [hV]; infer_instance
    have BV : Blk V W.heap.size 43 #[.int .u16 k, .slice A n cap] := by rw [hV]; infer_instance
    have MV : Mo w1 V := by rw [hV]; exact Mor.out
    clear hV a0 a1 BX
    have L1 : q ≤ c1 := by have := H1.out.le; rw [HPL.out] at this; exact this
    have a0 : V.cell? ⟨W.heap.size, 0, none⟩ = some (.int .u16 k) := by rw [blk_cell BV]; rfl
    have a1 : V.cell? ⟨W.heap.size, 1, none⟩ = some (.slice A n cap) := by rw [blk_cell BV]; rfl
    have b0 : V.cell? ⟨w1.heap.size, 0, none⟩ = some (.int .u16 k) := by rw [blk_cell B5]; rfl
    have b1 : V.cell? ⟨w1.heap.size, 1, none⟩ = some (.slice A1 q c1) := by rw [blk_cell B5]; rfl
    go_cut [6] (fun s6 wx => s6 = .int .i64 t ∧ V = wx)
    case first =>
      by_cases c : n ≤ 65528
      · obtain rfl : t = n := by omega
        have c' : (t : Int) ≤ 65528 := by omega
        clear ht' cn cn'
        go_wp2_with fail
        all_goals (go_meet; exact ⟨rfl, rfl⟩)
      · obtain rfl : t = 65528 := by omega
        have c' : (65528 : Int) < n := by omega
        clear ht'
        go_wp2_with fail
        all_goals (go_meet; exact ⟨rfl, rfl⟩)
    case rest =>
      obtain ⟨rfl, rfl⟩ := hcut
      have ltn : t ≤ n := by omega
      have lt8 : t ≤ 65528 := by omega
      have hpt : p.take t = vs.take 65528 := by rw [HPE.out, List.take_left' HT.out]
      have hvt : vs.take t = vs.take 65528 := by
        rw [← ht']
        by_cases c : n ≤ 65528
        · rw [List.take_of_length_le (by rw [HN.out]; omega), List.take_of_length_le (by rw [HN.out]; omega)]
        · rw [show min n 65528 = 65528 by omega]
      have SA : ∀ J d, (convert 23 9 (.slice A1 t c1)).run Try.prog (more V J d) = .ok (.string (strOfNums (vs.take 65528))) (more V J d) := fun J d => by
        have := str_conv (((H1.out.take t).mo MV).mo (⟨J, d, rfl⟩ : Mo V (more V J d))) (n := t) (by rw [List.length_take, HPL.out]; omega)
        rwa [hpt] at this
      have SB : ∀ J d, (convert 23 9 (.slice A t cap)).run Try.prog (more V J d) = .ok (.string (strOfNums (vs.take 65528))) (more V J d) := fun J d => by
        have := str_conv (((HB.out.take t).mo (M1'.trans MV)).mo (⟨J, d, rfl⟩ : Mo V (more V J d))) (n := t) (by rw [List.length_take, HN.out]; omega)
        rwa [hvt] at this
      clear hpt hvt
      generalize strOfNums (vs.take 65528) = st at *
      have g2 : decide (q < t) = false := by simp; omega
      have g3 : (!st.toList == st.toList) = false := by simp
      have g4 : IntKind.i64.wrap ((t : Int) + 3) = t + 3 := by rw [IntKind.wrap_i64]; omega
      have g5 : decide ((q : Int) < 12) = false := by simp; omega
      have g6 : Int.tmod q 4 = 0 := by rw [Int.tmod_eq_emod_of_nonneg (by omega)]; omega
      obtain ⟨mx, hmx⟩ : ∃ mx : Int, (if (t : Int) + 3 < 12 then (12 : Int) else t + 3) = mx := ⟨_, rfl⟩
      have hmx2 : (q : Int) ≤ mx := by rw [← hmx]; split <;> omega
      have g10 : decide (mx < (q : Int)) = false := by simp; omega
      have g7 : (t : Int) ≤ c1 := by omega
      have g8 : (t : Int) ≤ cap := by omega
      have g9 : (0 : Int) ≤ t := by omega
      go_upto_region 5 with (fail)
      refine wp_region_mo (by kernel_rfl) (by kernel_rfl) ?_
      repeat (go_big_quiet_step (fail))
      refine wpQuiet_nil ?_
      intro _ hw'
      obtain ⟨⟨JQ, dQ⟩, hw''⟩ := hw'
      have MQ : Mo V (more V JQ dQ) := ⟨JQ, dQ, rfl⟩
      rw [← hw''] at MQ
      clear hw'' SA SB hmx g10 g2
      rename_i V2
      have B5' := MQ.blk B5
      have BV' := MQ.blk BV
      have MV2 := MV.trans MQ
      have MW2 := M1'.trans MV2
      have hB1 := H1.out.mo MV2
      obtain ⟨A3, h3, su1, su2⟩ := hB1.drop t (by rw [HPL.out]; omega)
      rw [HPL.out] at su1 su2
      have h3' : p.drop t = zeros (q - t) := by rw [HPE.out, List.drop_left' HT.out]
      rw [h3'] at h3
      have H3 := Lib.hid h3
      have H5 := Lib.hid B5'
      have HX := Lib.hid BV'
      have b0 : V2.cell? ⟨w1.heap.size, 0, none⟩ = some (.int .u16 k) := by rw [blk_cell B5']; rfl
      have b1 : V2.cell? ⟨w1.heap.size, 1, none⟩ = some (.slice A1 q c1) := by rw [blk_cell B5']; rfl
      clear B5 BV B5' BV' MQ MV hB1 h3 h3' a0 a1 g3 g4 g5 g6 hmx2 cn cn'
      go_wp2_with fail
      go_loopw [8, 78] (fun _ i wr => ∃ j : Nat, j ≤ q - t ∧ i = .int .i64 j ∧ V2 = wr) (fun _ i _ => q - t - (intOf i).toNat)
      case atStart => exact ⟨0, by omega, rfl, rfl⟩
      case round =>
        obtain ⟨j, hj, rfl, rfl⟩ := hrel
        by_cases cj : j < q - t
        · obtain ⟨g, off, rfl, LG, hc⟩ := H3.out.get (by simp; omega)
          have c0 := (hc j (by simp; omega)).1
          rw [List.getElem_replicate] at c0
          have i0 : (0 : Int) ≤ j := by omega
          have i1 : (j : Int) < (q - t : Nat) := by omega
          clear hc
          go_wp2_with fail
          go_roundw
          case rel => exact ⟨j + 1, by omega, by go_num, trivial⟩
          case measure => simp [intOf]; omega
        · obtain rfl : j = q - t := by omega
          clear su1 su2 cj
          go_upto_region 13 with (fail)
          go_cut [9, 10] (fun s9 s10 wx => ∃ A c n, s9 = .slice A n c ∧ s10 = .int .i64 0 ∧ Mo V2 wx)
          case first =>
            have LB5 : LtW w1.heap.size V2 := ⟨H5.out.lt⟩
            have PP : ∀ w g1 g2, Blk w g1 43 #[.int .u16 k, .slice A1 q c1] → Mo V2 w → Blk w g2 5 (byteZ 20) → Calls Try.prog 10 #[.slice (some ⟨g1, 0, none⟩) 1 1, .slice (some ⟨g2, 0, none⟩) 20 20] w (PutRet (encM [⟨k, p⟩] ++ zeros 20, 0) w) := by
              intro w g1 g2 q1 q2 q3
              rw [← put_pad k HP.out]
              exact put_any _ _ 1 20 1 20 [⟨k, p⟩] (zeros 20) _ rfl rfl (extS_one q1 hk1 hk2 ⟨A1, c1, by rw [HPL.out], H1.out.mo (MV2.trans q2)⟩) (byteS_zeros q3 (by omega)) (by omega) (by simp [totM]; have := HPL.out; omega)
            have el : ∃ n6, (encM [⟨k, p⟩] ++ zeros 20).length = n6 := ⟨_, rfl⟩
            obtain ⟨n6, el⟩ := el
            go_region_with (((with_reducible refine (PP _ _ _ inferInstance Mor.out inferInstance).mono ?_); rintro e w4 ⟨v1, rfl, ⟨A6, c6, rfl, h1⟩, M4⟩
                             simp only [el]
                             have M4' := Mo.trans (Mor.out : Mo V2 _) M4
                             clear h1 M4))
            all_goals (go_wp2_with fail; go_meet; exact ⟨_, _, _, rfl, rfl, M4'⟩)
          case rest =>
            obtain ⟨A6, c6, n6, rfl, rfl, M6⟩ := hcut
            have B5 := M6.blk H5.out
            have BX := M6.blk HX.out
            have MC := MV2.trans M6
            have MW := MW2.trans M6
            clear b0 b1 H3 H5 HX M6 MV2 MW2
            have a0 : wc.cell? ⟨W.heap.size, 0, none⟩ = some (.int .u16 k) := by rw [blk_cell BX]; rfl
            have b0 : wc.cell? ⟨w1.heap.size, 0, none⟩ = some (.int .u16 k) := by rw [blk_cell B5]; rfl
            have b1 : wc.cell? ⟨w1.heap.size, 1, none⟩ = some (.slice A1 q c1) := by rw [blk_cell B5]; rfl
            have F1 : ∀ w g, Blk w g 43 #[.int .u16 kx, .slice none 0 0, .int .u16 k, .slice A1 q c1] → Mo wc w → Calls Try.prog 17 #[.slice (some ⟨g, 0, none⟩) 2 2, .int .u16 k] w (FindRet [⟨kx, []⟩, ⟨k, p⟩] k w) := by
              intro w g q1 q2
              exact find_any _ 2 2 k _ w rfl (extS_two q1 kx1 kx2 hk1 hk2 (byteV_nil _) ⟨A1, c1, by rw [HPL.out], H1.out.mo (MC.trans q2)⟩)
            have F2 : ∀ w g, Blk w g 43 #[.int .u16 k, .slice A1 q c1] → Mo wc w → Calls Try.prog 17 #[.slice (some ⟨g, 0, none⟩) 1 1, .int .u16 other] w (FindRet [⟨k, p⟩] other w) := by
              intro w g q1 q2
              exact find_any _ 1 1 other _ w rfl (extS_one q1 hk1 hk2 ⟨A1, c1, by rw [HPL.out], H1.out.mo (MC.trans q2)⟩)
            go_wp2_with fail
            refine (F1 _ _ inferInstance Mor.out).mono ?_
            rintro e w2 ⟨x, v7, bx, rfl, hv7, x1, x2, ht, hf, M2⟩
            have M2' := Mo.trans (Mor.out : Mo wc _) M2
            cases bx
            · exact absurd rfl (hf rfl ⟨k, p⟩ (by simp))
            · obtain ⟨hm, hxk⟩ := ht rfl
              obtain rfl : x = ⟨k, p⟩ := by
                simp only [List.mem_cons, List.not_mem_nil, or_false] at hm
                rcases hm with rfl | rfl
                · exact absurd hxk kx3
                · rfl
              obtain ⟨A7, c7, rfl, h7⟩ := hv7
              simp only at h7 ⊢
              rw [HPL.out]
              have H7 := Lib.hid h7
              have B5 := M2'.blk B5
              have BX := M2'.blk BX
              have b0 : w2.cell? ⟨w1.heap.size, 0, none⟩ = some (.int .u16 k) := by rw [blk_cell B5]; rfl
              have b1 : w2.cell? ⟨w1.heap.size, 1, none⟩ = some (.slice A1 q c1) := by rw [blk_cell B5]; rfl
              clear hm hxk hf ht h7 M2 F1
              go_wp2_with fail
              refine (F2 _ _ inferInstance (M2'.trans Mor.out)).mono ?_
              rintro e w3 ⟨y, v8, by_, rfl, hv8, y1, y2, hty, hfy, M3⟩
              have M3' := Mo.trans (Mor.out : Mo w2 _) M3
              have BY : Blk w3 w2.heap.size 43 #[.int .u16 k, .slice A7 q c7] := M3.blk inferInstance
              have B5 := M3'.blk B5
              have BX := M3'.blk BX
              have hbo : by_ = decide (other = k) := by
                cases by_
                · exact (decide_eq_false (fun e => hfy rfl ⟨k, p⟩ (by simp) e.symm)).symm
                · obtain ⟨hm, hyk⟩ := hty rfl
                  obtain rfl : y = ⟨k, p⟩ := by simpa using hm
                  exact (decide_eq_true hyk.symm).symm
              obtain ⟨A8, c8, rfl, h8⟩ := hv8
              obtain ⟨bo, hbo1, hbo2⟩ : ∃ bo, decide (other = k) = bo ∧ (other == k) = bo := ⟨_, rfl, by by_cases e : other = k <;> simp [e]⟩
              rw [hbo, hbo1]
              clear hbo hbo1 hty hfy h8 M3 F2
              generalize y.val.length = q8 at *
              go_upto_region 16 with (fail)
              refine wp_name ?_
              intro Z hZ
              have MZ : Mo w3 Z := by rw [hZ]; exact Mor.out
              clear hZ
              have MWZ := (MW.trans M2').trans (M3'.trans MZ)
              have HZ1 := H1.out.mo ((MC.trans M2').trans (M3'.trans MZ))
              have HZ7 := H7.out.mo (M3'.trans MZ)
              have B5 := MZ.blk B5
              have BX := MZ.blk BX
              have BY := MZ.blk BY
              have z0 : Z.cell? ⟨w1.heap.size, 0, none⟩ = some (.int .u16 k) := by rw [blk_cell B5]; rfl
              have z1 : Z.cell? ⟨w1.heap.size, 1, none⟩ = some (.slice A1 q c1) := by rw [blk_cell B5]; rfl
              have z2 : Z.cell? ⟨w2.heap.size, 0, none⟩ = some (.int .u16 k) := by rw [blk_cell BY]; rfl
              have z3 : Z.cell? ⟨w2.heap.size, 1, none⟩ = some (.slice A7 q c7) := by rw [blk_cell BY]; rfl
              have z4 : Z.cell? ⟨W.heap.size, 0, none⟩ = some (.int .u16 k) := by rw [blk_cell BX]; rfl
              have PD : ∀ w, Mo Z w → Calls Try.prog 16 #[.agg #[.int .u16 k, .slice A1 q c1]] w fun e w' => ∃ A9 c9, e = .returned (.agg #[.int .u16 k, .slice A9 q c9]) ∧ ByteS w' A9 c9 p ∧ Mo w w' := fun w m => by
                refine (pad_any k A1 q c1 p w HPL.out (HZ1.mo m)).mono ?_
                rintro e w' ⟨v, rfl, ⟨A9, c9, rfl, h9⟩, m'⟩
                rw [HPI.out] at h9 ⊢
                rw [HPL.out]
                exact ⟨A9, c9, rfl, h9, m'⟩
              have SM : ∀ w g1 g2 Ax cx Ay cy, Blk w g1 43 #[.int .u16 k, .slice Ax q cx] → Blk w g2 43 #[.int .u16 k, .slice Ay q cy] → ByteS w Ax cx p → ByteS w Ay cy p → Calls Try.prog 14 #[.slice (some ⟨g1, 0, none⟩) 1 1, .slice (some ⟨g2, 0, none⟩) 1 1] w fun e w' => e = .returned (.bool true) ∧ Mo w w' := fun w g1 g2 Ax cx Ay cy q1 q2 q3 q4 => by
                have := refSame_any (some ⟨g1, 0, none⟩) (some ⟨g2, 0, none⟩) 1 1 1 1 [⟨k, p⟩] [⟨k, p⟩] w rfl rfl (extS_one q1 hk1 hk2 ⟨Ax, cx, by rw [HPL.out], q3⟩) (extS_one q2 hk1 hk2 ⟨Ay, cy, by rw [HPL.out], q4⟩)
                rwa [decide_eq_true rfl] at this
              have LZ1 : LtW w1.heap.size Z := ⟨B5.lt⟩
              have LZ2 : LtW w2.heap.size Z := ⟨BY.lt⟩
              have LZ3 : LtW W.heap.size Z := ⟨BX.lt⟩
              clear B5 BX BY MW M2' M3' MZ MC
              go_region_held3 (fun w' => w'.cell? ⟨w1.heap.size, 0, none⟩ = some (.int .u16 k) ∧ w'.cell? ⟨w1.heap.size, 1, none⟩ = some (.slice A1 q c1) ∧ w'.cell? ⟨w2.heap.size, 0, none⟩ = some (.int .u16 k) ∧ w'.cell? ⟨w2.heap.size, 1, none⟩ = some (.slice A7 q c7) ∧ w'.cell? ⟨W.heap.size, 0, none⟩ = some (.int .u16 k))
                (first | (simp [go_sem, z0, z1, z2, z3, z4]; done) | (simp [go_sem, e0, e1, e2, e3, e4]; done) | (simp [go_sem, f0, f1, f2, f3, f4]; done) | (simp [go_sem, g0, g1, g2, g3, g4]; done) | (simp [go_sem, h0, h1, h2, h3, h4]; done))
                (first
                  | ((with_reducible refine (PD _ Mor.out).mono ?_); rintro e w5 ⟨A9, c9, rfl, h9, M5⟩
                     have M5' := Mo.trans (Mor.out : Mo Z _) M5
                     have C5 : MoC _ w5 := ⟨M5⟩
                     have e0 := M5'.cell.trans z0
                     have e1 := M5'.cell.trans z1
                     have e2 := M5'.cell.trans z2
                     have e3 := M5'.cell.trans z3
                     have e4 := M5'.cell.trans z4
                     have LE1 : LtW w1.heap.size w5 := M5'.ltW LZ1
                     have LE2 : LtW w2.heap.size w5 := M5'.ltW LZ2
                     have LE3 : LtW W.heap.size w5 := M5'.ltW LZ3)
                  | ((with_reducible refine (SM _ _ _ A9 c9 A1 c1 inferInstance inferInstance (h9.mo Mor.out) (HZ1.mo (M5'.trans Mor.out))).mono ?_); rintro e w6 ⟨rfl, M6⟩
                     have M6' := M5'.trans (Mo.trans (Mor.out : Mo w5 _) M6)
                     have C6 : MoC _ w6 := ⟨M6⟩
                     have f0 := M6'.cell.trans z0
                     have f1 := M6'.cell.trans z1
                     have f2 := M6'.cell.trans z2
                     have f3 := M6'.cell.trans z3
                     have f4 := M6'.cell.trans z4
                     have LF1 : LtW w1.heap.size w6 := M6'.ltW LZ1
                     have LF2 : LtW w2.heap.size w6 := M6'.ltW LZ2
                     have LF3 : LtW W.heap.size w6 := M6'.ltW LZ3)
                  | ((with_reducible refine (SM _ _ _ A7 c7 A1 c1 inferInstance inferInstance (HZ7.mo (M6'.trans Mor.out)) (HZ1.mo (M6'.trans Mor.out))).mono ?_); rintro e w7 ⟨rfl, M7⟩
                     have M7' := M6'.trans (Mo.trans (Mor.out : Mo w6 _) M7)
                     have g0 := M7'.cell.trans z0
                     have g1 := M7'.cell.trans z1
                     have g2 := M7'.cell.trans z2
                     have g3 := M7'.cell.trans z3
                     have g4 := M7'.cell.trans z4
                     have LG1 : LtW w1.heap.size w7 := M7'.ltW LZ1
                     have LG2 : LtW w2.heap.size w7 := M7'.ltW LZ2
                     have LG3 : LtW W.heap.size w7 := M7'.ltW LZ3)
                  | ((with_reducible refine (WK.out _).mono ?_); rintro e w8 ⟨rfl, M8⟩
                     have M8' := M7'.trans (Mo.trans (Mor.out : Mo w7 _) M8)
                     have h0 := M8'.cell.trans z0
                     have h1 := M8'.cell.trans z1
                     have h2 := M8'.cell.trans z2
                     have h3 := M8'.cell.trans z3
                     have h4 := M8'.cell.trans z4
                     have LH1 : LtW w1.heap.size w8 := M8'.ltW LZ1
                     have LH2 : LtW w2.heap.size w8 := M8'.ltW LZ2
                     have LH3 : LtW W.heap.size w8 := M8'.ltW LZ3))
              all_goals (go_wp2_with fail; go_ret; exact ⟨rfl, MWZ.trans M8'⟩)
end Go.Proofs.Ytbndcopeaaifdaa
