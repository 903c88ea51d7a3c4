/- horologelaw33.TruthLeast: the walk. -/
import Derived.Test.YtdppkbnjedehbaaLeastP
namespace Go.Proofs.Ytdppkbnjedehbaa
open Go.RowKit

attribute [local go_sem] blk_cell' blk_frozen'
set_option maxRecDepth 20000 in
set_option maxHeartbeats 16000000 in
theorem least33_any (l : List Iv) (A : Option Addr) (c : Nat) (W : World) (hS : IvS W A c l) : Calls Try.prog 4 #[.slice A l.length c] W fun e w' => e = .returned (.bool true) ∧ Mo W w' := by
  have HW := Lib.hid (fun w => works_any w)
  have OF := Lib.hid (of_any l A c W hS.row hS.lim)
  have HS := Lib.hid hS
  clear hS
  obtain ⟨N, hN⟩ : ∃ N, l.length = N := ⟨_, rfl⟩
  have HN := Lib.hid hN
  rw [hN] at OF ⊢
  clear hN
  go_enter Try.func4, Try.ntmps4
  go_wp2_with fail
  refine OF.out.mono ?_
  rintro e w1 ⟨v1, rfl, O1, M1⟩
  obtain ⟨A1, c1, rfl, R1⟩ := own_ivs O1 HN.out
  have R1' := Lib.hid R1
  clear O1 R1 OF
  by_cases c0 : 60 < N
  · have d0 : decide ((60 : Int) < (N : Int)) = true := decide_eq_true (by omega)
    go_wp2_with fail
    refine (HW.out _).mono ?_
    rintro e w9 ⟨rfl, M9⟩
    go_wp2_with fail
    go_ret
    exact ⟨rfl, M1.trans ((Mor.out : Mo w1 _).trans M9)⟩
  · have d0 : decide ((60 : Int) < (N : Int)) = false := decide_eq_false (by omega)
    have hl : l.length ≤ 60 := by have := HN.out; omega
    have RM := Lib.hid (fun w (M : Mo w1 w) => rmay_any l A1 c1 w (R1'.out.mo M) (by omega))
    have HA := Lib.hid (fun p w (M : Mo w1 w) => had_any l A1 c1 p w (R1'.out.mo M) (by omega))
    have WI := Lib.hid (fun w (M : Mo w1 w) => within_any l A c 4611686018427387904 w ((HS.out.row.mo M1).mo M) (by omega) ⟨by decide, by decide⟩)
    have FI := Lib.hid (fun w (M : Mo w1 w) => find_any l A c w ((HS.out.row.mo M1).mo M) (by omega) HS.out.inIv)
    have RV := Lib.hid (fun w (M : Mo w1 w) => (HS.out.row.mo M1).mo M)
    rw [HN.out] at RM HA WI FI hl
    clear R1' HS
    go_wp2_with fail
    refine (RM.out _ Mor.out).mono ?_
    rintro e w2 ⟨⟨b, rfl, hb⟩, M2⟩
    have N2 := (Mor.out : Mo w1 _).trans M2
    have HB := Lib.hid hb
    clear hb RM M2
    cases b with
    | false =>
      go_wp2_with fail
      refine (HW.out _).mono ?_
      rintro e w9 ⟨rfl, M9⟩
      go_wp2_with fail
      go_ret
      exact ⟨rfl, M1.trans (N2.trans ((Mor.out : Mo w2 _).trans M9))⟩
    | true =>
      have MY := Lib.hid (HB.out.1 (by first | rfl | trivial))
      clear HB
      go_wp2_with fail
      refine (WI.out _ N2).mono ?_
      rintro e w3 ⟨⟨b, rfl, hb⟩, M3⟩
      have N3 := N2.trans M3
      have HB := Lib.hid hb
      clear hb WI M3 N2
      cases b with
      | false =>
        go_wp2_with fail
        refine (HW.out _).mono ?_
        rintro e w9 ⟨rfl, M9⟩
        go_wp2_with fail
        go_ret
        exact ⟨rfl, M1.trans (N3.trans ((Mor.out : Mo w3 _).trans M9))⟩
      | true =>
        have WH := Lib.hid (HB.out.1 (by first | rfl | trivial))
        clear HB
        go_wp2_with fail
        refine (FI.out _ (N3.trans Mor.out)).mono ?_
        intro e w4 h4
        have M4 := h4.1
        have N4 := N3.trans ((Mor.out : Mo w3 _).trans M4)
        have H2 : (∃ i f v, IsFind l (some (i, f)) ∧ e = .returned (.tuple #[.agg (fdC i.lo i.hi (f : Nat) v), .int .i64 0]) ∧ w4.ownsRow w3.heap.size 3 1 v (trueL l i).length (natL (trueL l i))) ∨ (IsFind l none ∧ e = .returned (.tuple #[.agg (fdC 0 0 0 (.slice none 0 0)), .int .i64 4])) := by
          rcases h4.2 with h | h | h
          · have := HN.out; omega
          · exact absurd MY.out h.2.1
          · exact h.2.2
        clear h4 FI
        rcases H2 with h | h
        · obtain ⟨i, f, v, hi, rfl, own⟩ := h
          rw [natL_eq] at own
          obtain ⟨A2, c2, rfl, R2⟩ := own_ints own (natI_length _)
          have R2' := Lib.hid R2
          have LF := Lib.hid (least_of hi)
          obtain ⟨il, ih⟩ := i
          have b1 : -4611686018427387904 < il ∧ ih < 4611686018427387904 := by
            obtain ⟨⟨⟨x, hx, ex⟩, _⟩, ⟨⟨y, hy, ey⟩, _⟩⟩ := hi.2.1
            simp only at ex ey
            rw [← ex, ← ey]
            exact ⟨(WH.out x hx).1, (WH.out y hy).2⟩
          obtain ⟨n2, hn2⟩ : ∃ n, (trueL l ⟨il, ih⟩).length = n := ⟨_, rfl⟩
          have tl : n2 ≤ 60 := by rw [← hn2]; exact Nat.le_trans (trueT_len l ⟨il, ih⟩ l.length) (by have := HN.out; omega)
          have fa := LF.out.half
          have fb := LF.out.le
          have fc := LF.out.lo
          have fd := LF.out.hi
          have fe := LF.out.lo1
          have ff := LF.out.hi1
          have fg := LF.out.many
          rw [HN.out] at fa fc fd fe ff fg
          rw [hn2] at fg
          simp only at fb fc fd fe ff
          have HN2 := Lib.hid hn2
          rw [hn2]
          clear own hi R2 hn2
          go_upto_region 16 with (fail)
          refine wp_name ?_
          intro wx hwx
          have BX : Blk wx w4.heap.size 30 (fdC il ih (f : Nat) (.slice A2 n2 c2)) := by rw [hwx]; infer_instance
          have NX : Mo w1 wx := by rw [hwx]; exact N4.trans Mor.out
          have RX : Hid (IntRow wx A2 (natI (trueL l ⟨il, ih⟩))) := Lib.hid (by rw [hwx]; exact R2'.out.mo Mor.out)
          clear hwx N4 M4 R2'
          obtain ⟨g4, hg4⟩ : ∃ g, w4.heap.size = g := ⟨_, rfl⟩
          rw [hg4] at BX ⊢
          clear hg4
          have e2 : IntKind.i64.wrap (2 * (f : Int)) = 2 * f := by rw [IntKind.wrap_i64]; omega
          have e3 : IntKind.i64.wrap ((N : Int) - f) = N - f := by rw [IntKind.wrap_i64]; omega
          have e4 : IntKind.i64.wrap (il - 1) = il - 1 := by rw [IntKind.wrap_i64]; omega
          have e5 : IntKind.i64.wrap (ih + 1) = ih + 1 := by rw [IntKind.wrap_i64]; omega
          have d1 : decide ((N : Int) ≤ 2 * f) = false := decide_eq_false (by omega)
          have d2 : decide (ih < il) = false := decide_eq_false (by omega)
          have d3 : decide (((had l il : Nat) : Int) < (N : Int) - f) = false := decide_eq_false (by omega)
          have d4 : decide (((had l ih : Nat) : Int) < (N : Int) - f) = false := decide_eq_false (by omega)
          have d5 : decide ((N : Int) - f ≤ ((had l (il - 1) : Nat) : Int)) = false := decide_eq_false (by omega)
          have d6 : decide ((N : Int) - f ≤ ((had l (ih + 1) : Nat) : Int)) = false := decide_eq_false (by omega)
          go_wp2_with fail
          refine (HA.out _ _ NX).mono ?_
          rintro e w7 ⟨rfl, rfl⟩
          go_wp2_with fail
          refine (HA.out _ _ NX).mono ?_
          rintro e w7 ⟨rfl, rfl⟩
          go_wp2_with fail
          refine (HA.out _ _ NX).mono ?_
          rintro e w7 ⟨rfl, rfl⟩
          go_wp2_with fail
          refine (HA.out _ _ NX).mono ?_
          rintro e w7 ⟨rfl, rfl⟩
          clear d1 d2 d3 d4 d5 d6 e4 e5
          go_wp2_with fail
          go_loopw [126] (fun s w => ∃ j : Nat, j ≤ N ∧ s = .int .i64 j ∧ Mo wx w) (fun s _ => N - (intOf s).toNat)
          case atStart => exact ⟨0, by omega, rfl, Mo.refl _⟩
          case round =>
            obtain ⟨j, hj, rfl, hM⟩ := hrel
            have BQ := hM.blk BX
            by_cases cj : j < N
            · have hjl : j < l.length := by rw [HN.out]; exact cj
              obtain ⟨g, off, rfl, hc⟩ := (RV.out _ (NX.trans hM)).resolve_left (fun e => by rw [e] at hjl; simp at hjl)
              obtain ⟨y0, y1⟩ := hc j hjl
              have z0 := LtW.of_cell y0
              have i1 : (0 : Int) ≤ j := by omega
              have i2 : (j : Int) < N := by omega
              have few := LF.out.few l[j] (List.getElem_mem hjl)
              have wit := LF.out.within l[j] (List.getElem_mem hjl)
              have hle := had_le_length l l[j].lo
              obtain ⟨lo, elo⟩ : ∃ y, l[j].lo = y := ⟨_, rfl⟩
              obtain ⟨hi, ehi⟩ : ∃ y, l[j].hi = y := ⟨_, rfl⟩
              rw [elo] at y0 few wit hle
              rw [ehi] at y1
              rw [HN.out] at few wit hle
              simp only at wit
              have d3 : decide ((N : Int) - f < ((had l lo : Nat) : Int)) = false := decide_eq_false (by omega)
              clear hc elo ehi hjl hle few
              by_cases ch : N - f ≤ had l lo
              · have d4 : decide ((N : Int) - f ≤ ((had l lo : Nat) : Int)) = true := decide_eq_true (by omega)
                have d5 : decide (lo < il) = false := decide_eq_false (by have := wit ch; omega)
                have d6 : decide (ih < lo) = false := decide_eq_false (by have := wit ch; omega)
                clear wit ch
                go_wp2_with fail
                refine (HA.out _ _ (NX.trans (hM.trans Mor.out))).mono ?_
                rintro e w7 ⟨rfl, rfl⟩
                go_wp2_with fail
                refine (HA.out _ _ (NX.trans (hM.trans Mor.out))).mono ?_
                rintro e w7 ⟨rfl, rfl⟩
                go_wp2_with fail
                go_roundw
                case rel => exact ⟨j + 1, by omega, by go_num, hM.trans Mor.out⟩
                case measure => simp [intOf]; omega
              · have d4 : decide ((N : Int) - f ≤ ((had l lo : Nat) : Int)) = false := decide_eq_false (by omega)
                clear wit ch
                go_wp2_with fail
                refine (HA.out _ _ (NX.trans (hM.trans Mor.out))).mono ?_
                rintro e w7 ⟨rfl, rfl⟩
                go_wp2_with fail
                refine (HA.out _ _ (NX.trans (hM.trans Mor.out))).mono ?_
                rintro e w7 ⟨rfl, rfl⟩
                go_wp2_with fail
                go_roundw
                case rel => exact ⟨j + 1, by omega, by go_num, hM.trans Mor.out⟩
                case measure => simp [intOf]; omega
            · obtain rfl : j = N := by omega
              go_wp2_with fail
              go_loopw [167] (fun s w => ∃ k : Nat, k ≤ j ∧ s = .int .i64 k ∧ Mo wx w) (fun s _ => j - (intOf s).toNat)
              case atStart => exact ⟨0, by omega, rfl, hM⟩
              case round =>
                clear hM BQ
                obtain ⟨k, hk, rfl, hM⟩ := hrel
                have BQ := hM.blk BX
                by_cases ck : k < j
                · have hjl : k < l.length := by rw [HN.out]; exact ck
                  obtain ⟨g, off, rfl, hc⟩ := (RV.out _ (NX.trans hM)).resolve_left (fun e => by rw [e] at hjl; simp at hjl)
                  obtain ⟨y0, y1⟩ := hc k hjl
                  have z0 := LtW.of_cell y0
                  have i1 : (0 : Int) ≤ k := by omega
                  have i2 : (k : Int) < j := by omega
                  have mem := mem_trueL (i := ⟨il, ih⟩) hjl
                  rw [← mem_natI] at mem
                  obtain ⟨lo, elo⟩ : ∃ y, l[k].lo = y := ⟨_, rfl⟩
                  obtain ⟨hi, ehi⟩ : ∃ y, l[k].hi = y := ⟨_, rfl⟩
                  rw [elo] at y0 mem
                  rw [ehi] at y1 mem
                  simp only at mem
                  have CT := Lib.hid (fun w (h : IntRow w A2 (natI (trueL l ⟨il, ih⟩))) => contains_any (natI (trueL l ⟨il, ih⟩)) (k : Int) A2 c2 w h (by rw [natI_length, HN2.out]; omega))
                  rw [natI_length, HN2.out] at CT
                  clear hc elo ehi hjl
                  by_cases c1 : lo ≤ ih
                  · have d1 : decide (lo ≤ ih) = true := decide_eq_true c1
                    by_cases cc : il ≤ hi
                    · have d2 : decide (il ≤ hi) = true := decide_eq_true cc
                      rw [decide_eq_true (mem.2 ⟨c1, cc⟩)] at CT
                      clear mem
                      go_upto_region 31 with (fail)
                      refine wp_name ?_
                      intro wq hwq
                      have QB : Blk wq g4 30 (fdC il ih (f : Nat) (.slice A2 n2 c2)) := by rw [hwq]; infer_instance
                      have QM : Mo wx wq := by rw [hwq]; exact hM.trans Mor.out
                      obtain ⟨g9, QX⟩ : ∃ g9, wr.heap.size = g9 ∧ Blk wq g9 27 #[.int .i64 lo, .int .i64 hi] := ⟨_, rfl, by rw [hwq]; infer_instance⟩
                      obtain ⟨eg9, QX⟩ := QX
                      rw [eg9]
                      clear hwq y0 y1 z0 hM BQ eg9
                      refine wp_region_mo (by kernel_rfl) (by kernel_rfl) ?_
                      repeat (go_big_quiet_step (with_reducible exact quiet_mo_same (CT.out _ ((RX.out.mo QM).mo Mor.out))))
                      refine wpQuiet_nil ?_
                      intro _ hw'
                      obtain ⟨⟨JQ, dQ⟩, hw''⟩ := hw'
                      subst hw''
                      go_wp2_with fail
                      go_roundw
                      case rel => exact ⟨k + 1, by omega, by go_num, QM.trans Mor.out⟩
                      case measure => simp [intOf]; omega
                    · have d2 : decide (il ≤ hi) = false := decide_eq_false cc
                      rw [decide_eq_false (fun h => cc (mem.1 h).2)] at CT
                      clear mem
                      go_upto_region 31 with (fail)
                      refine wp_name ?_
                      intro wq hwq
                      have QB : Blk wq g4 30 (fdC il ih (f : Nat) (.slice A2 n2 c2)) := by rw [hwq]; infer_instance
                      have QM : Mo wx wq := by rw [hwq]; exact hM.trans Mor.out
                      obtain ⟨g9, QX⟩ : ∃ g9, wr.heap.size = g9 ∧ Blk wq g9 27 #[.int .i64 lo, .int .i64 hi] := ⟨_, rfl, by rw [hwq]; infer_instance⟩
                      obtain ⟨eg9, QX⟩ := QX
                      rw [eg9]
                      clear hwq y0 y1 z0 hM BQ eg9
                      refine wp_region_mo (by kernel_rfl) (by kernel_rfl) ?_
                      repeat (go_big_quiet_step (with_reducible exact quiet_mo_same (CT.out _ ((RX.out.mo QM).mo Mor.out))))
                      refine wpQuiet_nil ?_
                      intro _ hw'
                      obtain ⟨⟨JQ, dQ⟩, hw''⟩ := hw'
                      subst hw''
                      go_wp2_with fail
                      go_roundw
                      case rel => exact ⟨k + 1, by omega, by go_num, QM.trans Mor.out⟩
                      case measure => simp [intOf]; omega
                  · have d1 : decide (lo ≤ ih) = false := decide_eq_false c1
                    rw [decide_eq_false (fun h => c1 (mem.1 h).1)] at CT
                    clear mem
                    go_upto_region 31 with (fail)
                    refine wp_name ?_
                    intro wq hwq
                    have QB : Blk wq g4 30 (fdC il ih (f : Nat) (.slice A2 n2 c2)) := by rw [hwq]; infer_instance
                    have QM : Mo wx wq := by rw [hwq]; exact hM.trans Mor.out
                    obtain ⟨g9, QX⟩ : ∃ g9, wr.heap.size = g9 ∧ Blk wq g9 27 #[.int .i64 lo, .int .i64 hi] := ⟨_, rfl, by rw [hwq]; infer_instance⟩
                    obtain ⟨eg9, QX⟩ := QX
                    rw [eg9]
                    clear hwq y0 y1 z0 hM BQ eg9
                    refine wp_region_mo (by kernel_rfl) (by kernel_rfl) ?_
                    repeat (go_big_quiet_step (with_reducible exact quiet_mo_same (CT.out _ ((RX.out.mo QM).mo Mor.out))))
                    refine wpQuiet_nil ?_
                    intro _ hw'
                    obtain ⟨⟨JQ, dQ⟩, hw''⟩ := hw'
                    subst hw''
                    go_wp2_with fail
                    go_roundw
                    case rel => exact ⟨k + 1, by omega, by go_num, QM.trans Mor.out⟩
                    case measure => simp [intOf]; omega
                · obtain rfl : k = j := by omega
                  have e6 : IntKind.i64.wrap (2 * (n2 : Int)) = 2 * n2 := by rw [IntKind.wrap_i64]; omega
                  have d7 : decide ((k : Int) - f ≤ (n2 : Int)) = true := decide_eq_true (by omega)
                  have d8 : decide ((k : Int) < 2 * n2) = true := decide_eq_true (by omega)
                  go_wp2_with fail
                  refine (HW.out _).mono ?_
                  rintro e w9 ⟨rfl, M9⟩
                  go_wp2_with fail
                  go_ret
                  exact ⟨rfl, M1.trans (NX.trans (hM.trans M9))⟩
        · obtain ⟨hi, rfl⟩ := h
          have HI := Lib.hid (fun f (hf : 2 * f < N) (y : Iv) (hy : y ∈ l) => (by have := hi f (by rw [HN.out]; exact hf) y hy; rwa [HN.out] at this : had l y.lo < N - f))
          clear hi M4
          go_wp2_with fail
          go_loopw [6] (fun s wr => ∃ f : Nat, f ≤ N ∧ s = .int .i64 f ∧ Mo w1 wr) (fun s _ => N - (intOf s).toNat)
          case atStart => exact ⟨0, by omega, rfl, N4.trans Mor.out⟩
          case round =>
            clear N4
            obtain ⟨f, hf, rfl, hM⟩ := hrel
            have e2 : IntKind.i64.wrap (2 * (f : Int)) = 2 * f := by rw [IntKind.wrap_i64]; omega
            have e3 : IntKind.i64.wrap ((N : Int) - f) = N - f := by rw [IntKind.wrap_i64]; omega
            by_cases cf : 2 * f < N
            · have d2 : decide (2 * (f : Int) < N) = true := decide_eq_true (by omega)
              go_wp2_with fail
              go_loopw [47] (fun s w => ∃ j : Nat, j ≤ N ∧ s = .int .i64 j ∧ Mo w1 w) (fun s _ => N - (intOf s).toNat)
              case atStart => exact ⟨0, by omega, rfl, hM.trans Mor.out⟩
              case round =>
                clear hM
                obtain ⟨j, hj, rfl, hM⟩ := hrel
                by_cases cj : j < N
                · have hjl : j < l.length := by rw [HN.out]; exact cj
                  obtain ⟨g, off, rfl, hc⟩ := (RV.out _ hM).resolve_left (fun e => by rw [e] at hjl; simp at hjl)
                  obtain ⟨y0, y1⟩ := hc j hjl
                  have z0 := LtW.of_cell y0
                  have LT := HI.out f cf l[j] (List.getElem_mem hjl)
                  have i1 : (0 : Int) ≤ j := by omega
                  have i2 : (j : Int) < N := by omega
                  obtain ⟨lo, elo⟩ : ∃ y, l[j].lo = y := ⟨_, rfl⟩
                  obtain ⟨hi, ehi⟩ : ∃ y, l[j].hi = y := ⟨_, rfl⟩
                  rw [elo] at y0 LT
                  rw [ehi] at y1
                  have d3 : decide ((N : Int) - f ≤ ((had l lo : Nat) : Int)) = false := decide_eq_false (by omega)
                  clear hc elo ehi hjl LT
                  go_wp2_with fail
                  refine (HA.out _ _ (hM.trans Mor.out)).mono ?_
                  rintro e w7 ⟨rfl, rfl⟩
                  go_wp2_with fail
                  go_roundw
                  case rel => exact ⟨j + 1, by omega, by go_num, hM.trans Mor.out⟩
                  case measure => simp [intOf]; omega
                · obtain rfl : j = N := by omega
                  go_wp2_with fail
                  go_roundw
                  case rel => exact ⟨f + 1, by omega, by go_num, hM⟩
                  case measure => simp [intOf]; omega
            · have d2 : decide (2 * (f : Int) < N) = false := decide_eq_false (by omega)
              go_wp2_with fail
              refine (HW.out _).mono ?_
              rintro e w9 ⟨rfl, M9⟩
              go_wp2_with fail
              go_ret
              exact ⟨rfl, M1.trans (hM.trans M9)⟩
end Go.Proofs.Ytdppkbnjedehbaa
