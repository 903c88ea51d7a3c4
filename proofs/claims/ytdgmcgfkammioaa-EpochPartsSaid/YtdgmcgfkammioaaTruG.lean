/- law33: truth.Find. -/
import Derived.Test.YtdgmcgfkammioaaTruF
namespace Go.Proofs.Ytdgmcgfkammioaa
open Go.RowKit

abbrev fdC (lo hi f : Int) (v : Value) : Array Value := #[.int .i64 lo, .int .i64 hi, .int .i64 f, v]
set_option maxRecDepth 20000 in
theorem ret_fd {fn : Func} {p u : Tmp} {R : Ending → World → Prop} {a : Act} {w : World} (hr : fn.results = #[.cell p 100, .tmp u]) (g : Nat) (t : TypeId) (cs : Array Value) (hp : a.tmps.getD p undef = .pointer (some ⟨g, 0, none⟩)) (hd : a.defers = []) (b : Blk w g t cs) (z : cs.size = 4)
    (hR : R (.returned (.tuple #[.agg cs, a.tmps.getD u undef])) w) : bodyPost Try.prog fn R .ret a w :=
  ret_cell_tmp hr g (.agg cs) hp hd (run_loadVar_row w g t 100 cs (0, 0) _ b.out Try.underlying100 rfl (by rw [z]; kernel_rfl)) hR
/-- what truth.Find returns -/
def TFindRet (l : List Iv) (W : World) (e : Ending) (w' : World) : Prop := Mo W w' ∧
  ((512 < l.length ∧ e = .returned (.tuple #[.agg (fdC 0 0 0 (.slice none 0 0)), .int .i64 3])) ∨
   (l.length ≤ 512 ∧ ¬ MayL l ∧ e = .returned (.tuple #[.agg (fdC 0 0 0 (.slice none 0 0)), .int .i64 2])) ∨
   (l.length ≤ 512 ∧ MayL l ∧ ((∃ i f v, IsFind l (some (i, f)) ∧ e = .returned (.tuple #[.agg (fdC i.lo i.hi (f : Nat) v), .int .i64 0]) ∧ w'.ownsRow W.heap.size 3 1 v (trueL l i).length (natL (trueL l i))) ∨
     (IsFind l none ∧ e = .returned (.tuple #[.agg (fdC 0 0 0 (.slice none 0 0)), .int .i64 4])))))
set_option maxRecDepth 20000 in
theorem trueT_yes' (l : List Iv) (lo hi xl xh : Int) (j : Nat) (hj : j < l.length) (e1 : l[j].lo = lo) (e2 : l[j].hi = hi) (h1 : lo ≤ xh) (h2 : xl ≤ hi) : trueT l ⟨xl, xh⟩ (j + 1) = trueT l ⟨xl, xh⟩ j ++ [j] :=
  trueT_yes l ⟨xl, xh⟩ j hj (by unfold meets; rw [e1, e2]; simp [h1, h2])
set_option maxRecDepth 20000 in
theorem trueT_no' (l : List Iv) (lo hi xl xh : Int) (j : Nat) (hj : j < l.length) (e1 : l[j].lo = lo) (e2 : l[j].hi = hi) (h : ¬ (lo ≤ xh ∧ xl ≤ hi)) : trueT l ⟨xl, xh⟩ (j + 1) = trueT l ⟨xl, xh⟩ j :=
  trueT_no l ⟨xl, xh⟩ j hj (by unfold meets; rw [e1, e2]; simp only [Bool.and_eq_false_iff, decide_eq_false_iff_not]; omega)
set_option maxRecDepth 20000 in
theorem blk_set4 {w : World} {g : Nat} {t : TypeId} {a b c d : Value} (h : Blk w g t #[a, b, c, d]) (a' b' c' d' : Value) :
    Blk ((((w.setCell ⟨g, 0, none⟩ a').setCell ⟨g, 1, none⟩ b').setCell ⟨g, 2, none⟩ c').setCell ⟨g, 3, none⟩ d') g t #[a', b', c', d'] := blk_setCell (blk_setCell (blk_setCell (blk_setCell h 0 a') 1 b') 2 c') 3 d'
set_option maxRecDepth 20000 in
theorem mo_set4 {W w : World} (h : Mo W w) (a' b' c' d' : Value) {g : Nat} (hg : W.heap.size ≤ g) :
    Mo W ((((w.setCell ⟨g, 0, none⟩ a').setCell ⟨g, 1, none⟩ b').setCell ⟨g, 2, none⟩ c').setCell ⟨g, 3, none⟩ d') := mo_setCell (mo_setCell (mo_setCell (mo_setCell h hg 0 _) hg 1 _) hg 2 _) hg 3 _
set_option maxRecDepth 20000 in
theorem owns_set4 {w : World} {bs s n R : Nat} {e t : TypeId} {v : Value} {xs : List Value} {a b c d : Value} (h : w.ownsRow bs e s v n xs) (k : Blk w R t #[a, b, c, d]) (ne : t ≠ e) (a' b' c' d' : Value) :
    ((((w.setCell ⟨R, 0, none⟩ a').setCell ⟨R, 1, none⟩ b').setCell ⟨R, 2, none⟩ c').setCell ⟨R, 3, none⟩ d').ownsRow bs e s v n xs :=
  owns_setCell_blk (owns_setCell_blk (owns_setCell_blk (owns_setCell_blk h k ne 0 a') (blk_setCell k 0 a') ne 1 b') (blk_setCell (blk_setCell k 0 a') 1 b') ne 2 c') (blk_setCell (blk_setCell (blk_setCell k 0 a') 1 b') 2 c') ne 3 d'
attribute [local go_sem] blk_cell' blk_frozen'
set_option maxRecDepth 20000 in
set_option maxHeartbeats 8000000 in
theorem find_any (l : List Iv) (A : Option Addr) (c : Nat) (W : World) (hR : IvRow W A l) (hl : l.length ≤ 65536) (hb : InIv l) :
    Calls Try.prog 40 #[.slice A l.length c] W (TFindRet l W) := by
  obtain ⟨PO, hPO⟩ : ∃ P, TFindRet l W = P := ⟨_, rfl⟩
  rw [hPO]
  have RR := Lib.hid hPO
  clear hPO
  have HR := Lib.hid hR
  have HM := Lib.hid (fun w (M : Mo W w) => may_any l A c w (hR.mo M) hl)
  have HC := Lib.hid (fun (h0 : 0 < l.length) m hm hm2 (hy : MayL l) w (M : Mo W w) => cover_any l A c m w (hR.mo M) hl h0 hm hm2 hy hb)
  clear hR hb
  obtain ⟨N, hN⟩ : ∃ N, l.length = N := ⟨_, rfl⟩
  have HN := Lib.hid hN
  rw [hN] at hl HM HC
  rw [hN]
  clear hN
  obtain ⟨i0, hi0, hz0, hz1, hz2⟩ := info_parts infoInt
  go_enter Try.func40, Try.ntmps40
  by_cases c1 : 512 < N
  · have d1 : decide ((512 : Int) < N) = true := decide_eq_true (by omega)
    go_wp2_with fail
    refine ret_fd Try.results40 W.heap.size _ (fdC 0 0 0 (.slice none 0 0)) rfl rfl inferInstance rfl ?_
    rw [← RR.out]
    exact ⟨Mor.out, .inl ⟨by rw [HN.out]; exact c1, rfl⟩⟩
  · have d1 : decide ((512 : Int) < N) = false := decide_eq_false (by omega)
    go_wp2_with fail
    refine (HM.out _ Mor.out).mono ?_
    rintro e w1 ⟨⟨b, rfl, hbm⟩, M1⟩
    have HBM := Lib.hid hbm
    have B1 := M1.blk (inferInstance : Blk (W.alloc (.cells (fdC 0 0 0 (.slice none 0 0)) 100)) W.heap.size 100 (fdC 0 0 0 (.slice none 0 0)))
    have N1 := (Mor.out : Mo W _).trans M1
    clear hbm M1
    cases b with
    | false =>
      go_wp2_with fail
      refine ret_fd Try.results40 W.heap.size _ _ rfl rfl (blk_set4 B1 _ _ _ _) rfl ?_
      rw [← RR.out]
      exact ⟨mo_set4 N1 _ _ _ _ (Nat.le_refl _), .inr (.inl ⟨by rw [HN.out]; omega, fun h => (by have := HBM.out.2 h; simp at this), rfl⟩)⟩
    | true =>
      have HY := Lib.hid (HBM.out.1 (by first | rfl | trivial))
      clear HBM
      go_wp2_with fail
      go_loopw [4] (fun i wr => ∃ f : Nat, f ≤ N ∧ i = .int .i64 f ∧ (∀ f', f' < f → IsAgr l (N - f') none) ∧ Blk wr W.heap.size 100 (fdC 0 0 0 (.slice none 0 0)) ∧ Mo W wr) (fun i _ => N - (intOf i).toNat)
      case atStart => exact ⟨0, by omega, rfl, fun _ h => absurd h (by omega), B1, N1⟩
      case round =>
        clear N1 B1
        obtain ⟨f, hf, rfl, hno, hB, hM⟩ := hrel
        have HNO := Lib.hid hno
        clear hno
        have w2 : IntKind.i64.wrap (2 * (f : Int)) = 2 * f := by rw [IntKind.wrap_i64]; omega
        have w3 : IntKind.i64.wrap ((N : Int) - f) = N - f := by rw [IntKind.wrap_i64]; omega
        by_cases cf : 2 * f < N
        · have d2 : decide (2 * (f : Int) < N) = true := decide_eq_true (by omega)
          have HC' := HC.out (by omega) (N - f) (by omega) (by omega) HY.out
          rw [show (((N - f : Nat)) : Int) = N - f by omega] at HC'
          go_wp2_with fail
          refine (HC' _ (hM.trans Mor.out)).mono ?_
          rintro e w4 ⟨⟨o, ho, rfl⟩, M4⟩
          have N4 := hM.trans M4
          have B4 := M4.blk hB
          clear M4 hM hB
          have HO := Lib.hid ho
          cases o with
          | none =>
            simp only [ivO, Option.isSome_none]
            go_wp2_with fail
            go_roundw
            case rel => exact ⟨f + 1, by omega, by go_num, fun f' hf' => by
              by_cases e : f' = f
              · rw [e]; exact HO.out
              · exact HNO.out f' (by omega), inferInstance, N4.trans Mor.out⟩
            case measure => simp [intOf]; omega
          | some x =>
            simp only [ivO, Option.isSome_some]
            have IF : Hid (IsFind l (some (x, f))) := Lib.hid ⟨by rw [HN.out]; exact cf, by rw [HN.out]; exact HO.out, fun f' hf' => by rw [HN.out]; exact HNO.out f' hf'⟩
            clear HO ho HNO HC HC'
            obtain ⟨xl, xh⟩ := x
            go_upto_region 11 with (fail)
            refine wp_name ?_
            intro wx hwx
            have SX : W.heap.size < w4.heap.size := B4.lt
            have X5 : Blk wx w4.heap.size 97 #[.int .i64 xl, .int .i64 xh] := by rw [hwx]; infer_instance
            have X7 : Blk wx (w4.heap.size + 1) 100 (fdC xl xh f (.slice none 0 0)) := by rw [hwx]; infer_instance
            have X2 : Blk wx W.heap.size 100 (fdC 0 0 0 (.slice none 0 0)) := by rw [hwx]; infer_instance
            have MX : Mo W wx := by rw [hwx]; exact N4.trans Mor.out
            clear hwx B4 N4
            obtain ⟨g5, hg5⟩ : ∃ g, w4.heap.size = g := ⟨_, rfl⟩
            rw [hg5] at SX X5 X7 ⊢
            clear hg5 w4
            go_wp2_with fail
            go_loopw [43] (fun k wr => ∃ (j : Nat) (v : Value), j ≤ N ∧ k = .int .i64 j ∧ wr.ownsRow W.heap.size 3 1 v (trueT l ⟨xl, xh⟩ j).length (natL (trueT l ⟨xl, xh⟩ j)) ∧ Blk wr g5 97 #[.int .i64 xl, .int .i64 xh] ∧
              Blk wr (g5 + 1) 100 (fdC xl xh f v) ∧ Blk wr W.heap.size 100 (fdC 0 0 0 (.slice none 0 0)) ∧ Mo W wr) (fun k _ => N - (intOf k).toNat)
            case atStart => exact ⟨0, .slice none 0 0, by omega, rfl, ⟨rfl, .inl ⟨rfl, rfl⟩⟩, X5, X7, X2, MX⟩
            case round =>
              clear X5 X7 X2 MX
              obtain ⟨j, v, hj, rfl, hown, X5, X7, X2, hM⟩ := hrel
              have OW := Lib.hid hown
              clear hown
              by_cases cj : j < N
              · have hjl : j < l.length := by rw [HN.out]; exact cj
                obtain ⟨g, off, rfl, hc⟩ := (HR.out.mo hM).resolve_left (fun e => by rw [e] at hjl; simp at hjl)
                obtain ⟨y0, y1⟩ := hc j hjl
                clear hc
                have z0 : LtW g wr := LtW.of_cell y0
                have e0 : (0 : Int) ≤ j := by omega
                have e1 : (j : Int) < N := by omega
                have tl := trueT_len l ⟨xl, xh⟩ j
                have TY := Lib.hid (fun lo hi e1 e2 => trueT_yes' l lo hi xl xh j hjl e1 e2)
                have TN := Lib.hid (fun lo hi e1 e2 => trueT_no' l lo hi xl xh j hjl e1 e2)
                have TY' := Lib.hid (TY.out _ _ rfl rfl)
                have TN' := Lib.hid (TN.out _ _ rfl rfl)
                obtain ⟨lo, elo⟩ : ∃ y, l[j].lo = y := ⟨_, rfl⟩
                obtain ⟨hi, ehi⟩ : ∃ y, l[j].hi = y := ⟨_, rfl⟩
                rw [elo] at y0 TY' TN'
                rw [ehi] at y1 TY' TN'
                clear TY TN elo ehi hjl
                by_cases c2 : lo ≤ xh
                · have d3 : decide (lo ≤ xh) = true := decide_eq_true c2
                  by_cases c3 : xl ≤ hi
                  · have d4 : decide (xl ≤ hi) = true := decide_eq_true c3
                    have TT := Lib.hid (TY'.out c2 c3)
                    clear TY' TN' c2 c3
                    go_upto_region 15 with (fail)
                    refine wp_name ?_
                    intro wq hwq
                    have Q5 : Blk wq g5 97 #[.int .i64 xl, .int .i64 xh] := by rw [hwq]; infer_instance
                    have Q7 : Blk wq (g5 + 1) 100 (fdC xl xh f v) := by rw [hwq]; infer_instance
                    have Q2 : Blk wq W.heap.size 100 (fdC 0 0 0 (.slice none 0 0)) := by rw [hwq]; infer_instance
                    have QO := Lib.hid (show wq.ownsRow W.heap.size 3 1 v (trueT l ⟨xl, xh⟩ j).length (natL (trueT l ⟨xl, xh⟩ j)) by rw [hwq]; exact owns_mo OW.out Mor.out)
                    have QM : Mo W wq := by rw [hwq]; exact hM.trans Mor.out
                    clear hwq X5 X7 X2 OW hM y0 y1 z0
                    go_wp2_with (at_builtin; refine wpList_append_own _ rfl _ _ 36 rfl W.heap.size 3 i0 (.int .i64 0) 1 8 Try.underlying36 hi0 hz0 hz1 hz2 rfl (by decide) _ _ _ rfl (owns_mo QO.out Mor.out) ⟨wq.heap.size, 0, none⟩ 1 1 [.int .i64 j] rfl rfl ?c1 ?c2 ?c3 ?c4 ?c5 ?_)
                    case c1 => exact cell_one_new _ _ _
                    case c2 => simp [Value.oneCell']
                    case c3 => unfold maxLen; omega
                    case c4 => omega
                    case c5 => have := QM.size; simp; omega
                    intro v' w5 hown1 hgrow _
                    have OA := owns_mo QO.out (Mor.out : Mo wq (wq.alloc (.cells #[.int .i64 (j : Int)] 3)))
                    have P5 := blk_grownBy (inferInstance : Blk (wq.alloc (.cells #[.int .i64 (j : Int)] 3)) g5 97 #[.int .i64 xl, .int .i64 xh]) OA hgrow (by decide)
                    have P7 := blk_grownBy (inferInstance : Blk (wq.alloc (.cells #[.int .i64 (j : Int)] 3)) (g5 + 1) 100 (fdC xl xh f v)) OA hgrow (by decide)
                    have P2 := blk_grownBy (inferInstance : Blk (wq.alloc (.cells #[.int .i64 (j : Int)] 3)) W.heap.size 100 (fdC 0 0 0 (.slice none 0 0))) OA hgrow (by decide)
                    have PM : Mo W w5 := mo_grown (QM.trans Mor.out) hgrow (fun k e => (QO.out.lt k e).1)
                    obtain ⟨ga, ca, rfl⟩ := row_succT hown1
                    have OW1 := Lib.hid hown1
                    clear hown1 hgrow OA QO QM Q5 Q7 Q2
                    go_wp2_with fail
                    go_roundw
                    case rel => exact ⟨j + 1, .slice (some ⟨ga, 0, none⟩) ((trueT l ⟨xl, xh⟩ j).length + 1) ca, by omega, by go_num, by rw [TT.out, natL_snoc, List.length_append]; exact owns_setCell_blk OW1.out P7 (by decide) 3 _, blk_setCell_ne P5 (by omega) 3 _, blk_setCell P7 3 _, blk_setCell_ne P2 (by omega) 3 _, mo_setCell PM (by omega) 3 _⟩
                    case measure => simp [intOf]; omega
                  · have d4 : decide (xl ≤ hi) = false := decide_eq_false c3
                    have TT := Lib.hid (TN'.out (by omega))
                    clear TY' TN' c2 c3
                    go_wp2_with fail
                    go_roundw
                    case rel => exact ⟨j + 1, v, by omega, by go_num, by rw [TT.out]; exact owns_mo OW.out Mor.out, inferInstance, inferInstance, inferInstance, hM.trans Mor.out⟩
                    case measure => simp [intOf]; omega
                · have d3 : decide (lo ≤ xh) = false := decide_eq_false c2
                  have TT := Lib.hid (TN'.out (by omega))
                  clear TY' TN' c2
                  go_wp2_with fail
                  go_roundw
                  case rel => exact ⟨j + 1, v, by omega, by go_num, by rw [TT.out]; exact owns_mo OW.out Mor.out, inferInstance, inferInstance, inferInstance, hM.trans Mor.out⟩
                  case measure => simp [intOf]; omega
              · obtain rfl : j = N := by omega
                have e : trueT l ⟨xl, xh⟩ j = trueL l ⟨xl, xh⟩ := by rw [← trueT_all, HN.out]
                have OW' := Lib.hid OW.out
                rw [e] at OW'
                obtain ⟨ga, na, ca, rfl⟩ : ∃ A n c, v = .slice A n c := by
                  rcases OW.out.2 with ⟨h, _⟩ | ⟨g', cap, cur, h, _⟩
                  · exact ⟨_, _, _, h⟩
                  · exact ⟨_, _, _, h⟩
                clear OW e
                go_wp2_with fail
                refine ret_fd Try.results40 W.heap.size _ _ rfl rfl (blk_set4 X2 _ _ _ _) rfl ?_
                rw [← RR.out]
                exact ⟨mo_set4 hM _ _ _ _ (Nat.le_refl _), .inr (.inr ⟨by rw [HN.out]; omega, HY.out, .inl ⟨⟨xl, xh⟩, f, _, IF.out, rfl, owns_set4 OW'.out X2 (by decide) _ _ _ _⟩⟩)⟩
        · have d2 : decide (2 * (f : Int) < N) = false := decide_eq_false (by omega)
          go_wp2_with fail
          refine ret_fd Try.results40 W.heap.size _ _ rfl rfl (blk_set4 hB _ _ _ _) rfl ?_
          rw [← RR.out]
          exact ⟨mo_set4 hM _ _ _ _ (Nat.le_refl _), .inr (.inr ⟨by rw [HN.out]; omega, HY.out, .inr ⟨fun f' hf' => by rw [HN.out] at hf' ⊢; exact HNO.out f' (by omega), rfl⟩⟩)⟩
end Go.Proofs.Ytdgmcgfkammioaa
