/- horologeref03: Era, size, Unfold: what they return, in integers. -/
import Derived.Test.YtcflebggepmmcaaRefZ
import Derived.Test.YtcflebggepmmcaaWideS
import Derived.Deep.DeepCutAuto
import Derived.Deep.RegionHeld3
namespace Go.Proofs.Ytcflebggepmmcaa
open Go.RowKit

attribute [local go_sem] blk_cell' blk_frozen'
set_option maxRecDepth 20000 in
set_option maxHeartbeats 2000000 in
theorem rera_any (h l a : Int) (e : a = h * 18446744073709551616 + l) (h1 : -9223372036854775808 ≤ h ∧ h ≤ 9223372036854775807) (l1 : 0 ≤ l ∧ l < 18446744073709551616) (w : World) :
    Calls Try.prog 71 #[.int .i64 h, .int .u64 l] w fun e w' => e = .returned (NN (fromS a) (absI a)) ∧ Mo w w' := by
  have hh : hiW a = h := by unfold hiW; omega
  have hl : loW a = l := by unfold loW; omega
  have C1 := Lib.hid (fun w => rof_any h h1.1 h1.2 w)
  have C2 : Hid (∀ w, Calls Try.prog 98 #[NN (decide (h < 0)) (absI h), NN false 18446744073709551616] w fun e w' => e = .returned (NN (decide (h < 0)) (absI (h * 18446744073709551616))) ∧ Mo w w') := Lib.hid (fun w => by
    have := rmul_sg (decide (h < 0)) false h 18446744073709551616 (by unfold absI; split <;> omega) (by rw [show absI 18446744073709551616 = 18446744073709551616 by rfl]; unfold absI; split <;> omega) w
    rw [show absI 18446744073709551616 = 18446744073709551616 by rfl] at this
    simpa using this)
  have C3 := Lib.hid (fun w => num64_any l l1.1 l1.2 w)
  have C4 : Hid (∀ w, Calls Try.prog 40 #[NN (decide (h < 0)) (absI (h * 18446744073709551616)), NN false l] w fun e w' => e = .returned (NN (fromS a) (absI a)) ∧ Mo w w') := Lib.hid (fun w => by
    have := radd_any (decide (h < 0)) false (h * 18446744073709551616) l ⟨fun c => decide_eq_true (by omega), fun c => decide_eq_false (by omega)⟩ (Sg.pos l1.1) (by unfold absI; split <;> omega) (by unfold absI; split <;> omega) w
    rw [absI_pos l1.1, ← e] at this
    rwa [fromS, hh, hl])
  have LT := lim_top
  generalize decide (h < 0) = s at *
  generalize fromS a = sa at *
  generalize absI a = aa at *
  clear e hh hl
  go_enter Try.func71, Try.ntmps71
  go_upto_region 3 with (fail)
  refine wp_region_mo_tail 7 (by kernel_rfl) (by kernel_rfl) ?_
  simp only [List.take_succ_cons, List.take_zero, List.drop_succ_cons, List.drop_zero]
  repeat (go_big_quiet_step (first | (with_reducible exact quiet_mo (C1.out _)) | (with_reducible exact quiet_mo (C2.out _)) | (with_reducible exact quiet_mo (C3.out _)) | (with_reducible exact quiet_mo (C4.out _))))
  refine wpQuiet_nil ?_
  intro _ hw'
  obtain ⟨⟨J2, d2⟩, hw''⟩ := hw'
  subst hw''
  go_wp2_with fail
  exact ret_num w.heap.size 103 (numC sa (lim aa)) Try.results71 rfl rfl ⟨rfl, Mor.out⟩
set_option maxRecDepth 20000 in
set_option maxHeartbeats 2000000 in
theorem rsizeD_any (s t : Bool) (x y : Int) (hs : Sg s x) (ht : Sg t y) (x1 : absI x < 65536 ^ 19) (y1 : absI y < 65536 ^ 19) (w : World) :
    Calls Try.prog 73 #[NN s (absI x), NN t (absI y)] w fun e w' => e = .returned (NN false (absI (x - y))) ∧ Mo w w' := by
  have N1 := Lib.hid (fun w => rneg_any t (lim (absI y)) w)
  have A1 : Hid (∀ w, Calls Try.prog 40 #[NN s (absI x), NN (!t) (absI y)] w fun e w' => e = .returned (NN (addS s (!t) x (-y)) (absI (x - y))) ∧ Mo w w') := Lib.hid (fun w => by
    have := radd_any s (!t) x (-y) hs ht.neg x1 (by rw [absI_neg]; exact y1) w
    rwa [absI_neg, ← Int.sub_eq_add_neg] at this)
  generalize addS s (!t) x (-y) = sd at *
  generalize absI (x - y) = d at *
  generalize absI x = ax at *
  generalize absI y = ay at *
  clear hs ht x1 y1
  go_enter Try.func73, Try.ntmps73
  go_upto_region 1 with (fail)
  refine wp_name ?_
  intro w1 hw1
  have b1 : Blk w1 w.heap.size 103 (numC s (lim ax)) := by rw [hw1]; infer_instance
  have b2 : Blk w1 (w.heap.size + 1) 103 (numC t (lim ay)) := by rw [hw1]; infer_instance
  have b4 : Blk w1 (w.heap.size + 2) 103 (numC false (fun _ => 0)) := by rw [hw1]; infer_instance
  have M1 : Mo w w1 := by rw [hw1]; exact Mor.out
  clear hw1
  go_cut [5] (fun s5 wx => ∃ g5, s5 = .pointer (some ⟨g5, 0, none⟩) ∧ Blk wx g5 103 (numC sd (lim d)) ∧ Mo w1 wx ∧ w1.heap.size ≤ g5)
  case first =>
    go_region_held3 (fun w' => MoC w1 w') (first | exact ⟨Mor.out⟩ | exact ⟨mo_setRow Mor.out (Mo.size Mor.out) _⟩)
    (first
      | ((with_reducible refine (N1.out _).mono ?_)
         rintro e w9 ⟨rfl, M9⟩
         have iM9 : MoC _ w9 := ⟨M9⟩
         have iR9 : Mor w1 w9 := ⟨(Mor.out : Mo w1 _).trans M9⟩)
      | ((with_reducible refine (A1.out _).mono ?_)
         rintro e w9 ⟨rfl, M9⟩
         have iM9 : MoC _ w9 := ⟨M9⟩
         have iR9 : Mor w1 w9 := ⟨(Mor.out : Mo w1 _).trans M9⟩))
    all_goals (
      go_wp2_with fail
      go_meet
      refine ⟨_, rfl, ?_, ?_, ?_⟩
      · first
          | infer_instance
          | exact blk_setRow inferInstance
      · first
          | exact Mor.out
          | exact mo_setRow Mor.out (Mo.size Mor.out) _
      · exact Mo.size Mor.out)
  obtain ⟨g5, rfl, q5, M2, l5⟩ := hcut
  rename World => w3
  have c4 := M2.blk b4
  have l4 := b4.lt
  have M3 := M1.trans M2
  have ne : w.heap.size + 2 ≠ g5 := by omega
  clear b1 b2 b4 M1 M2 A1 N1
  have i5 : Blk (w3.setCell ⟨g5, 0, none⟩ (.bool false)) g5 103 (numC false (lim d)) := by
    have := blk_setCell q5 0 (.bool false)
    rwa [numC_set0] at this
  have i4 : Blk (w3.setCell ⟨g5, 0, none⟩ (.bool false)) (w.heap.size + 2) 103 (numC false (fun _ => 0)) := blk_setCell_ne c4 (Ne.symm ne) 0 (.bool false)
  go_wp2_with fail
  have j4 : Blk ((w3.setCell ⟨g5, 0, none⟩ (.bool false)).setRow (w.heap.size + 1 + 1) (numC false (lim d))) (w.heap.size + 1 + 1) 103 (numC false (lim d)) := blk_setRow i4
  exact ret_num (w.heap.size + 1 + 1) 103 (numC false (lim d)) Try.results73 rfl rfl ⟨rfl, mo_setRow (mo_setCell M3 (by omega) 0 (.bool false)) (by omega) _⟩
/-- how far an era's moment is -/
def dU (u i : Int) : Int := absI (i * 18446744073709551616 + u)
abbrev OkE (h i : Int) : Prop := -9223372036854775808 ≤ h + i ∧ h + i ≤ 9223372036854775807
/-- the nearest of the eras that were looked at -/
structure NearU (h u j : Int) (st : Option Int) : Prop where
  no : st = none → ∀ i, -2 ≤ i → i < j → ¬ OkE h i
  yes : ∀ i0, st = some i0 → (-2 ≤ i0 ∧ i0 < j) ∧ OkE h i0 ∧ ∀ i, -2 ≤ i → i < j → OkE h i → dU u i0 ≤ dU u i ∧ (i < i0 → dU u i0 < dU u i)
set_option maxRecDepth 20000 in
theorem NearU.start (h u : Int) : NearU h u (-2) none := ⟨fun _ i h1 h2 => by omega, fun _ h => by cases h⟩
set_option maxRecDepth 20000 in
theorem NearU.skip {h u j : Int} {st : Option Int} (k : NearU h u j st) (c : ¬ OkE h j) : NearU h u (j + 1) st := ⟨fun e i h1 h2 q => by
  by_cases e2 : i = j
  · subst e2; exact c q
  · exact k.no e i h1 (by omega) q, fun i0 e => by
  obtain ⟨q1, q2, q3⟩ := k.yes i0 e
  refine ⟨by omega, q2, fun i h1 h2 h3 => ?_⟩
  by_cases e2 : i = j
  · subst e2; exact absurd h3 c
  · exact q3 i h1 (by omega) h3⟩
set_option maxRecDepth 20000 in
theorem NearU.first {h u j : Int} (k : NearU h u j none) (j1 : -2 ≤ j) (c : OkE h j) : NearU h u (j + 1) (some j) := ⟨fun e => (by cases e), fun i0 e => by
  injection e with e
  subst e
  refine ⟨by omega, c, fun i h1 h2 h3 => ?_⟩
  by_cases e2 : i = j
  · subst e2; omega
  · exact absurd h3 (k.no rfl i h1 (by omega))⟩
set_option maxRecDepth 20000 in
theorem NearU.take {h u j i1 : Int} (k : NearU h u j (some i1)) (j1 : -2 ≤ j) (c : OkE h j) (l : dU u j < dU u i1) : NearU h u (j + 1) (some j) := ⟨fun e => (by cases e), fun i0 e => by
  injection e with e
  subst e
  refine ⟨by omega, c, fun i h1 h2 h3 => ?_⟩
  by_cases e2 : i = j
  · subst e2; omega
  · have := ((k.yes i1 rfl).2.2 i h1 (by omega) h3).1
    omega⟩
set_option maxRecDepth 20000 in
theorem NearU.stay {h u j i1 : Int} (k : NearU h u j (some i1)) (l : ¬ dU u j < dU u i1) : NearU h u (j + 1) (some i1) := ⟨fun e => (by cases e), fun i0 e => by
  injection e with e
  subst e
  obtain ⟨q1, q2, q3⟩ := k.yes i1 rfl
  refine ⟨by omega, q2, fun i h1 h2 h3 => ?_⟩
  by_cases e2 : i = j
  · subst e2; omega
  · exact q3 i h1 (by omega) h3⟩
set_option maxRecDepth 20000 in
theorem NearU.last {h l s : Int} {st : Option Int} (hh : -9223372036854775808 ≤ h ∧ h ≤ 9223372036854775807) (hl : 0 ≤ l ∧ l < 18446744073709551616) (hs : 0 ≤ s ∧ s < 18446744073709551616) (k : NearU h (s - l) 3 st) :
    ∃ i0, st = some i0 ∧ OkE h i0 ∧ (h + i0) * 18446744073709551616 + s = unf s (h * 18446744073709551616 + l) := by
  have e1 : hiW (h * 18446744073709551616 + l) = h := by unfold hiW; omega
  have e2 : loW (h * 18446744073709551616 + l) = l := by unfold loW; omega
  cases st with
  | none => exact absurd (show OkE h 0 by omega) (k.no rfl 0 (by omega) (by omega))
  | some i0 =>
    obtain ⟨⟨q1, q2⟩, q3, q4⟩ := k.yes i0 rfl
    refine ⟨i0, rfl, q3, ?_⟩
    have a0 := q4 0 (by omega) (by omega) (by omega)
    have a1 := q4 1 (by omega) (by omega)
    have a2 := q4 (-1) (by omega) (by omega)
    have f : ∀ x, (absI x = x ∧ 0 ≤ x) ∨ (absI x = -x ∧ x < 0) := fun x => by
      unfold absI
      by_cases g : x < 0
      · rw [if_pos g]; exact .inr ⟨rfl, g⟩
      · rw [if_neg g]; exact .inl ⟨rfl, by omega⟩
    unfold dU at a0 a1 a2
    have f3 := f (i0 * 18446744073709551616 + (s - l))
    have f0 := f (0 * 18446744073709551616 + (s - l))
    have f1 := f (1 * 18446744073709551616 + (s - l))
    have f2 := f (-1 * 18446744073709551616 + (s - l))
    generalize absI (i0 * 18446744073709551616 + (s - l)) = d3 at *
    generalize absI (0 * 18446744073709551616 + (s - l)) = d0 at *
    generalize absI (1 * 18446744073709551616 + (s - l)) = d1 at *
    generalize absI (-1 * 18446744073709551616 + (s - l)) = d2 at *
    unfold unf unfK
    rw [e1, e2]
    clear q4 f e1 e2 k
    by_cases k1 : s - l < -9223372036854775808 ∧ h < 9223372036854775807
    · rw [if_pos k1]
      have := a1 (by omega)
      clear a1 a2 f2
      omega
    · rw [if_neg k1]
      by_cases k2 : 9223372036854775808 ≤ s - l ∧ -9223372036854775808 < h
      · rw [if_pos k2]
        have := a2 (by omega)
        clear a1 a2 f1
        omega
      · rw [if_neg k2]
        have : i0 = 0 := by
          have c : i0 = -2 ∨ i0 = -1 ∨ i0 = 0 ∨ i0 = 1 ∨ i0 = 2 := by omega
          rcases c with rfl | rfl | rfl | rfl | rfl <;> omega
        rw [this]
set_option maxRecDepth 20000 in
theorem lt20 {x : Int} (h : x < 65536 ^ 19) : x < 65536 ^ 20 := by
  have p : (65536 : Int) ^ 19 ≤ 65536 ^ 20 := by decide
  exact Int.lt_of_lt_of_le h p
set_option maxRecDepth 20000 in
set_option maxHeartbeats 4000000 in
theorem runfold_any (s N : Int) (h0 : 0 ≤ s) (h1 : s < 18446744073709551616) (hN : InW N) (w : World) :
    Calls Try.prog 35 #[.int .u64 s, WV N] w fun e w' => e = .returned (WV (unf s N)) ∧ Mo w w' := by
  obtain ⟨h, hh⟩ : ∃ h, hiW N = h := ⟨_, rfl⟩
  obtain ⟨l, hl⟩ : ∃ l, loW N = l := ⟨_, rfl⟩
  have eN : N = h * 18446744073709551616 + l := by unfold hiW loW at *; omega
  have hb : -9223372036854775808 ≤ h ∧ h ≤ 9223372036854775807 := by unfold InW at hN; unfold hiW at hh; omega
  have lb : 0 ≤ l ∧ l < 18446744073709551616 := by unfold loW at hl; omega
  have FN := Lib.hid (fun w => from_any N hN w)
  have bN : absI N < 65536 ^ 19 := by have := hN.1; have := hN.2; unfold absI; split <;> omega
  have bX : ∀ i, OkE h i → absI ((h + i) * 18446744073709551616 + s) < 65536 ^ 19 := fun i hi => by
    refine Int.lt_of_lt_of_le (b := 340282366920938463463374607431768211457) ?_ (by decide)
    unfold absI; split <;> omega
  have ER := Lib.hid (fun i (hi : OkE h i) w => rera_any (h + i) s _ rfl hi ⟨h0, h1⟩ w)
  have SZ : Hid (∀ i, OkE h i → ∀ w, Calls Try.prog 73 #[NN (fromS ((h + i) * 18446744073709551616 + s)) (absI ((h + i) * 18446744073709551616 + s)), NN (fromS N) (absI N)] w fun e w' => e = .returned (NN false (dU (s - l) i)) ∧ Mo w w') := Lib.hid fun i hi w => by
    have := rsizeD_any (fromS ((h + i) * 18446744073709551616 + s)) (fromS N) ((h + i) * 18446744073709551616 + s) N (fromS_sg _) (fromS_sg _) (bX i hi) bN w
    rwa [show absI ((h + i) * 18446744073709551616 + s - N) = dU (s - l) i by unfold dU; congr 1; omega] at this
  have bD : ∀ i, -3 ≤ i → i ≤ 3 → 0 ≤ dU (s - l) i ∧ dU (s - l) i < 65536 ^ 20 := fun i i1 i2 => by
    refine ⟨by unfold dU absI; split <;> omega, ?_⟩
    refine Int.lt_of_lt_of_le (b := 340282366920938463463374607431768211457) ?_ (by decide)
    unfold dU absI; split <;> omega
  have SC := Lib.hid (fun i j (i1 : -2 ≤ i ∧ i ≤ 2) (j1 : -2 ≤ j ∧ j ≤ 2) w => rsize_any false false (dU (s - l) j) (dU (s - l) i) (bD j (by omega) (by omega)).1 (bD j (by omega) (by omega)).2 (bD i (by omega) (by omega)).1 (bD i (by omega) (by omega)).2 w)
  have WD : Hid (∀ i, OkE h i → (h + i) * 18446744073709551616 + s = unf s N → ∀ w, Calls Try.prog 43 #[NN (fromS ((h + i) * 18446744073709551616 + s)) (absI ((h + i) * 18446744073709551616 + s))] w fun e w' => e = .returned (WV (unf s N)) ∧ Mo w w') := Lib.hid fun i hi e w => by
    have := rwide_any (fromS ((h + i) * 18446744073709551616 + s)) ((h + i) * 18446744073709551616 + s) (fromS_sg _) (lt20 (bX i hi)) w
    have hc : cl ((h + i) * 18446744073709551616 + s) = (h + i) * 18446744073709551616 + s := cl_in (by rw [e]; exact unf_in h0 h1 hN)
    rw [hc.trans e] at this
    exact this
  have ND := Lib.hid (fun st (k : NearU h (s - l) 3 st) => by
    have := k.last hb lb ⟨h0, h1⟩
    rw [← eN] at this
    exact this)
  have NS := Lib.hid (NearU.start h (s - l))
  obtain ⟨res, hres⟩ : ∃ r, unf s N = r := ⟨_, rfl⟩
  rw [hres] at WD ND ⊢
  obtain ⟨SX, hSX⟩ : ∃ f : Int → Bool, f = fun i => fromS ((h + i) * 18446744073709551616 + s) := ⟨_, rfl⟩
  obtain ⟨AX, hAX⟩ : ∃ f : Int → Int, f = fun i => absI ((h + i) * 18446744073709551616 + s) := ⟨_, rfl⟩
  have x1 : ∀ i, fromS ((h + i) * 18446744073709551616 + s) = SX i := fun i => by rw [hSX]
  have x2 : ∀ i, absI ((h + i) * 18446744073709551616 + s) = AX i := fun i => by rw [hAX]
  simp only [x1, x2] at ER SZ WD
  rw [show WV N = .agg #[.int .i64 h, .int .u64 l] by rw [← hh, ← hl]] at *
  generalize fromS N = sN at *
  generalize absI N = aN at *
  generalize s - l = u at *
  have Z := lim_0
  clear bX bD bN hres hSX hAX x1 x2 eN hN hh hl
  go_enter Try.func35, Try.ntmps35
  go_wp2_with fail
  refine (FN.out _).mono ?_
  rintro e w1 ⟨rfl, M1⟩
  have b3 : Blk w1 w.heap.size 32 #[.int .i64 h, .int .u64 l] := M1.blk inferInstance
  have b4 : Blk w1 (w.heap.size + 1) 32 #[.int .i64 0, .int .u64 0] := M1.blk inferInstance
  have N1 : Mo w w1 := Mo.trans Mor.out M1
  clear M1 FN
  go_upto_region 3 with (fail)
  refine wp_name ?_
  intro w2 hw2
  have b32 : Blk w2 w.heap.size 32 #[.int .i64 h, .int .u64 l] := by rw [hw2]; infer_instance
  have b42 : Blk w2 (w.heap.size + 1) 32 #[.int .i64 0, .int .u64 0] := by rw [hw2]; infer_instance
  have b52 : Blk w2 w1.heap.size 103 (numC sN (lim aN)) := by rw [hw2]; infer_instance
  have b62 : Blk w2 (w1.heap.size + 1) 103 (numC false (fun _ => 0)) := by rw [hw2]; infer_instance
  have N2 : Mo w w2 := by rw [hw2]; exact N1.trans Mor.out
  have g5 := b4.lt
  clear hw2 b3 b4 N1
  obtain ⟨g, hg⟩ : ∃ g, w1.heap.size = g := ⟨_, rfl⟩
  rw [hg] at b52 b62 g5 ⊢
  clear hg
  go_wp2_with fail
  go_loopw [7, 8] (fun sm i wr => ∃ (j : Int) (st : Option Int) (sb : Bool) (lb : Nat → Int), -2 ≤ j ∧ j ≤ 3 ∧ i = .int .i64 j ∧ sm = .bool st.isSome ∧ NearU h u j st ∧ Mo w wr ∧ Blk wr w.heap.size 32 #[.int .i64 h, .int .u64 l] ∧ Blk wr (w.heap.size + 1) 32 #[.int .i64 0, .int .u64 0] ∧ Blk wr g 103 (numC sN (lim aN)) ∧ Blk wr (g + 1) 103 (numC sb lb) ∧ ∀ i0, st = some i0 → sb = SX i0 ∧ lb = lim (AX i0)) (fun _ i _ => (3 - intOf i).toNat)
  case atStart => exact ⟨-2, none, false, fun _ => 0, by omega, by omega, rfl, rfl, NS.out, N2, b32, b42, b52, b62, fun i0 e => (by cases e)⟩
  case round =>
    obtain ⟨j, st, sb, lb', hj1, hj2, rfl, rfl, hst, hM, c3, c4, c5, c6, hsb⟩ := hrel
    have HST := Lib.hid hst
    have HSB := Lib.hid hsb
    clear hst hsb
    by_cases cj : j ≤ 2
    · have hw : IntKind.i64.wrap (j + 1) = j + 1 := by rw [IntKind.wrap_i64]; omega
      have dj : decide (j ≤ 2) = true := decide_eq_true cj
      obtain ⟨e', he'⟩ : ∃ e', IntKind.i64.wrap (h + j) = e' := ⟨_, rfl⟩
      have HE : Hid (OkE h j → e' = h + j) := Lib.hid fun c => by rw [← he', IntKind.wrap_i64]; omega
      have HF : Hid (¬ OkE h j → (j < 0 ∧ h < e') ∨ (0 < j ∧ e' < h)) := Lib.hid fun c => by rw [← he', IntKind.wrap_i64]; omega
      obtain ⟨sk, hsk⟩ : ∃ b, (!decide (OkE h j)) = b := ⟨_, rfl⟩
      have HSK := Lib.hid hsk
      clear hsk
      go_upto_region 7 with (fail)
      go_cut [39] (fun s39 wx => s39 = .bool sk ∧ wx = wr)
      case first =>
        by_cases ok : OkE h j
        · have e1 := HE.out ok
          obtain rfl : sk = false := by rw [← HSK.out, decide_eq_true ok]; rfl
          have q1 : decide (h < e') = decide (0 < j) := decide_eq_decide.2 (by omega)
          have q2 : decide (e' < h) = decide (j < 0) := decide_eq_decide.2 (by omega)
          clear he' HE HF e1 ok
          rcases Int.lt_trichotomy j 0 with g1 | rfl | g1
          · have d1 : decide (j < 0) = true := decide_eq_true g1
            have d2 : decide (0 < j) = false := decide_eq_false (by omega)
            rw [d1] at q2
            rw [d2] at q1
            go_wp2_with fail
            go_meet
            exact ⟨rfl, rfl⟩
          · simp at q1 q2
            have d1 : decide (h < e') = false := decide_eq_false (by omega)
            have d2 : decide (e' < h) = false := decide_eq_false (by omega)
            go_wp2_with fail
            go_meet
            exact ⟨rfl, rfl⟩
          · have d1 : decide (j < 0) = false := decide_eq_false (by omega)
            have d2 : decide (0 < j) = true := decide_eq_true g1
            rw [d1] at q2
            rw [d2] at q1
            go_wp2_with fail
            go_meet
            exact ⟨rfl, rfl⟩
        · have e1 := HF.out ok
          obtain rfl : sk = true := by rw [← HSK.out, decide_eq_false ok]; rfl
          clear he' HE HF ok
          rcases e1 with ⟨g1, g2⟩ | ⟨g1, g2⟩
          · have d1 : decide (j < 0) = true := decide_eq_true g1
            have d2 : decide (h < e') = true := decide_eq_true g2
            go_wp2_with fail
            go_meet
            exact ⟨rfl, rfl⟩
          · have d1 : decide (j < 0) = false := decide_eq_false (by omega)
            have d2 : decide (0 < j) = true := decide_eq_true g1
            have d3 : decide (e' < h) = true := decide_eq_true g2
            go_wp2_with fail
            go_meet
            exact ⟨rfl, rfl⟩
      obtain ⟨rfl, rfl⟩ := hcut
      by_cases ok : OkE h j
      · obtain rfl : sk = false := by rw [← HSK.out, decide_eq_true ok]; rfl
        obtain rfl := HE.out ok
        have ERj := Lib.hid (ER.out j ok)
        have SZj := Lib.hid (SZ.out j ok)
        have hst := HST.out
        clear he' HF HE HSK
        go_wp2_with fail
        refine (ERj.out _).mono ?_
        rintro e w5 ⟨rfl, M5⟩
        have N5 := hM.trans M5
        have e3 := M5.blk c3
        have e4 := M5.blk c4
        have e5 := M5.blk c5
        have e6 := M5.blk c6
        have l5 := Nat.lt_of_lt_of_le c6.lt M5.size
        have l6 := c4.lt
        have l7 := hM.size
        clear M5 c3 c4 c5 c6 hM ERj
        have f3 : Blk (w5.setRow (g + 1) (numC (SX j) (lim (AX j)))) w.heap.size 32 #[.int .i64 h, .int .u64 l] := blk_setRow_ne e3 (by omega)
        have f4 : Blk (w5.setRow (g + 1) (numC (SX j) (lim (AX j)))) (w.heap.size + 1) 32 #[.int .i64 0, .int .u64 0] := blk_setRow_ne e4 (by omega)
        have f5 : Blk (w5.setRow (g + 1) (numC (SX j) (lim (AX j)))) g 103 (numC sN (lim aN)) := blk_setRow_ne e5 (by omega)
        have f6 : Blk (w5.setRow (g + 1) (numC (SX j) (lim (AX j)))) (g + 1) 103 (numC (SX j) (lim (AX j))) := blk_setRow e6
        have NM : Mo w (w5.setRow (g + 1) (numC (SX j) (lim (AX j)))) := mo_setRow N5 (by omega) _
        cases st with
        | none =>
          have HN := Lib.hid (hst.first hj1 ok)
          clear hst ok
          go_wp2_with fail
          first | (refine wp_region_mo (by kernel_rfl) (by kernel_rfl) ?_) | (refine wp_region_mo' (by kernel_rfl) (by kernel_rfl) ?_)
          repeat (go_big_quiet_step (fail))
          refine wpQuiet_nil ?_
          intro _ hw'
          obtain ⟨⟨J9, d9⟩, hw''⟩ := hw'
          subst hw''
          go_wp2_with fail
          go_roundw
          case rel => exact ⟨j + 1, some j, SX j, lim (AX j), by omega, by omega, by go_num, rfl, HN.out, NM.trans Mor.out, inferInstance, inferInstance, inferInstance, inferInstance, fun i0 e => by injection e with e; subst e; exact ⟨rfl, rfl⟩⟩
          case measure => simp [intOf]; omega
        | some i1 =>
          obtain ⟨rfl, rfl⟩ := HSB.out i1 rfl
          obtain ⟨q1, q2, q3⟩ := hst.yes i1 rfl
          have SZi := Lib.hid (SZ.out i1 q2)
          have SCi := Lib.hid (SC.out i1 j ⟨q1.1, by omega⟩ ⟨hj1, cj⟩)
          have HNt := Lib.hid (fun q => hst.take hj1 ok q)
          have HNs := Lib.hid (fun q => hst.stay (j := j) q)
          obtain ⟨o, ho⟩ : ∃ o, cmpI (dU u j) (dU u i1) = o := ⟨_, rfl⟩
          rw [ho] at SCi
          by_cases lt : dU u j < dU u i1
          · have do1 : decide (o < 0) = true := by rw [← ho]; unfold cmpI; rw [if_pos lt]; rfl
            have HN := Lib.hid (HNt.out lt)
            clear hst ok HNt HNs lt ho q1 q2 q3
            go_wp2_with fail
            first | (refine wp_region_mo (by kernel_rfl) (by kernel_rfl) ?_) | (refine wp_region_mo' (by kernel_rfl) (by kernel_rfl) ?_)
            repeat (go_big_quiet_step (first | (with_reducible exact quiet_mo (SZj.out _)) | (with_reducible exact quiet_mo (SZi.out _)) | (with_reducible exact quiet_mo (SCi.out _))))
            refine wpQuiet_nil ?_
            intro _ hw'
            obtain ⟨⟨J9, d9⟩, hw''⟩ := hw'
            subst hw''
            go_wp2_with fail
            go_roundw
            case rel => exact ⟨j + 1, some j, SX j, lim (AX j), by omega, by omega, by go_num, rfl, HN.out, NM.trans Mor.out, inferInstance, inferInstance, inferInstance, inferInstance, fun i0 e => by injection e with e; subst e; exact ⟨rfl, rfl⟩⟩
            case measure => simp [intOf]; omega
          · have do1 : decide (o < 0) = false := by rw [← ho]; unfold cmpI; rw [if_neg lt]; split <;> rfl
            have HN := Lib.hid (HNs.out lt)
            clear hst ok HNt HNs lt ho q1 q2 q3
            go_wp2_with fail
            first | (refine wp_region_mo (by kernel_rfl) (by kernel_rfl) ?_) | (refine wp_region_mo' (by kernel_rfl) (by kernel_rfl) ?_)
            repeat (go_big_quiet_step (first | (with_reducible exact quiet_mo (SZj.out _)) | (with_reducible exact quiet_mo (SZi.out _)) | (with_reducible exact quiet_mo (SCi.out _))))
            refine wpQuiet_nil ?_
            intro _ hw'
            obtain ⟨⟨J9, d9⟩, hw''⟩ := hw'
            subst hw''
            go_wp2_with fail
            go_roundw
            case rel => exact ⟨j + 1, some i1, SX i1, lim (AX i1), by omega, by omega, by go_num, rfl, HN.out, N5.trans Mor.out, inferInstance, inferInstance, inferInstance, inferInstance, fun i0 e => by injection e with e; subst e; exact ⟨rfl, rfl⟩⟩
            case measure => simp [intOf]; omega
      · obtain rfl : sk = true := by rw [← HSK.out, decide_eq_false ok]; rfl
        have HN := Lib.hid (HST.out.skip ok)
        clear ok he' HE HF
        go_wp2_with fail
        go_roundw
        case rel => exact ⟨j + 1, st, sb, lb', by omega, by omega, by go_num, rfl, HN.out, hM, c3, c4, c5, c6, HSB.out⟩
        case measure => simp [intOf]; omega
    · obtain rfl : j = 3 := by omega
      obtain ⟨i0, rfl, q2, q3⟩ := ND.out _ HST.out
      obtain ⟨rfl, rfl⟩ := HSB.out i0 rfl
      have WDi := Lib.hid (WD.out i0 q2 q3)
      clear q2 q3 ND NS SZ SC ER WD
      go_wp2_with fail
      refine (WDi.out _).mono ?_
      rintro e wx ⟨rfl, MX⟩
      have d4 := MX.blk c4
      go_wp2_with fail
      have q4 : Blk ((wx.setCell ⟨w.heap.size + 1, 0, none⟩ (.int .i64 (hiW res))).setCell ⟨w.heap.size + 1, 1, none⟩ (.int .u64 (loW res))) (w.heap.size + 1) 32 #[.int .i64 (hiW res), .int .u64 (loW res)] := blk_setCell (blk_setCell d4 0 _) 1 _
      exact bodyPost_ret (v := WV res) (by simp [results, Try.results35, go_sem]) rfl ⟨rfl, mo_setCell (mo_setCell (hM.trans MX) (by omega) 0 _) (by omega) 1 _⟩
end Go.Proofs.Ytcflebggepmmcaa
