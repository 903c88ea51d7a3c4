/- allan's with: the sums with a slot behind all others. -/
import Derived.Test.YtfojgjannhhbaaaGrid2
namespace Go.Proofs.Ytfojgjannhhbaaa
open Go.RowKit

/-- one octave more -/
def withS (R : Nat) (f : Nat → Slot) (s : Slot) (t : Tot) (k : Nat) : Tot :=
  if (s.some && (fnd R f (wrap64 (s.num - 2 ^ k))).2 && (fnd R f (wrap64 (s.num - 2 * 2 ^ k))).2) = true then
    updF t k ((t k).1 + 1, (t k).2 + (s.off - 2 * (fnd R f (wrap64 (s.num - 2 ^ k))).1 + (fnd R f (wrap64 (s.num - 2 * 2 ^ k))).1) * (s.off - 2 * (fnd R f (wrap64 (s.num - 2 ^ k))).1 + (fnd R f (wrap64 (s.num - 2 * 2 ^ k))).1))
  else t
def withK (R : Nat) (f : Nat → Slot) (s : Slot) (t : Tot) (n : Nat) : Tot := (List.range n).foldl (withS R f s) t
set_option maxRecDepth 20000 in
theorem withK_succ (R : Nat) (f : Nat → Slot) (s : Slot) (t : Tot) (n : Nat) : withK R f s t (n + 1) = withS R f s (withK R f s t n) n := by
  unfold withK; rw [List.range_succ, List.foldl_append]; rfl
set_option maxRecDepth 20000 in
theorem withS_ne (R : Nat) (f : Nat → Slot) (s : Slot) (t : Tot) {k j : Nat} (h : j ≠ k) : withS R f s t k j = t j := by
  unfold withS; split
  · exact updF_ne _ _ h
  · rfl
set_option maxRecDepth 20000 in
theorem withK_above (R : Nat) (f : Nat → Slot) (s : Slot) (t : Tot) (n j : Nat) (h : n ≤ j) : withK R f s t n j = t j := by
  induction n with
  | zero => rfl
  | succ n ih => rw [withK_succ, withS_ne _ _ _ _ (by omega), ih (by omega)]
/-- offsets that are no more than 2^47 from 0 -/
def Near (x : Int) : Prop := -140737488355328 ≤ x ∧ x ≤ 140737488355328

set_option maxRecDepth 20000 in
theorem sq_bd' {x B : Int} (h1 : -B ≤ x) (h2 : x ≤ B) : x * x ≤ B * B := by
  rcases Int.le_total 0 x with c | c
  · exact Int.mul_le_mul h2 h2 c (by omega)
  · rw [← Int.neg_mul_neg x x]; exact Int.mul_le_mul (by omega) (by omega) (by omega) (by omega)
set_option maxRecDepth 20000 in
theorem sq_nn' (x : Int) : 0 ≤ x * x := by
  rcases Int.le_total 0 x with c | c
  · exact Int.mul_nonneg c c
  · rw [← Int.neg_mul_neg x x]; exact Int.mul_nonneg (by omega) (by omega)
set_option maxRecDepth 20000 in
theorem two_pow_10 {k : Nat} (h : k < 10) : (1 : Int) ≤ 2 ^ k ∧ (2 : Int) ^ k ≤ 512 := by
  rcases (show k = 0 ∨ k = 1 ∨ k = 2 ∨ k = 3 ∨ k = 4 ∨ k = 5 ∨ k = 6 ∨ k = 7 ∨ k = 8 ∨ k = 9 by omega) with rfl | rfl | rfl | rfl | rfl | rfl | rfl | rfl | rfl | rfl <;> decide
set_option maxRecDepth 20000 in
set_option maxHeartbeats 4000000 in
theorem with_any (p r R C o : Nat) (x : Int) (nw s : Slot) (t : Tot) (ty : TypeId) (f : Nat → Slot) (W : World) (hR : 0 < R) (hR2 : R ≤ 1025) (ho : o ≤ 10)
    (n1 : -9223372036854775808 ≤ s.num) (n2 : s.num ≤ 9223372036854775807) (o1 : Near s.off) (hf : ∀ i, Near (f i).off)
    (hc : ∀ k, k < 10 → 0 ≤ (t k).1 ∧ (t k).1 ≤ 1000000 ∧ 0 ≤ (t k).2 ∧ (t k).2 ≤ 85070591730234615865843651857942052864)
    (hB : Blk W p ty (gridC x o r R C nw t)) (hB' : RingAt W r R f) :
    Calls Try.prog 23 #[.pointer (some ⟨p, 0, none⟩), .agg (slotC s)] W fun e w' => e = .returned (.agg (totC (withK R f s t o))) ∧ Mo W w' := by
  have c1 : W.cell? ⟨p, 1, none⟩ = some (.int .i64 o) := by rw [blk_cell hB, gridC_lo _ _ _ _ _ _ _ _ (by omega)]; rfl
  have c2 : W.cell? ⟨p, 2, none⟩ = some (.slice (some ⟨r, 0, none⟩) R C) := by rw [blk_cell hB, gridC_lo _ _ _ _ _ _ _ _ (by omega)]; rfl
  have LP : LtW p W := LtW.of_cell c1
  have LR : LtW r W := ⟨hB'.lt⟩
  have F1 := Lib.hid (fun (W' : World) (z : Int) (h : W'.cell? ⟨p, 2, none⟩ = some (.slice (some ⟨r, 0, none⟩) R C)) (h' : RingAt W' r R f) => find_any p r R C f z W' hR hR2 h h')
  have HF := Lib.hid hf
  have HC := Lib.hid hc
  have WS := Lib.hid (withK_succ R f s t)
  have WA := Lib.hid (withK_above R f s t)
  have WZ : withK R f s t 0 = t := rfl
  clear hf hc
  obtain ⟨sm, nm, of, dl⟩ := s
  simp only at n1 n2 o1
  go_enter Try.func23, Try.ntmps23
  go_wp2_with fail
  go_loopw [21] (fun i wr => ∃ k : Nat, k ≤ o ∧ i = .int .i64 k ∧ Mo (((W.alloc (.cells (slotC ⟨sm, nm, of, dl⟩) 57)).alloc (.cells (totC tot0) 60)).alloc (.cells (totC (withK R f ⟨sm, nm, of, dl⟩ t k)) 60)) wr) (fun i _ => o - (intOf i).toNat)
  case atStart => exact ⟨0, by omega, rfl, by rw [WZ]; exact Mo.refl _⟩
  case round =>
    obtain ⟨k, hk, rfl, J, d, rfl⟩ := hrel
    by_cases ck : k < o
    · have hw := WS.out k
      unfold withS at hw
      simp only at hw
      have htk := WA.out k k (Nat.le_refl _)
      rw [htk] at hw
      obtain ⟨m, hm⟩ : ∃ m : Int, (2 : Int) ^ k = m := ⟨_, rfl⟩
      have hmb := two_pow_10 (show k < 10 by omega)
      rw [hm] at hw hmb
      obtain ⟨m1, m2⟩ := hmb
      have hm2 : wrap64 (2 ^ k) = m := by rw [hm]; unfold wrap64; omega
      have FA := fun W' h h' => F1.out W' (wrap64 (nm - m)) h h'
      have FB := fun W' h h' => F1.out W' (wrap64 (nm - 2 * m)) h h'
      obtain ⟨q1, q2, q3, q4⟩ := HC.out k (by omega)
      have na : Near (fnd R f (wrap64 (nm - m))).1 := HF.out _
      have nb : Near (fnd R f (wrap64 (nm - 2 * m))).1 := HF.out _
      clear hm WS WA WZ F1 HF HC
      generalize fnd R f (wrap64 (nm - m)) = ra at *
      generalize fnd R f (wrap64 (nm - 2 * m)) = rb at *
      generalize withK R f ⟨sm, nm, of, dl⟩ t k = tk at *
      have HK : Hid (∃ T', withK R f ⟨sm, nm, of, dl⟩ t (k + 1) = T') := Lib.hid ⟨_, rfl⟩
      generalize hT : withK R f ⟨sm, nm, of, dl⟩ t (k + 1) = tk' at hw
      replace hT := Lib.hid hT
      clear HK
      generalize t k = tt at *
      obtain ⟨cc, ss⟩ := tt
      obtain ⟨a, ab⟩ := ra
      obtain ⟨b, bb⟩ := rb
      obtain ⟨na1, na2⟩ := na
      obtain ⟨nb1, nb2⟩ := nb
      obtain ⟨o1, o2⟩ := o1
      simp only at na1 na2 nb1 nb2 hw FA FB q1 q2 q3 q4
      replace FA := Lib.hid FA
      replace FB := Lib.hid FB
      have hk10 : k < 10 := by omega
      by_cases hall : (sm && ab && bb) = true
      · have hd : sm = true ∧ ab = true ∧ bb = true := by revert hall; cases sm <;> cases ab <;> cases bb <;> decide
        obtain ⟨rfl, rfl, rfl⟩ := hd
        rw [if_pos (by decide)] at hw
        have M1 := Lib.hid (fun W => mul_any (of - 2 * a + b) (of - 2 * a + b) (by omega) (by omega) (by omega) (by omega) W)
        have dd := sq_bd' (x := of - 2 * a + b) (B := 562949953421312) (by omega) (by omega)
        have d0 := sq_nn' (of - 2 * a + b)
        have A1 := Lib.hid (fun W => add_any ss ((of - 2 * a + b) * (of - 2 * a + b)) (by unfold InW; omega) (by unfold InW; omega) W)
        rw [cl_in (by unfold InW; omega)] at A1
        have hw' := Lib.hid hw
        clear hw hall dd d0
        generalize (of - 2 * a + b) * (of - 2 * a + b) = sq at *
        go_wp2_with fail
        refine (FA.out _ (by simp [go_sem, c2]) (by infer_instance)).mono ?_; rintro e w1 ⟨rfl, J1, d1, rfl⟩
        go_wp2_with fail
        refine (FB.out _ (by simp [go_sem, c2]) (by infer_instance)).mono ?_; rintro e w1 ⟨rfl, J2, d2, rfl⟩
        go_wp2_with fail
        refine wp_region_mo_tail' 16 (by kernel_rfl) (by kernel_rfl) ?_
        simp only [List.take_succ_cons, List.take_zero, List.drop_succ_cons, List.drop_zero]
        repeat (go_big_quiet_step (first | (with_reducible exact quiet_mo (M1.out _)) | (with_reducible exact quiet_mo (A1.out _))))
        refine wpQuiet_nil ?_
        intro _ hw2
        obtain ⟨⟨J9, d9⟩, hw''⟩ := hw2
        subst hw''
        go_wp2_with fail
        go_roundw
        case rel => exact ⟨k + 1, by omega, by go_num, by rw [hT.out, hw'.out]; exact Mor.out⟩
        case measure => simp [intOf]; omega
      · rw [if_neg hall] at hw
        have hw' := Lib.hid hw
        clear hw
        cases sm <;> cases ab <;> cases bb <;> first
          | (exact absurd (by decide) hall)
          | (clear hall
             go_wp2_with fail
             refine (FA.out _ (by simp [go_sem, c2]) (by infer_instance)).mono ?_; rintro e w1 ⟨rfl, J1, d1, rfl⟩
             go_wp2_with fail
             refine (FB.out _ (by simp [go_sem, c2]) (by infer_instance)).mono ?_; rintro e w1 ⟨rfl, J2, d2, rfl⟩
             go_wp2_with fail
             go_roundw
             case rel => exact ⟨k + 1, by omega, by go_num, by rw [hT.out, hw'.out]; exact Mor.out⟩
             case measure => simp [intOf]; omega)
    · obtain rfl : k = o := by omega
      clear WS WA WZ F1 HF HC
      go_wp2_with fail
      exact ret_tot (W.heap.size + 1) 60 (withK R f ⟨sm, nm, of, dl⟩ t k) Try.results23 rfl rfl ⟨rfl, Mor.out⟩
end Go.Proofs.Ytfojgjannhhbaaa
