/- horologelaw31.AccMoved returns true: the walk. -/
import Derived.Test.YtmaddbonkpfdgaaMoved31
import Derived.Test.YtmaddbonkpfdgaaAcc4
import Derived.OpenShut
namespace Go.Proofs.Ytmaddbonkpfdgaa
open Go.RowKit

def MInv (W : World) (p q : Nat) (l : List Int) (b : Int) (k : Nat) (wr : World) : Prop :=
  Blk wr p 39 (accC true (sumL (l.take k))) ∧ Blk wr q 39 (accC true (sumL ((l.take k).map (· + b)))) ∧ Mo W wr ∧ (∀ x ∈ l.take k, -70368744177664 ≤ x ∧ x ≤ 70368744177664) ∧ W.heap.size ≤ p ∧ W.heap.size ≤ q ∧ p ≠ q
theorem sumL_map_snoc (l : List Int) (b : Int) (k : Nat) (hk : k < l.length) : sumL ((l.take (k + 1)).map (· + b)) = addN (sumL ((l.take k).map (· + b))) (l.getD k 0 + b) := by
  unfold sumL
  rw [List.take_add_one, List.map_append, List.foldl_append, List.getElem?_eq_getElem hk]
  simp [hk]
theorem good_map (l : List Int) (b : Int) (k : Nat) (hk : k ≤ l.length) : Good (sumL ((l.take k).map (· + b))) k := by
  have := good_sum ((l.take k).map (· + b))
  rwa [List.length_map, List.length_take, Nat.min_eq_left hk] at this
theorem MInv.next {W w1 w2 wr : World} {p q : Nat} {l : List Int} {b : Int} {k : Nat} {e e' : Ending} (h : MInv W p q l b k wr) (hk : k < l.length) (b1 : -70368744177664 ≤ l.getD k 0) (b2 : l.getD k 0 ≤ 70368744177664)
    (h1 : AddRet p (addN (sumL (l.take k)) (l.getD k 0)) wr e w1) (h2 : AddRet q (addN (sumL ((l.take k).map (· + b))) (l.getD k 0 + b)) w1 e' w2) : MInv W p q l b (k + 1) w2 := by
  obtain ⟨_, _, m0, m1, m2, m3, m4⟩ := h
  obtain ⟨_, a2, a3, a4⟩ := h1
  obtain ⟨_, c2, c3, c4⟩ := h2
  refine ⟨?_, ?_, c4 W m3 (a4 W m2 m0), ?_, m2, m3, m4⟩
  · rw [sumL_snoc l k hk]; exact c3 p _ _ m4 a2
  · rw [sumL_map_snoc l b k hk]; exact c2
  · intro x hx
    rw [List.take_add_one, List.getElem?_eq_getElem hk, List.mem_append] at hx
    rcases hx with hx | hx
    · exact m1 x hx
    · simp only [Option.toList_some, List.mem_singleton] at hx
      subst hx
      rw [List.getD_eq_getElem?_getD, List.getElem?_eq_getElem hk] at b1 b2
      exact ⟨b1, b2⟩

theorem moved_told (l : List Int) (b : Int) (b1 : -70368744177664 ≤ b) (b2 : b ≤ 70368744177664) (hp : 0 < l.length) (hb : ∀ x ∈ l, -70368744177664 ≤ x ∧ x ≤ 70368744177664) :
    ∃ lo hi mean sp : Int, TV (sumL l) = .agg #[.int .i64 l.length, .int .i64 0, .int .i64 lo, .int .i64 hi, .int .i64 mean, .int .u64 sp] ∧
      TV (sumL (l.map (· + b))) = .agg #[.int .i64 l.length, .int .i64 0, .int .i64 (lo + b), .int .i64 (hi + b), .int .i64 (mean + b), .int .u64 sp] ∧
      -140737488355328 ≤ lo ∧ lo ≤ 140737488355328 ∧ -140737488355328 ≤ hi ∧ hi ≤ 140737488355328 ∧ -140737488355328 ≤ mean ∧ mean ≤ 140737488355328 := by
  have hM := moved_all l b b1 b2 st0 st0 (moved0 b) hb
  have hG := good_sum l
  change Moved (sumL l) (sumL (l.map (· + b))) b at hM
  generalize sumL l = S at *
  generalize sumL (l.map (· + b)) = T at *
  have cw := hG.cw
  rw [hM.w] at cw
  have hc : 0 < S.c := by omega
  have e1 := hM.mean hc
  have e2 := hM.spread hc
  obtain ⟨m1, m2⟩ := mean_bd hG hc
  have a1 := hG.lo
  have a2 := hG.lh
  have a3 := hG.hi
  have hc' : S.c = l.length := by omega
  refine ⟨S.lo, S.hi, meanS S, spreadS S, ?_, ?_, by omega, by omega, by omega, by omega, by omega, by omega⟩
  · unfold TV; rw [hc', hM.w]
  · unfold TV; rw [hM.c, hc', hM.w', hM.lo (by omega), hM.hi (by omega), e1, e2]

set_option maxRecDepth 20000 in
set_option maxHeartbeats 4000000 in
theorem moved_some (l : List Int) (g off cap : Nat) (b : Int) (W : World) (hl : l.length ≤ 200) (hp : 0 < l.length) (b1 : -70368744177664 ≤ b) (b2 : b ≤ 70368744177664)
    (hc : ∀ j, j < l.length → W.cell? ⟨g, off + j, none⟩ = some (.int .i64 (l.getD j 0))) :
    Calls Try.prog 4 #[.slice (some ⟨g, off, none⟩) l.length cap, .int .i64 b] W fun e w' => e = .returned (.bool true) ∧ Mo W w' := by
  have LG : LtW g W := LtW.of_cell (hc 0 hp)
  have HC := Lib.hid hc
  clear hc
  obtain ⟨n, hn⟩ : ∃ n, l.length = n := ⟨_, rfl⟩
  rw [hn] at hp hl ⊢
  have HN := Lib.hid hn
  have q1 : decide ((200 : Int) < ↑n) = false := by simp; omega
  have q2 : ((n : Int) == 0) = false := by simp; omega
  have q3 : decide (b < -70368744177664) = false := by simp; omega
  have q4 : decide (70368744177664 < b) = false := by simp; omega
  clear hn
  go_enter Try.func4, Try.ntmps4
  go_wp2_with fail
  refine (of_nothing _).mono ?_
  rintro e w1 ⟨p, rfl, hp1, hB1, hM1⟩
  go_wp2_with fail
  refine (of_nothing _).mono ?_
  rintro e w2 ⟨q, rfl, hq1, hB2, hM2⟩
  have I0 := Lib.hid (show MInv W p q l b 0 w2 from ⟨by rw [List.take_zero]; exact hM2.blk hB1, by rw [List.take_zero]; exact hB2, hM1.trans hM2, by simp, hp1, Nat.le_trans hM1.size hq1, by have := hB1.lt; omega⟩)
  clear hM1 hM2 hB1 hB2 hp1 hq1
  go_wp2_with fail
  go_loopw [8, 32] (fun x i wr => ∃ k : Nat, k ≤ n ∧ i = .int .i64 k ∧ MInv W p q l b k wr) (fun _ i _ => n - (intOf i).toNat)
  case atStart => exact ⟨0, by omega, rfl, I0.out⟩
  case round =>
    obtain ⟨k, hk, rfl, hI⟩ := hrel
    by_cases ck : k < n
    · have ce := HC.out k (by rw [HN.out]; exact ck)
      have hM : Mo W wr := hI.2.2.1
      have ce' : wr.cell? ⟨g, off + k, none⟩ = some (.int .i64 (l.getD k 0)) := by rw [hM.cell, ce]
      clear ce
      have A1 := Lib.hid (add_ret p (sumL (l.take k)) (l.getD k 0) k wr hI.1 (good_take l k (by rw [HN.out]; exact hk)) (by omega))
      have A2 := Lib.hid (fun (w1 : World) (hb : Blk w1 q 39 (accC true (sumL ((l.take k).map (· + b))))) => add_ret q (sumL ((l.take k).map (· + b))) (l.getD k 0 + b) k w1 hb (good_map l b k (by rw [HN.out]; exact hk)) (by omega))
      have NX := Lib.hid (fun (w1 w2 : World) (e e' : Ending) => hI.next (w1 := w1) (w2 := w2) (e := e) (e' := e') (by rw [HN.out]; exact ck))
      have Bq := hI.2.1
      have npq := hI.2.2.2.2.2.2
      clear hI I0
      generalize l.getD k 0 = x at *
      have hx : x < -70368744177664 ∨ (¬ x < -70368744177664 ∧ 70368744177664 < x) ∨ (-70368744177664 ≤ x ∧ x ≤ 70368744177664) := by omega
      rcases hx with x1 | ⟨x1, x2⟩ | ⟨x1, x2⟩
      · go_wp2_with fail
        refine (works_any _).mono ?_; rintro e w1 ⟨rfl, J1, d1, rfl⟩
        go_wp2_with fail
        go_ret
        exact ⟨rfl, hM.trans Mor.out⟩
      · go_wp2_with fail
        refine (works_any _).mono ?_; rintro e w1 ⟨rfl, J1, d1, rfl⟩
        go_wp2_with fail
        go_ret
        exact ⟨rfl, hM.trans Mor.out⟩
      · go_wp2_with fail
        refine A1.out.mono ?_
        intro e w1 h1
        have h1' := Lib.hid h1
        obtain ⟨rfl, -, h3, -⟩ := h1
        have Bq1 := h3 q _ _ (Ne.symm npq) Bq
        clear h3
        go_wp2_with fail
        refine (A2.out _ Bq1).mono ?_
        intro e w2 h2
        have h2' := Lib.hid h2
        obtain ⟨rfl, -, -, -⟩ := h2
        have hI := Lib.hid (NX.out _ _ _ _ x1 x2 h1'.out h2'.out)
        clear NX h1' h2' A1 A2 Bq Bq1 ce'
        go_wp2_with fail
        go_roundw
        case rel => exact ⟨k + 1, by omega, by go_num, hI.out⟩
        case measure => simp [intOf]; omega
    · obtain rfl : k = n := by omega
      obtain ⟨B1, B2, hM, hb, -, -, -⟩ := hI
      rw [← HN.out, List.take_length] at B1 B2 hb
      have hp0 := hp
      rw [← HN.out] at hp0
      obtain ⟨lo, hi, mean, sp, t1, t2, i1, i2, i3, i4, i5, i6⟩ := moved_told l b b1 b2 hp0 hb
      have T1 := Lib.hid (fun (W' : World) (hB : Blk W' p 39 (accC true (sumL l))) => told_acc p true (sumL l) _ W' hB (good_sum l) (by rw [HN.out]; omega))
      have T2 := Lib.hid (fun (W' : World) (hB : Blk W' q 39 (accC true (sumL (l.map (· + b))))) => told_acc q true (sumL (l.map (· + b))) _ W' hB (good_sum _) (by rw [List.length_map, HN.out]; omega))
      rw [t1, HN.out] at T1
      rw [t2, HN.out] at T2
      clear t1 t2 hb hp0 I0
      go_wp2_with fail
      refine (T1.out _ B1).mono ?_; rintro e w3 ⟨rfl, J1, d1, rfl⟩
      have B2' : Blk (more wr J1 d1) q 39 (accC true (sumL (l.map (· + b)))) := by infer_instance
      go_wp2_with fail
      refine (T2.out _ B2').mono ?_; rintro e w4 ⟨rfl, J2, d2, rfl⟩
      clear B1 B2 B2' T1 T2
      go_wp2_with fail
      refine (works_any _).mono ?_; rintro e w1 ⟨rfl, J3, d3, rfl⟩
      go_wp2_with fail
      go_ret
      exact ⟨rfl, hM.trans Mor.out⟩
theorem moved_off (A : Option Addr) (n cap : Nat) (b : Int) (W : World) (h : 200 < n ∨ n = 0 ∨ b < -70368744177664 ∨ 70368744177664 < b) :
    Calls Try.prog 4 #[.slice A n cap, .int .i64 b] W fun e w' => e = .returned (.bool true) ∧ Mo W w' := by
  have hk : 200 < n ∨ (n ≤ 200 ∧ n = 0) ∨ (n ≤ 200 ∧ n ≠ 0 ∧ b < -70368744177664) ∨ (n ≤ 200 ∧ n ≠ 0 ∧ ¬ b < -70368744177664 ∧ 70368744177664 < b) := by omega
  clear h
  have go : ∀ b1 b2 b3 b4 : Bool, decide ((200 : Int) < ↑n) = b1 → ((n : Int) == 0) = b2 → decide (b < -70368744177664) = b3 → decide (70368744177664 < b) = b4 → (b1 || b2 || b3 || b4) = true →
      Calls Try.prog 4 #[.slice A n cap, .int .i64 b] W fun e w' => e = .returned (.bool true) ∧ Mo W w' := by
    intro b1 b2 b3 b4 q1 q2 q3 q4 hb
    cases b1 <;> cases b2 <;> cases b3 <;> cases b4 <;> first
      | (exact absurd hb (by decide))
      | (clear hb hk
         go_enter Try.func4, Try.ntmps4
         go_wp2_with fail
         refine (works_any _).mono ?_; rintro e w1 ⟨rfl, J3, d3, rfl⟩
         go_wp2_with fail
         go_ret
         exact ⟨rfl, Mor.out⟩)
  refine go _ _ _ _ rfl rfl rfl rfl ?_
  simp only [Bool.or_eq_true, decide_eq_true_eq, beq_iff_eq]
  omega
theorem moved_slice (a : Addr) (zs : List Int) (len cap : Nat) (x : Int) (hle : len ≤ cap) (hall : zs.length = cap) (_ : -9223372036854775808 ≤ x) (_ : x ≤ 9223372036854775807) (W : World) (hc : ∀ i, i < zs.length → W.cell? (a.add i) = some (.int .i64 (zs.getD i 0))) :
    Calls Try.prog 4 #[.slice (some a) len cap, .int .i64 x] W fun e w' => e = .returned (.bool true) ∧ Mo W w' := by
  by_cases h : 200 < len ∨ len = 0 ∨ x < -70368744177664 ∨ 70368744177664 < x
  · exact moved_off (some a) len cap x W h
  · obtain ⟨b, off, rfl, hcell⟩ := ints_at hc (by omega)
    have ln : (zs.take len).length = len := by rw [List.length_take]; omega
    have := moved_some (zs.take len) b off cap x W (by omega) (by omega) (by omega) (by omega) (fun j hj => by
      rw [ln] at hj
      rw [hcell j (by omega)]
      simp [List.getD, List.getElem?_take_of_lt hj])
    rwa [ln] at this
theorem moved_nil (x : Int) (_ : -9223372036854775808 ≤ x) (_ : x ≤ 9223372036854775807) (W : World) :
    Calls Try.prog 4 #[.slice none 0 0, .int .i64 x] W fun e w' => e = .returned (.bool true) ∧ Mo W w' :=
  moved_off none 0 0 x W (.inr (.inl rfl))
end Go.Proofs.Ytmaddbonkpfdgaa
