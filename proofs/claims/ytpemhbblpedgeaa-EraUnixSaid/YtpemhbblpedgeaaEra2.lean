/- era.Unfold: what it returns, in integers. -/
import Derived.Test.YtpemhbblpedgeaaEra
import Derived.Test.YtpemhbblpedgeaaMo
namespace Go.Proofs.Ytpemhbblpedgeaa
open Go.RowKit

theorem hmf (fn : Fn) (first cap : Array Value) (w : World) : (Instr.makeFunc fn first cap).run Try.prog w = .ok (.func fn first cap) w := rfl
attribute [go_sem] hmf
/-- the world that the literal in Unfold meets: the stamp, the other moment, the result's place, the best so far -/
abbrev eraW (w : World) (s hN lN hb lb : Int) : World := (((w.alloc (.cells #[.int .u64 s] 22)).alloc (.cells #[.int .i64 hN, .int .u64 lN] 24)).alloc (.cells #[.int .i64 0, .int .u64 0] 24)).alloc (.cells #[.int .i64 hb, .int .u64 lb] 24)
abbrev LV (h l : Int) : Value := .agg #[.int .i64 h, .int .u64 l]

set_option maxHeartbeats 1000000 in
theorem try_any (w W : World) (s hN lN hb lb hb' lb' e g h c c2 : Int)
    (hc : c = -1 ∧ hb' = e ∧ lb' = s ∨ c = 0 ∧ c2 = -1 ∧ hb' = e ∧ lb' = s ∨ c = 0 ∧ c2 = 1 ∧ hb' = hb ∧ lb' = lb ∨ c = 1 ∧ hb' = hb ∧ lb' = lb)
    (G1 : Hid (∀ w, Calls Try.prog 18 #[LV e s, LV hN lN] w fun e w' => e = .returned (WV g) ∧ Mo w w'))
    (G2 : Hid (∀ w, Calls Try.prog 18 #[LV hb lb, LV hN lN] w fun e w' => e = .returned (WV h) ∧ Mo w w'))
    (C1 : Hid (∀ w, Calls Try.prog 11 #[WV g, WV h] w fun e w' => e = .returned (.int .i64 c) ∧ Mo w w'))
    (C2 : Hid (∀ w, Calls Try.prog 11 #[LV e s, LV hb lb] w fun e w' => e = .returned (.int .i64 c2) ∧ Mo w w'))
    (hW : Mo (eraW w s hN lN hb lb) W) :
    Calls Try.prog 17 #[.int .i64 e, .pointer (some ⟨w.heap.size, 0, none⟩), .pointer (some ⟨w.heap.size + 1, 0, none⟩), .pointer (some ⟨w.heap.size + 1 + 1 + 1, 0, none⟩)] W
      fun en w' => en = .returned (.tuple #[]) ∧ Mo (eraW w s hN lN hb' lb') w' := by
  obtain ⟨J, d, rfl⟩ := hW
  go_enter Try.func17, Try.ntmps17
  go_wp2_with fail
  refine wp_name ?_
  intro V hV
  have p5 : V.cell? ⟨w.heap.size + 1 + 1 + 1 + 1 + J.size, 0, none⟩ = some (.int .i64 e) := by rw [hV]; simp [go_sem]
  have p5' : V.cell? ⟨w.heap.size + 1 + 1 + 1 + 1 + J.size, 1, none⟩ = some (.int .u64 s) := by rw [hV]; simp [go_sem]
  have p2 : V.cell? ⟨w.heap.size + 1, 0, none⟩ = some (.int .i64 hN) := by rw [hV]; simp [go_sem]
  have p2' : V.cell? ⟨w.heap.size + 1, 1, none⟩ = some (.int .u64 lN) := by rw [hV]; simp [go_sem]
  have p3 : V.cell? ⟨w.heap.size + 1 + 1 + 1, 0, none⟩ = some (.int .i64 hb) := by rw [hV]; simp [go_sem]
  have p3' : V.cell? ⟨w.heap.size + 1 + 1 + 1, 1, none⟩ = some (.int .u64 lb) := by rw [hV]; simp [go_sem]
  have HV := Lib.hid hV
  clear hV
  have L5 : LtW (w.heap.size + 1 + 1 + 1 + 1 + J.size) V := LtW.of_cell p5
  have L2 : LtW (w.heap.size + 1) V := LtW.of_cell p2
  have L3 : LtW (w.heap.size + 1 + 1 + 1) V := LtW.of_cell p3
  go_cut [6, 7] (fun s6 s7 wx => ∃ p q, s6 = .pointer (some ⟨p, 0, none⟩) ∧ s7 = .pointer (some ⟨q, 0, none⟩) ∧ wx.cell? ⟨p, 0, none⟩ = some (.int .i64 (hiW g)) ∧ wx.cell? ⟨p, 1, none⟩ = some (.int .u64 (loW g)) ∧ wx.cell? ⟨q, 0, none⟩ = some (.int .i64 (hiW h)) ∧ wx.cell? ⟨q, 1, none⟩ = some (.int .u64 (loW h)) ∧ Mo V wx)
  case first =>
    as_aux_lemma =>
      go_region_held3 (fun w' => w'.cell? ⟨w.heap.size + 1 + 1 + 1 + 1 + J.size, 0, none⟩ = some (.int .i64 e) ∧ w'.cell? ⟨w.heap.size + 1 + 1 + 1 + 1 + J.size, 1, none⟩ = some (.int .u64 s) ∧ w'.cell? ⟨w.heap.size + 1, 0, none⟩ = some (.int .i64 hN) ∧ w'.cell? ⟨w.heap.size + 1, 1, none⟩ = some (.int .u64 lN) ∧ w'.cell? ⟨w.heap.size + 1 + 1 + 1, 0, none⟩ = some (.int .i64 hb) ∧ w'.cell? ⟨w.heap.size + 1 + 1 + 1, 1, none⟩ = some (.int .u64 lb)) (simp [go_sem, p5, p5', p2, p2', p3, p3'])
        (first
        | ((with_reducible refine (G1.out _).mono ?_); rintro e w1 ⟨rfl, J3, d3, rfl⟩)
        | ((with_reducible refine (G2.out _).mono ?_); rintro e w1 ⟨rfl, J3, d3, rfl⟩))
      all_goals (go_wp2_with fail; go_meet; exact ⟨_, _, rfl, rfl, by simp [go_sem], by simp [go_sem], by simp [go_sem], by simp [go_sem], Mor.out⟩)
  obtain ⟨p, q, rfl, rfl, k1, k2, k3, k4, hM⟩ := hcut
  replace p5 : wc.cell? ⟨w.heap.size + 1 + 1 + 1 + 1 + J.size, 0, none⟩ = some (.int .i64 e) := hM.cell.trans p5
  replace p5' : wc.cell? ⟨w.heap.size + 1 + 1 + 1 + 1 + J.size, 1, none⟩ = some (.int .u64 s) := hM.cell.trans p5'
  replace p3 : wc.cell? ⟨w.heap.size + 1 + 1 + 1, 0, none⟩ = some (.int .i64 hb) := hM.cell.trans p3
  replace p3' : wc.cell? ⟨w.heap.size + 1 + 1 + 1, 1, none⟩ = some (.int .u64 lb) := hM.cell.trans p3'
  clear p2 p2' L2
  obtain ⟨J2, d2, hwc⟩ := hM
  rw [HV.out] at hwc
  have HC := Lib.hid hwc
  clear hwc HV L5 L3
  have L5 : LtW (w.heap.size + 1 + 1 + 1 + 1 + J.size) wc := LtW.of_cell p5
  have L3 : LtW (w.heap.size + 1 + 1 + 1) wc := LtW.of_cell p3
  have Lp : LtW p wc := LtW.of_cell k1
  have Lq : LtW q wc := LtW.of_cell k3
  rcases hc with ⟨rfl, rfl, rfl⟩ | ⟨rfl, rfl, rfl, rfl⟩ | ⟨rfl, rfl, rfl, rfl⟩ | ⟨rfl, rfl, rfl⟩
  · go_wp2_with fail
    refine (C1.out _).mono ?_; rintro e w1 ⟨rfl, J6, d6, rfl⟩
    go_upto_region 4 with (fail)
    obtain rfl := HC.out
    clear HC k1 k2 k3 k4 p5 p5' p3 p3' L5 L3 Lp Lq
    go_wp2_with fail
    go_end0
    exact ⟨rfl, Mor.out⟩
  · go_wp2_with fail
    refine (C1.out _).mono ?_; rintro e w1 ⟨rfl, J6, d6, rfl⟩
    go_wp2_with fail
    refine (C2.out _).mono ?_; rintro e w1 ⟨rfl, J7, d7, rfl⟩
    go_upto_region 4 with (fail)
    obtain rfl := HC.out
    clear HC k1 k2 k3 k4 p5 p5' p3 p3' L5 L3 Lp Lq
    go_wp2_with fail
    go_end0
    exact ⟨rfl, Mor.out⟩
  · go_wp2_with fail
    refine (C1.out _).mono ?_; rintro e w1 ⟨rfl, J6, d6, rfl⟩
    go_wp2_with fail
    refine (C2.out _).mono ?_; rintro e w1 ⟨rfl, J7, d7, rfl⟩
    go_wp2_with fail
    obtain rfl := HC.out
    clear HC k1 k2 k3 k4 p5 p5' p3 p3' L5 L3 Lp Lq
    go_end0
    exact ⟨rfl, Mor.out⟩
  · go_wp2_with fail
    refine (C1.out _).mono ?_; rintro e w1 ⟨rfl, J6, d6, rfl⟩
    go_wp2_with fail
    obtain rfl := HC.out
    clear HC k1 k2 k3 k4 p5 p5' p3 p3' L5 L3 Lp Lq
    go_end0
    exact ⟨rfl, Mor.out⟩

/-- the nearer one of two: the lesser, if both are as near -/
def nearer (N b x : Int) : Int := if cl (absI (x - N)) < cl (absI (b - N)) ∨ cl (absI (x - N)) = cl (absI (b - N)) ∧ x < b then x else b
theorem step_any (w W : World) (s N b e : Int) (h0 : 0 ≤ s) (h1 : s < 18446744073709551616) (hN : InW N) (hb : InW b) (e1 : -9223372036854775808 ≤ e) (e2 : e ≤ 9223372036854775807) (ne : e * 18446744073709551616 + s ≠ b)
    (hW : Mo (eraW w s (hiW N) (loW N) (hiW b) (loW b)) W) :
    Calls Try.prog 17 #[.int .i64 e, .pointer (some ⟨w.heap.size, 0, none⟩), .pointer (some ⟨w.heap.size + 1, 0, none⟩), .pointer (some ⟨w.heap.size + 1 + 1 + 1, 0, none⟩)] W
      fun en w' => en = .returned (.tuple #[]) ∧ Mo (eraW w s (hiW N) (loW N) (hiW (nearer N b (e * 18446744073709551616 + s))) (loW (nearer N b (e * 18446744073709551616 + s)))) w' := by
  obtain ⟨x, hx⟩ : ∃ x, x = e * 18446744073709551616 + s := ⟨_, rfl⟩
  have xh : hiW x = e := by rw [hx]; exact hi_mk e s h0 h1
  have xl : loW x = s := by rw [hx]; exact lo_mk e s h0 h1
  have ix : InW x := by rw [hx]; exact inW_mk e s h0 h1 e1 e2
  have ev : LV e s = WV x := by rw [← xh, ← xl]
  rw [← hx] at ne ⊢
  refine try_any w W s (hiW N) (loW N) (hiW b) (loW b) _ _ e (cl (absI (x - N))) (cl (absI (b - N))) (cmpI (cl (absI (x - N))) (cl (absI (b - N)))) (cmpI x b) ?_
    (Lib.hid (by rw [ev]; exact gap_any x N ix hN)) (Lib.hid (gap_any b N hb hN)) (Lib.hid (cmp_any _ _)) (Lib.hid (by rw [ev]; exact cmp_any x b)) hW
  unfold nearer cmpI
  rcases Int.lt_trichotomy (cl (absI (x - N))) (cl (absI (b - N))) with c | c | c
  · left
    rw [if_pos c, if_pos (Or.inl c)]
    exact ⟨rfl, xh, xl⟩
  · rcases Int.lt_or_gt_of_ne ne with k | k
    · right; left
      rw [if_neg (by omega), if_neg (by omega), if_pos k, if_pos (Or.inr ⟨c, k⟩)]
      exact ⟨rfl, rfl, xh, xl⟩
    · right; right; left
      rw [if_neg (by omega), if_neg (by omega), if_neg (by omega), if_pos k, if_neg (by omega)]
      exact ⟨rfl, rfl, rfl, rfl⟩
  · right; right; right
    rw [if_neg (by omega), if_pos c, if_neg (by omega)]
    exact ⟨rfl, rfl, rfl⟩
theorem clabs {d : Int} (h1 : -36893488147419103232 ≤ d) (h2 : d ≤ 36893488147419103232) : cl (absI d) = absI d := cl_in (by unfold InW absI; split <;> omega)
theorem unf_steps {s N : Int} (h0 : 0 ≤ s) (h1 : s < 18446744073709551616) (b0 b1 b2 : Int) (e0 : b0 = hiW N * 18446744073709551616 + s)
    (e1 : b1 = if hiW N < 9223372036854775807 then nearer N b0 ((hiW N + 1) * 18446744073709551616 + s) else b0)
    (e2 : b2 = if -9223372036854775808 < hiW N then nearer N b1 ((hiW N - 1) * 18446744073709551616 + s) else b1) : b2 = unf s N ∧ b0 ≤ b1 := by
  have hl := hilo N
  have l1 := lo1 N
  have l2 := lo2 N
  unfold unf unfK
  generalize hiW N = h at *
  generalize loW N = l at *
  have q0 : cl (absI (b0 - N)) = absI (s - l) := by rw [clabs (by omega) (by omega)]; congr 1; omega
  have q1 : cl (absI ((h + 1) * 18446744073709551616 + s - N)) = absI (s - l + 18446744073709551616) := by rw [clabs (by omega) (by omega)]; congr 1; omega
  have q2 : cl (absI ((h - 1) * 18446744073709551616 + s - N)) = absI (s - l - 18446744073709551616) := by rw [clabs (by omega) (by omega)]; congr 1; omega
  unfold nearer at *
  rw [q0, q1] at e1
  have k1 : b1 = b0 ∨ b1 = (h + 1) * 18446744073709551616 + s := by
    rw [e1]; split
    · split
      · right; rfl
      · left; rfl
    · left; rfl
  rcases k1 with k1 | k1
  · rw [k1] at e1 e2 ⊢
    rw [q0, q2] at e2
    unfold absI at *
    refine ⟨?_, by omega⟩
    rw [e2]
    clear e2 q0 q1 q2
    (repeat' split at e1) <;> (repeat' split) <;> omega
  · rw [k1] at e1 e2 ⊢
    rw [q1, q2] at e2
    unfold absI at *
    refine ⟨?_, by omega⟩
    rw [e2]
    clear e2 q0 q1 q2
    (repeat' split at e1) <;> (repeat' split) <;> omega
set_option maxHeartbeats 1000000 in
theorem unfold_any (s N : Int) (h0 : 0 ≤ s) (h1 : s < 18446744073709551616) (hN : InW N) (w : World) :
    Calls Try.prog 7 #[.int .u64 s, WV N] w fun e w' => e = .returned (WV (unf s N)) ∧ Mo w w' := by
  obtain ⟨b0, e0⟩ : ∃ b, b = hiW N * 18446744073709551616 + s := ⟨_, rfl⟩
  obtain ⟨b1, e1⟩ : ∃ b, b = if hiW N < 9223372036854775807 then nearer N b0 ((hiW N + 1) * 18446744073709551616 + s) else b0 := ⟨_, rfl⟩
  obtain ⟨b2, e2⟩ : ∃ b, b = if -9223372036854775808 < hiW N then nearer N b1 ((hiW N - 1) * 18446744073709551616 + s) else b1 := ⟨_, rfl⟩
  obtain ⟨u1, u2⟩ := unf_steps h0 h1 b0 b1 b2 e0 e1 e2
  rw [← u1]
  clear u1
  have a1 := hN.h1
  have a2 := hN.h2
  have f0 : hiW b0 = hiW N := by rw [e0]; exact hi_mk _ _ h0 h1
  have f1 : loW b0 = s := by rw [e0]; exact lo_mk _ _ h0 h1
  have i0 : InW b0 := by rw [e0]; exact inW_mk _ _ h0 h1 a1 a2
  have i1 : InW b1 := by
    rw [e1]; split
    · unfold nearer; split
      · exact inW_mk _ _ h0 h1 (by omega) (by omega)
      · exact i0
    · exact i0
  have S1 : Hid (∀ W, hiW N < 9223372036854775807 → Mo (eraW w s (hiW N) (loW N) (hiW N) s) W → Calls Try.prog 17 #[.int .i64 (hiW N + 1), .pointer (some ⟨w.heap.size, 0, none⟩), .pointer (some ⟨w.heap.size + 1, 0, none⟩), .pointer (some ⟨w.heap.size + 1 + 1 + 1, 0, none⟩)] W fun en w' => en = .returned (.tuple #[]) ∧ Mo (eraW w s (hiW N) (loW N) (hiW b1) (loW b1)) w') := Lib.hid (fun W c hW => by
    have := step_any w W s N b0 (hiW N + 1) h0 h1 hN i0 (by omega) (by omega) (by omega) (by rw [f0, f1]; exact hW)
    rw [if_pos c] at e1
    rwa [← e1] at this)
  have S2 : Hid (∀ W, -9223372036854775808 < hiW N → Mo (eraW w s (hiW N) (loW N) (hiW b1) (loW b1)) W → Calls Try.prog 17 #[.int .i64 (hiW N - 1), .pointer (some ⟨w.heap.size, 0, none⟩), .pointer (some ⟨w.heap.size + 1, 0, none⟩), .pointer (some ⟨w.heap.size + 1 + 1 + 1, 0, none⟩)] W fun en w' => en = .returned (.tuple #[]) ∧ Mo (eraW w s (hiW N) (loW N) (hiW b2) (loW b2)) w') := Lib.hid (fun W c hW => by
    have := step_any w W s N b1 (hiW N - 1) h0 h1 hN i1 (by omega) (by omega) (by omega) hW
    rw [if_pos c] at e2
    rwa [← e2] at this)
  have E1 : ¬ hiW N < 9223372036854775807 → hiW b1 = hiW N ∧ loW b1 = s := fun c => by rw [if_neg c] at e1; rw [e1]; exact ⟨f0, f1⟩
  have E2 : ¬ -9223372036854775808 < hiW N → b2 = b1 := fun c => by rw [if_neg c] at e2; exact e2
  clear e0 e1 e2 u2 f0 f1 i0 i1 h0 h1 hN
  go_enter Try.func7, Try.ntmps7
  by_cases c1 : hiW N < 9223372036854775807
  · go_wp2_with fail
    refine (S1.out _ c1 (Mo.refl _)).mono ?_
    rintro e w1 ⟨rfl, J1, d1, rfl⟩
    by_cases c2 : -9223372036854775808 < hiW N
    · go_wp2_with fail
      refine (S2.out _ c2 Mor.out).mono ?_
      rintro e w1 ⟨rfl, J2, d2, rfl⟩
      go_wp2_with fail
      exact bodyPost_ret (v := WV b2) (by simp [results, Try.results7, go_sem]) rfl ⟨rfl, Mor.out⟩
    · obtain rfl := E2 (by omega)
      go_wp2_with fail
      exact bodyPost_ret (v := WV b2) (by simp [results, Try.results7, go_sem]) rfl ⟨rfl, Mor.out⟩
  · obtain ⟨f1, f2⟩ := E1 c1
    have c2 : -9223372036854775808 < hiW N := by omega
    rw [f1, f2] at S2
    go_wp2_with fail
    refine (S2.out _ c2 (Mo.refl _)).mono ?_
    rintro e w1 ⟨rfl, J2, d2, rfl⟩
    go_wp2_with fail
    exact bodyPost_ret (v := WV b2) (by simp [results, Try.results7, go_sem]) rfl ⟨rfl, Mor.out⟩
end Go.Proofs.Ytpemhbblpedgeaa
