/- horologelaw32.AllanTwice returns true. -/
import Derived.Test.YtfojgjannhhbaaaStraight32
namespace Go.Proofs.Ytfojgjannhhbaaa
open Go.RowKit

theorem dev_four (c s : Int) (hs : 0 ≤ s) : 0 ≤ devT c s ∧ devT c s * devT c s ≤ s ∧ (devT c (2 * 2 * s) = 2 * devT c s ∨ devT c (2 * 2 * s) = 2 * devT c s + 1) := by
  by_cases hc : 0 < c
  · rw [divpos _ _ hc, divpos _ _ hc]
    have hq0 : 0 ≤ s / (2 * c) := Int.ediv_nonneg hs (by omega)
    have e1 := Int.mul_ediv_add_emod s (2 * c)
    have e2 := Int.mul_ediv_add_emod (2 * 2 * s) (2 * c)
    have m1 := Int.emod_nonneg s (show 2 * c ≠ 0 by omega)
    have m2 := Int.emod_lt_of_pos s (show 0 < 2 * c by omega)
    have n1 := Int.emod_nonneg (2 * 2 * s) (show 2 * c ≠ 0 by omega)
    have n2 := Int.emod_lt_of_pos (2 * 2 * s) (show 0 < 2 * c by omega)
    generalize s / (2 * c) = q at *
    generalize 2 * 2 * s / (2 * c) = q' at *
    generalize s % (2 * c) = r1 at *
    generalize 2 * 2 * s % (2 * c) = r2 at *
    have g1 : 4 * q ≤ q' := by
      have : 2 * c * (4 * q) < 2 * c * (q' + 1) := by
        rw [Int.mul_left_comm, Int.mul_add]
        omega
      have := Int.lt_of_mul_lt_mul_left this (by omega)
      omega
    have g2 : q' < 4 * (q + 1) := by
      have : 2 * c * q' < 2 * c * (4 * (q + 1)) := by
        rw [Int.mul_left_comm (2 * c) 4, Int.mul_add (2 * c) q 1]
        omega
      exact Int.lt_of_mul_lt_mul_left this (by omega)
    have hqs : q ≤ s := by
      have : q ≤ 2 * c * q := by
        have := Int.mul_le_mul_of_nonneg_right (show 1 ≤ 2 * c by omega) hq0
        omega
      omega
    have p := rootV_is hq0
    have p' := rootV_is (show 0 ≤ q' by omega)
    generalize rootV q = r at *
    generalize rootV q' = r' at *
    obtain ⟨p1, p2, p3⟩ := p
    obtain ⟨u1, u2, u3⟩ := p'
    refine ⟨p1, by omega, ?_⟩
    have h1 : 2 * r < r' + 1 := by
      refine sq_lt (by omega) (by omega) ?_
      have : 2 * r * (2 * r) = 4 * (r * r) := by rw [Int.mul_assoc, Int.mul_left_comm r 2 r]; omega
      omega
    have h2 : r' < 2 * r + 2 := by
      refine sq_lt (by omega) (by omega) ?_
      have : (2 * r + 2) * (2 * r + 2) = 4 * ((r + 1) * (r + 1)) := by
        rw [show 2 * r + 2 = 2 * (r + 1) by omega, Int.mul_assoc, Int.mul_left_comm (r + 1) 2 (r + 1)]; omega
      omega
    omega
  · rw [divzero _ _ hc, divzero _ _ hc]
    exact ⟨by decide, by omega, .inl rfl⟩

set_option maxRecDepth 20000 in
set_option maxHeartbeats 4000000 in
theorem twice32_le (A : Option Addr) (l : List Stp) (cap : Nat) (oc : Int) (W : World) (hl : l.length ≤ 100) (c1 : 0 ≤ oc) (c2 : oc ≤ 255) (hR : StepRow W A l) :
    Calls Try.prog 5 #[.slice A l.length cap, .int .u8 oc] W fun e w' => e = .returned (.bool true) ∧ Mo W w' := by
  obtain ⟨o, ho⟩ : ∃ o : Nat, (1 + oc % 10 : Int) = o := ⟨(1 + oc % 10).toNat, by omega⟩
  have o1 : 1 ≤ o := by omega
  have o2 : o ≤ 10 := by omega
  have L1 := Lib.hid (fun w (h : StepRow w A l) => laid_any A l cap o 5 1 0 0 w hl o1 o2 (by omega) (by omega) (.inr (.inl rfl)) (by omega) (by omega) (by omega) (by omega) h)
  have L2 := Lib.hid (fun w (h : StepRow w A l) => laid_any A l cap o 5 2 0 0 w hl o1 o2 (by omega) (by omega) (.inr (.inr rfl)) (by omega) (by omega) (by omega) (by omega) h)
  rw [laid_map 5 1 0 0 (.inr (.inl rfl)) (by omega) (by omega) (by omega) (by omega) l hR.1 (by omega)] at L1
  rw [laid_map 5 2 0 0 (.inr (.inr rfl)) (by omega) (by omega) (by omega) (by omega) l hR.1 (by omega)] at L2
  have hb := (laid_ok 0 1 0 0 (by omega) (by omega) l hR.1 (by omega)).1
  simp only at L1 L2
  generalize (laidF 0 1 0 0 l).2 = M at *
  have hs := Lib.hid (fun k => sumN_bd k M hb.fine M.length (Nat.le_refl _))
  have hml : M.length ≤ 100 := by have := hb.len; omega
  clear hb
  obtain ⟨n, hn⟩ : ∃ n, l.length = n := ⟨_, rfl⟩
  rw [hn] at hl L1 L2 ⊢
  clear hn
  go_enter Try.func5, Try.ntmps5
  go_wp2_with fail
  refine (L1.out _ hR).mono ?_
  rintro e w2 ⟨v2, p2, r2, rfl, T2, G2, hp2, hr2, M2⟩
  go_wp2_with fail
  refine (L2.out _ (hR.mo M2)).mono ?_
  rintro e w3 ⟨v3, p3, r3, rfl, T3, G3, hp3, hr3, M3⟩
  obtain ⟨g2, k2, rfl, hg2, C2⟩ := tau_slice o1 T2
  obtain ⟨g3, k3, rfl, hg3, C3⟩ := tau_slice o1 T3
  have M123 := M2.trans M3
  have CC := Lib.hid (fun k (hk : k < o) => (C2 k hk).mo M3)
  have CD := Lib.hid (fun k (hk : k < o) => C3 k hk)
  clear L1 L2 T2 T3 G2 G3 M2 M3 C2 C3 hp2 hp3 hr2 hr3
  go_wp2_with fail
  go_loopw [51] (fun i wr => ∃ k : Nat, k ≤ o ∧ i = .int .i64 k ∧ Mo w3 wr) (fun i _ => o - (intOf i).toNat)
  case atStart => exact ⟨0, by omega, rfl, Mor.out⟩
  case round =>
    obtain ⟨k, hk, rfl, hM⟩ := hrel
    by_cases ck : k < o
    · obtain ⟨a0, a1, a2, a3, a4⟩ := (CC.out k ck).mo hM
      obtain ⟨b0, b1, b2, b3, b4⟩ := (CD.out k ck).mo hM
      rw [tauN_map] at a0 a1 a2 a3 a4 b0 b1 b2 b3 b4
      obtain ⟨s1, s2, s3, s4⟩ := hs.out k
      simp only at a0 a1 a2 a3 a4 b0 b1 b2 b3 b4
      simp only [Int.one_mul] at a2 a3 a4
      obtain ⟨d1, d2, d3⟩ := dev_four (sumN k M M.length).1 (sumN k M M.length).2 s3
      have i1 : (k : Int) < o := by omega
      have i0 : (0 : Int) ≤ k := by omega
      have Lg2 : LtW g2 wr := LtW.of_cell a1
      have Lg3 : LtW g3 wr := LtW.of_cell b1
      have SC := Lib.hid (fun w => scale_any (sumN k M M.length).2 4 (by unfold InW; omega) (by omega) (by omega) w)
      rw [cl_in (by unfold InW; omega)] at SC
      have e4 : 2 * 2 * (sumN k M M.length).2 = (sumN k M M.length).2 * 4 := by omega
      rw [e4] at b2 b3 b4 d3
      generalize devT (sumN k M M.length).1 (sumN k M M.length).2 = r at *
      generalize devT (sumN k M M.length).1 ((sumN k M M.length).2 * 4) = r' at *
      generalize (sumN k M M.length).1 = c at *
      generalize (sumN k M M.length).2 = s at *
      have d4 : r < 1152921504606846976 := sq_lt d1 (by omega) (by omega)
      have y1 : IntKind.u64.wrap (2 * r) = 2 * r := by rw [IntKind.wrap_u64]; omega
      have y2 : IntKind.u64.wrap (2 * r + 1) = 2 * r + 1 := by rw [IntKind.wrap_u64]; omega
      have y3 : (2 * r + 1 != 2 * r) = true := by rw [bne_iff_ne]; omega
      clear a0 b0 CC CD M123 hR hs e4 d2 s1 s2 s3 s4
      rcases d3 with rfl | rfl
      all_goals
        go_wp2_with fail
        refine wp_region_mo (by kernel_rfl) (by kernel_rfl) ?_
        repeat (go_big_quiet_step (first | (with_reducible exact quiet_mo (SC.out _))))
        refine wpQuiet_nil ?_
        intro _ hw'
        obtain ⟨⟨J9, d9⟩, hw''⟩ := hw'
        subst hw''
        go_wp2_with fail
        go_roundw
        case rel => exact ⟨k + 1, by omega, by go_num, hM.trans Mor.out⟩
        case measure => simp [intOf]; omega
    · obtain rfl : k = o := by omega
      clear CC CD
      have M3r := M123.trans hM
      go_wp2_with fail
      refine (works32_any _).mono ?_
      rintro e w9 ⟨rfl, M9⟩
      go_wp2_with fail
      go_ret
      exact ⟨rfl, M3r.trans M9⟩
set_option maxHeartbeats 1000000 in
theorem twice32_any (A : Option Addr) (l : List Stp) (cap : Nat) (oc : Int) (W : World) (c1 : 0 ≤ oc) (c2 : oc ≤ 255) (hR : StepRow W A l) :
    Calls Try.prog 5 #[.slice A l.length cap, .int .u8 oc] W fun e w' => e = .returned (.bool true) ∧ Mo W w' := by
  by_cases hl : l.length ≤ 100
  · exact twice32_le A l cap oc W hl c1 c2 hR
  · generalize l.length = n at *
    clear hR
    go_enter Try.func5, Try.ntmps5
    go_wp2_with fail
    refine (works32_any _).mono ?_
    rintro e w9 ⟨rfl, M9⟩
    go_wp2_with fail
    go_ret
    exact ⟨rfl, M9⟩
end Go.Proofs.Ytfojgjannhhbaaa
