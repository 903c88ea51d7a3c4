/- horologelaw32.AllanStraight returns true. -/
import Derived.Test.YtfojgjannhhbaaaLaid32
namespace Go.Proofs.Ytfojgjannhhbaaa
open Go.RowKit

structure TauP (W : World) (g k : Nat) (x : Tau) : Prop where
  a0 : W.cell? ⟨g, k * 5, none⟩ = some (.int .i64 x.slots)
  a1 : W.cell? ⟨g, k * 5 + 1, none⟩ = some (.int .i64 x.count)
  a2 : W.cell? ⟨g, k * 5 + 2, none⟩ = some (.int .i64 (hiW x.sum))
  a3 : W.cell? ⟨g, k * 5 + 3, none⟩ = some (.int .u64 (loW x.sum))
  a4 : W.cell? ⟨g, k * 5 + 4, none⟩ = some (.int .u64 x.dev)
theorem taus_get (M : List Slot) (o k : Nat) (hk : k < o) : (taus M o)[k]'(by rw [taus_len]; exact hk) = tauN M k := by unfold taus; simp
/-- lines as a slice, each read -/
theorem tau_slice {W : World} {v : Value} {M : List Slot} {o : Nat} (o1 : 1 ≤ o) (h : TauAt W v (taus M o)) : ∃ g cap, v = .slice (some ⟨g, 0, none⟩) o cap ∧ g < W.heap.size ∧ ∀ k, k < o → TauP W g k (tauN M k) := by
  rcases h with ⟨_, h⟩ | ⟨g, cap, rfl, hg, hc⟩
  · have := taus_len M o; rw [h] at this; simp at this; omega
  · refine ⟨g, cap, by rw [taus_len], hg, fun k hk => ?_⟩
    have hk' : k < (taus M o).length := by rw [taus_len]; exact hk
    have t := fun j hj => tauRow_get (taus M o) k hk' j hj
    rw [taus_get M o k hk] at t
    have a0 := hc _ _ (t 0 (by omega))
    have a1 := hc _ _ (t 1 (by omega))
    have a2 := hc _ _ (t 2 (by omega))
    have a3 := hc _ _ (t 3 (by omega))
    have a4 := hc _ _ (t 4 (by omega))
    exact ⟨a0, a1, a2, a3, a4⟩
theorem TauP.mo {W w : World} {g k : Nat} {x : Tau} (h : TauP W g k x) (m : Mo W w) : TauP w g k x := by
  have : LtW g W := LtW.of_cell h.a0
  obtain ⟨a0, a1, a2, a3, a4⟩ := h
  exact ⟨by rw [m.cell, a0], by rw [m.cell, a1], by rw [m.cell, a2], by rw [m.cell, a3], by rw [m.cell, a4]⟩
theorem tauN_map (f t up each : Int) (M : List Slot) (k : Nat) : tauN (M.map (phi f t up each)) k = ⟨2 ^ k, (sumN k M M.length).1, t * t * (sumN k M M.length).2, devT (sumN k M M.length).1 (t * t * (sumN k M M.length).2)⟩ := by
  unfold tauN
  rw [List.length_map, sumN_map f t up each k M M.length (Nat.le_refl _)]
theorem taus_one (f up each : Int) (M : List Slot) (o : Nat) : taus (M.map (phi f 1 up each)) o = taus M o := by
  unfold taus
  refine List.map_congr_left fun k _ => ?_
  rw [tauN_map]
  unfold tauN
  simp only [Int.one_mul]
theorem dev_none (c : Int) : devT c 0 = 0 := by
  unfold devT
  split
  · rw [Int.zero_ediv]
    exact root_uniq (rootV_is (by decide)) ⟨by decide, by decide, by decide⟩
  · rfl
theorem tauN_zero (f up each : Int) (M : List Slot) (k : Nat) : tauN (M.map (phi f 0 up each)) k = ⟨2 ^ k, (sumN k M M.length).1, 0, 0⟩ := by
  rw [tauN_map]
  simp only [Int.zero_mul]
  rw [dev_none]
theorem pow_wrap {k o : Nat} (hk : k < o) (ho : o ≤ 10) : IntKind.i64.wrap (2 ^ k) = 2 ^ k := by
  have h1 : (2 : Nat) ^ k ≤ 2 ^ 10 := Nat.pow_le_pow_right (by decide) (by omega)
  have h2 : (((2 : Nat) ^ k : Nat) : Int) = ((2 : Int) ^ k) := by simp
  have h3 := two_pow_pos k
  rw [IntKind.wrap_i64]
  omega

set_option maxRecDepth 20000 in
set_option maxHeartbeats 4000000 in
theorem straight32_le (A : Option Addr) (l : List Stp) (cap : Nat) (oc f up each : Int) (W : World) (hl : l.length ≤ 100) (c1 : 0 ≤ oc) (c2 : oc ≤ 255) (f1 : -2147483648 ≤ f) (f2 : f ≤ 2147483647) (u1 : -2147483648 ≤ up) (u2 : up ≤ 2147483647) (e1 : -32768 ≤ each) (e2 : each ≤ 32767) (hR : StepRow W A l) :
    Calls Try.prog 4 #[.slice A l.length cap, .int .u8 oc, .int .i32 f, .int .i32 up, .int .i16 each] W fun e w' => e = .returned (.bool true) ∧ Mo W w' := by
  obtain ⟨o, ho⟩ : ∃ o : Nat, (1 + oc % 10 : Int) = o := ⟨(1 + oc % 10).toNat, by omega⟩
  have o1 : 1 ≤ o := by omega
  have o2 : o ≤ 10 := by omega
  have hb := laid_ok 0 1 0 0 (by omega) (by omega) l hR.1 (by omega)
  have L0 := Lib.hid (fun w (h : StepRow w A l) => laid_any A l cap o 0 1 0 0 w hl o1 o2 (by omega) (by omega) (.inr (.inl rfl)) (by omega) (by omega) (by omega) (by omega) h)
  have L1 := Lib.hid (fun w (h : StepRow w A l) => laid_any A l cap o f 1 up each w hl o1 o2 f1 f2 (.inr (.inl rfl)) u1 u2 e1 e2 h)
  have L2 := Lib.hid (fun w (h : StepRow w A l) => laid_any A l cap o f 0 up each w hl o1 o2 f1 f2 (.inl rfl) u1 u2 e1 e2 h)
  rw [laid_map f 1 up each (.inr (.inl rfl)) u1 u2 e1 e2 l hR.1 (by omega)] at L1
  rw [laid_map f 0 up each (.inl rfl) u1 u2 e1 e2 l hR.1 (by omega)] at L2
  have hb1 := hb.1
  have hb2 := (laid_ok f 1 up each f1 f2 l hR.1 (by omega)).1
  rw [laid_map f 1 up each (.inr (.inl rfl)) u1 u2 e1 e2 l hR.1 (by omega)] at hb2
  simp only at L1 L2 hb2
  clear hb
  generalize (laidF 0 1 0 0 l).2 = M at *
  have ok1 : MOk M 1000 := ⟨hb1.fine, hb1.rises, by have := hb1.len; omega⟩
  have ok2 : MOk (M.map (phi f 1 up each)) 1000 := ⟨hb2.fine, hb2.rises, by have := hb2.len; omega⟩
  clear hb1 hb2
  obtain ⟨n, hn⟩ : ∃ n, l.length = n := ⟨_, rfl⟩
  rw [hn] at hl L0 L1 L2 ⊢
  clear hn
  go_enter Try.func4, Try.ntmps4
  go_wp2_with fail
  refine (L0.out _ hR).mono ?_
  rintro e w1 ⟨v1, p1, r1, rfl, T1, G1, hp1, hr1, M1⟩
  go_wp2_with fail
  refine (L1.out _ (hR.mo M1)).mono ?_
  rintro e w2 ⟨v2, p2, r2, rfl, T2, G2, hp2, hr2, M2⟩
  go_wp2_with fail
  refine (L2.out _ ((hR.mo M1).mo M2)).mono ?_
  rintro e w3 ⟨v3, p3, r3, rfl, T3, G3, hp3, hr3, M3⟩
  rw [taus_one] at T2
  have Q1 := ((T1.mo M2).mo M3)
  have Q2 := T2.mo M3
  have SA := Lib.hid (fun w (h1 : TauAt w v1 (taus M o)) (h2 : TauAt w v2 (taus M o)) => same_any v1 v2 _ w h1 h2 (by rw [taus_len]; omega))
  obtain ⟨g1, k1, rfl, hg1, C1⟩ := tau_slice o1 T1
  obtain ⟨g2, k2, rfl, hg2, -⟩ := tau_slice o1 T2
  obtain ⟨g3, k3, rfl, hg3, C3⟩ := tau_slice o1 T3
  have L1 := Lib.hid (fun w (h : GAt w p1 r1 (2 ^ o + 1) o 256 M) => live_M p1 r1 _ o 256 M w h ok1)
  have L2 := Lib.hid (fun w (h : GAt w p2 r2 (2 ^ o + 1) o 256 (M.map (phi f 1 up each))) => live_M p2 r2 _ o 256 _ w h ok2)
  rw [live_map] at L2
  have G1' := (G1.mo M2).mo M3
  have G2' := G2.mo M3
  have M123 := (M1.trans M2).trans M3
  have CC := Lib.hid (fun k (hk : k < o) => (((C1 k hk).mo M2).mo M3))
  have CD := Lib.hid (fun k (hk : k < o) => C3 k hk)
  clear L0 T1 T2 T3 G1 G2 G3 M1 M2 M3 C1 C3 hp1 hp2 hp3 hr1 hr2 hr3
  generalize liveM M o = lv at *
  go_wp2_with fail
  refine (SA.out _ Q1 Q2).mono ?_; rintro e w4 ⟨rfl, M4⟩
  go_wp2_with fail
  refine (L1.out _ (G1'.mo M4)).mono ?_; rintro e w5 ⟨rfl, M5⟩
  go_wp2_with fail
  refine (L2.out _ ((G2'.mo M4).mo M5)).mono ?_; rintro e w6 ⟨rfl, M6⟩
  have M36 := (M4.trans M5).trans M6
  clear L1 L2 SA Q1 Q2 G1' G2' M4 M5 M6 ok1 ok2
  go_wp2_with fail
  go_loopw [94] (fun i wr => ∃ k : Nat, k ≤ o ∧ i = .int .i64 k ∧ Mo w3 wr) (fun i _ => o - (intOf i).toNat)
  case atStart => exact ⟨0, by omega, rfl, M36⟩
  case round =>
    obtain ⟨k, hk, rfl, hM⟩ := hrel
    clear M36
    by_cases ck : k < o
    · obtain ⟨a0, a1, a2, a3, a4⟩ := (CC.out k ck).mo hM
      obtain ⟨b0, b1, b2, b3, b4⟩ := (CD.out k ck).mo hM
      rw [tauN_zero] at b0 b1 b2 b3 b4
      unfold tauN at a1
      simp only at a1 b0 b1 b2 b3 b4
      rw [show hiW 0 = 0 by decide] at b2
      rw [show loW 0 = 0 by decide] at b3
      have y1 := pow_wrap ck o2
      have i1 : (k : Int) < o := by omega
      have i0 : (0 : Int) ≤ k := by omega
      have Lg1 : LtW g1 wr := LtW.of_cell a1
      have Lg3 : LtW g3 wr := LtW.of_cell b1
      generalize (sumN k M M.length).1 = c at *
      clear a0 a2 a3 a4 CC CD M123 hR
      go_wp2_with fail
      refine wp_region_mo (by kernel_rfl) (by kernel_rfl) ?_
      repeat (go_big_quiet_step (fail))
      refine wpQuiet_nil ?_
      intro _ hw'
      obtain ⟨⟨J9, d9⟩, hw''⟩ := hw'
      subst hw''
      go_wp2_with fail
      go_roundw
      case rel => exact ⟨k + 1, by omega, by go_num, hM.trans Mor.out⟩
      case measure => simp [intOf]; omega
    · obtain rfl : k = o := by omega
      clear CC CD
      have M3r := M123.trans hM
      go_wp2_with fail
      refine (works32_any _).mono ?_
      rintro e w9 ⟨rfl, M9⟩
      go_wp2_with fail
      go_ret
      exact ⟨rfl, M3r.trans M9⟩
set_option maxHeartbeats 1000000 in
theorem straight32_any (A : Option Addr) (l : List Stp) (cap : Nat) (oc f up each : Int) (W : World) (c1 : 0 ≤ oc) (c2 : oc ≤ 255) (f1 : -2147483648 ≤ f) (f2 : f ≤ 2147483647) (u1 : -2147483648 ≤ up) (u2 : up ≤ 2147483647) (e1 : -32768 ≤ each) (e2 : each ≤ 32767) (hR : StepRow W A l) :
    Calls Try.prog 4 #[.slice A l.length cap, .int .u8 oc, .int .i32 f, .int .i32 up, .int .i16 each] W fun e w' => e = .returned (.bool true) ∧ Mo W w' := by
  by_cases hl : l.length ≤ 100
  · exact straight32_le A l cap oc f up each W hl c1 c2 f1 f2 u1 u2 e1 e2 hR
  · generalize l.length = n at *
    clear hR
    go_enter Try.func4, Try.ntmps4
    go_wp2_with fail
    refine (works32_any _).mono ?_
    rintro e w9 ⟨rfl, M9⟩
    go_wp2_with fail
    go_ret
    exact ⟨rfl, M9⟩
end Go.Proofs.Ytfojgjannhhbaaa
