/- horologelaw32.AllanKnown returns true: the walk. -/
import Derived.Test.YtfojgjannhhbaaaWorks32
namespace Go.Proofs.Ytfojgjannhhbaaa
open Go.RowKit

abbrev kA : Slot := ⟨true, 0, 50, 9⟩
abbrev kB : Slot := ⟨true, 0, 60, 8⟩
abbrev kC : Slot := ⟨true, 1, 0, 0⟩
abbrev kD : Slot := ⟨true, 2, 0, 0⟩
theorem q1 : putM [] (clip (0 / 1)) 140737488355329 0 = ([], 2) := by rfl
theorem q2 : putM [] (clip (0 / 1)) 50 9 = ([kA], 1) := by rfl
theorem q3 : putM [kA] (clip (0 / 1)) 60 8 = ([kB], 1) := by rfl
theorem q4 : putM [kB] (clip (0 / 1)) 70 8 = ([kB], 1) := by rfl
theorem q5 : putM [kB] (clip (1 / 1)) 0 0 = ([kB, kC], 1) := by rfl
theorem q6 : putM [kB, kC] (clip (2 / 1)) 0 0 = ([kB, kC, kD], 1) := by rfl
theorem okA : MOk [kA] 1000 := by
  refine ⟨fun s hs => ?_, ?_, by decide⟩
  · simp only [List.mem_cons, List.not_mem_nil, or_false] at hs
    rcases hs with rfl; exact ⟨rfl, by decide, by decide, by decide, by decide⟩
  · unfold Rises; simp
theorem okD : MOk [kB, kC, kD] 1000 := by
  refine ⟨fun s hs => ?_, ?_, by decide⟩
  · simp only [List.mem_cons, List.not_mem_nil, or_false] at hs
    rcases hs with rfl | rfl | rfl <;> exact ⟨rfl, by decide, by decide, by decide, by decide⟩
  · unfold Rises; simp
theorem okD_take (k : Nat) : MOk ([kB, kC, kD].take k) 1000 :=
  ⟨fun s hs => okD.fine s (List.mem_of_mem_take hs), List.Pairwise.sublist (List.take_sublist k _) okD.rises, Nat.le_trans (List.length_take_le' k _) okD.len⟩
theorem liveE : liveM [kB, kC, kD] 10 = 3 := by rfl
theorem sumE : tauN [kB, kC, kD] 0 = ⟨1, 1, 3600, devT 1 3600⟩ := by rfl
theorem put_gnil (off del : Int) (W : World) : Calls Try.prog 10 #[.pointer none, .agg #[.int .i64 0, .int .u64 0], .int .i64 off, .int .i64 del] W fun e w' => e = .returned (.int .u8 0) ∧ Mo W w' := by
  go_enter Try.func10, Try.ntmps10
  go_wp2_with fail
  go_ret
  exact ⟨rfl, Mor.out⟩
theorem put_gzero (p : Nat) (off del : Int) (W : World) (h : W.cell? ⟨p, 2, none⟩ = some (.slice none 0 0)) : Calls Try.prog 10 #[.pointer (some ⟨p, 0, none⟩), .agg #[.int .i64 0, .int .u64 0], .int .i64 off, .int .i64 del] W fun e w' => e = .returned (.int .u8 0) ∧ Mo W w' := by
  have LP : LtW p W := LtW.of_cell h
  go_enter Try.func10, Try.ntmps10
  go_wp2_with fail
  go_ret
  exact ⟨rfl, Mor.out⟩
set_option maxRecDepth 20000 in
set_option maxHeartbeats 4000000 in
theorem known32_any (W : World) : Calls Try.prog 6 #[] W fun e w' => e = .returned (.bool true) ∧ Mo W w' := by
  have OF := Lib.hid (fun (n : Int) (h1 : -9223372036854775808 ≤ n) (h2 : n ≤ 9223372036854775807) w => of_any n h1 h2 w)
  go_enter Try.func6, Try.ntmps6
  go_wp2_with fail
  refine (new_M 1 10 _ (by omega) (by omega) (by omega) (by omega)).mono ?_
  rintro e w1 ⟨p, r, rfl, G1, hp, hr, M1⟩
  go_wp2_with fail
  refine (new_bad 0 1 _ (by omega)).mono ?_; rintro e w2 ⟨rfl, J1, d1, rfl⟩
  go_wp2_with fail
  refine (new_bad 1152921504606846977 1 _ (by omega)).mono ?_; rintro e w2 ⟨rfl, J2, d2, rfl⟩
  go_wp2_with fail
  refine (new_bad 1 0 _ (by omega)).mono ?_; rintro e w2 ⟨rfl, J3, d3, rfl⟩
  go_wp2_with fail
  refine (new_bad 1 11 _ (by omega)).mono ?_; rintro e w2 ⟨rfl, J4, d4, rfl⟩
  go_wp2_with fail
  refine (put_M p r _ 10 1 [] 0 140737488355329 0 _ (G1.mo Mor.out) (mok_nil _) (by unfold InW; omega)).mono ?_
  rw [q1]
  rintro e x11 ⟨rfl, G11', K11⟩
  have G11 : GAt x11 p r (2 ^ 10 + 1) 10 1 [] := G11'
  have N11 : Mo W x11 := kept_mo K11 (M1.trans Mor.out) hp hr
  clear G1 G11' K11 M1
  go_wp2_with fail
  refine (put_M p r _ 10 1 [] 0 50 9 _ (G11.mo Mor.out) (mok_nil _) (by unfold InW; omega)).mono ?_
  rw [q2]
  rintro e x12 ⟨rfl, G12', K12⟩
  have G12 : GAt x12 p r (2 ^ 10 + 1) 10 1 [kA] := G12'
  have N12 : Mo W x12 := kept_mo K12 (N11.trans Mor.out) hp hr
  clear G11 G12' K12 N11
  go_wp2_with fail
  refine (put_M p r _ 10 1 [kA] 0 60 8 _ (G12.mo Mor.out) (okA) (by unfold InW; omega)).mono ?_
  rw [q3]
  rintro e x13 ⟨rfl, G13', K13⟩
  have G13 : GAt x13 p r (2 ^ 10 + 1) 10 1 [kB] := G13'
  have N13 : Mo W x13 := kept_mo K13 (N12.trans Mor.out) hp hr
  clear G12 G13' K13 N12
  go_wp2_with fail
  refine (put_M p r _ 10 1 [kB] 0 70 8 _ (G13.mo Mor.out) (okD_take 1) (by unfold InW; omega)).mono ?_
  rw [q4]
  rintro e x14 ⟨rfl, G14', K14⟩
  have G14 : GAt x14 p r (2 ^ 10 + 1) 10 1 [kB] := G14'
  have N14 : Mo W x14 := kept_mo K14 (N13.trans Mor.out) hp hr
  clear G13 G14' K14 N13
  go_wp2_with fail
  refine (OF.out 1 (by omega) (by omega) _).mono ?_; rintro e v15 ⟨rfl, J15, d15, rfl⟩
  go_wp2_with fail
  refine (put_M p r _ 10 1 [kB] 1 0 0 _ (G14.mo Mor.out) (okD_take 1) (by unfold InW; omega)).mono ?_
  rw [q5]
  rintro e x15 ⟨rfl, G15', K15⟩
  have G15 : GAt x15 p r (2 ^ 10 + 1) 10 1 [kB, kC] := G15'
  have N15 : Mo W x15 := kept_mo K15 (N14.trans Mor.out) hp hr
  clear G14 G15' K15 N14
  go_wp2_with fail
  refine (OF.out 2 (by omega) (by omega) _).mono ?_; rintro e v16 ⟨rfl, J16, d16, rfl⟩
  go_wp2_with fail
  refine (put_M p r _ 10 1 [kB, kC] 2 0 0 _ (G15.mo Mor.out) (okD_take 2) (by unfold InW; omega)).mono ?_
  rw [q6]
  rintro e x16 ⟨rfl, G16', K16⟩
  have G16 : GAt x16 p r (2 ^ 10 + 1) 10 1 [kB, kC, kD] := G16'
  have N16 : Mo W x16 := kept_mo K16 (N15.trans Mor.out) hp hr
  clear G15 G16' K16 N15
  go_wp2_with fail
  refine (told_M p r _ 10 1 _ _ G16 okD).mono ?_
  rintro e x17 ⟨v, rfl, O17, M17⟩
  have T17 := tauAt_owns O17
  rw [taus_len] at O17
  have hx : ∃ g cap, v = .slice (some ⟨g, 0, none⟩) 10 cap ∧ g < x17.heap.size ∧ ∀ j u, (tauRow (taus [kB, kC, kD] 10))[j]? = some u → x17.cell? ⟨g, j, none⟩ = some u := by
    rcases T17 with ⟨_, h⟩ | ⟨g, cap, h1, h2, h3⟩
    · have := congrArg List.length h; rw [taus_len] at this; cases this
    · rw [taus_len] at h1; exact ⟨g, cap, h1, h2, h3⟩
  obtain ⟨g, cap, rfl, hg, hc⟩ := hx
  have N17 : Mo W x17 := N16.trans M17
  have G17 := G16.mo M17
  have h0 := tauRow_get (taus [kB, kC, kD] 10) 0 (by rw [taus_len]; omega)
  have h9 := tauRow_get (taus [kB, kC, kD] 10) 9 (by rw [taus_len]; omega)
  have e0 : (taus [kB, kC, kD] 10)[0]'(by rw [taus_len]; omega) = tauN [kB, kC, kD] 0 := by simp [taus]
  have e9 : ((taus [kB, kC, kD] 10)[9]'(by rw [taus_len]; omega)).slots = 512 := by simp [taus, tauN]
  rw [e0, sumE] at h0
  have c2 : x17.cell? ⟨g, 2, none⟩ = some (.int .i64 (hiW 3600)) := hc _ _ (h0 2 (by omega))
  have c3 : x17.cell? ⟨g, 3, none⟩ = some (.int .u64 (loW 3600)) := hc _ _ (h0 3 (by omega))
  have c45 : x17.cell? ⟨g, 45, none⟩ = some (.int .i64 512) := by rw [hc _ _ (h9 0 (by omega)), ← e9]
  have LV := Lib.hid (fun (w : World) (h : GAt w p r (2 ^ 10 + 1) 10 1 [kB, kC, kD]) => live_M p r _ 10 1 _ w h okD)
  rw [liveE] at LV
  have L17 : LtW g x17 := ⟨hg⟩
  clear hc O17 M17 G16 N16 h0 h9 e0 e9 T17
  go_wp2_with fail
  simp only [List.append]
  go_region_held3 (fun w' => w'.cell? ⟨g, 2, none⟩ = some (.int .i64 (hiW 3600)) ∧ w'.cell? ⟨g, 3, none⟩ = some (.int .u64 (loW 3600)) ∧ w'.cell? ⟨g, 45, none⟩ = some (.int .i64 512)) (simp [go_sem, c2, c3, c45])
    (first
    | ((with_reducible refine (OF.out 3600 (by decide) (by decide) _).mono ?_); rintro e v2 ⟨rfl, J20, d20, rfl⟩)
    | ((with_reducible refine (LV.out _ (G17.mo Mor.out)).mono ?_); rintro e v2 ⟨rfl, J21, d21, rfl⟩)
    | ((with_reducible refine (put_gnil 0 0 _).mono ?_); rintro e v2 ⟨rfl, J22, d22, rfl⟩)
    | ((with_reducible refine (told_gnil _).mono ?_); rintro e v2 ⟨rfl, J23, d23, rfl⟩)
    | ((with_reducible refine (live_nil _).mono ?_); rintro e v2 ⟨rfl, J24, d24, rfl⟩)
    | ((with_reducible refine (copy_nil _).mono ?_); rintro e v2 ⟨rfl, J25, d25, rfl⟩)
    | ((with_reducible refine (put_gzero _ 0 0 _ (by simp [go_sem])).mono ?_); rintro e v2 ⟨rfl, J26, d26, rfl⟩)
    | ((with_reducible refine (works32_any _).mono ?_); rintro e v2 ⟨rfl, J27, d27, rfl⟩))
  all_goals
    go_wp2_with fail
    go_ret
    exact ⟨rfl, N17.trans Mor.out⟩
end Go.Proofs.Ytfojgjannhhbaaa
