/- horologelaw32.works returns true. -/
import Derived.Test.YtfojgjannhhbaaaSame32
namespace Go.Proofs.Ytfojgjannhhbaaa
open Go.RowKit

abbrev sA : Slot := ⟨true, 0, 0, 0⟩
abbrev sB : Slot := ⟨true, 1, 1, 0⟩
abbrev sC : Slot := ⟨true, 2, 4, 0⟩
abbrev sD : Slot := ⟨true, 4, 0, 0⟩
set_option maxRecDepth 20000 in
theorem pA : putM [] (clip (5 / 10)) 0 0 = ([sA], 1) := by rfl
set_option maxRecDepth 20000 in
theorem pB : putM [sA] (clip (15 / 10)) 1 0 = ([sA, sB], 1) := by rfl
set_option maxRecDepth 20000 in
theorem pC : putM [sA, sB] (clip (25 / 10)) 4 0 = ([sA, sB, sC], 1) := by rfl
set_option maxRecDepth 20000 in
theorem pL : putM [sA, sB, sC] (clip (19 / 10)) 9 0 = ([sA, sB, sC], 3) := by rfl
set_option maxRecDepth 20000 in
theorem pS : putM [sA, sB, sC] (clip (26 / 10)) 7 0 = ([sA, sB, sC], 1) := by rfl
set_option maxRecDepth 20000 in
theorem pD : putM [sA, sB, sC] (clip (45 / 10)) 0 0 = ([sA, sB, sC, sD], 1) := by rfl
set_option maxRecDepth 20000 in
theorem dev1 : devT 1 4 = 1 := by
  rw [divpos _ _ (by decide)]
  exact root_uniq (rootV_is (by decide)) ⟨by decide, by decide, by decide⟩
set_option maxRecDepth 20000 in
theorem dev5 : devT 1 64 = 5 := by
  rw [divpos _ _ (by decide)]
  exact root_uniq (rootV_is (by decide)) ⟨by decide, by decide, by decide⟩
set_option maxRecDepth 20000 in
theorem dev0 (s : Int) : devT 0 s = 0 := divzero _ _ (by decide)
set_option maxRecDepth 20000 in
theorem tausC : taus [sA, sB, sC] 2 = [⟨1, 1, 4, 1⟩, ⟨2, 0, 0, 0⟩] := by
  have e0 : sumN 0 [sA, sB, sC] 3 = (1, 4) := by rfl
  have e1 : sumN 1 [sA, sB, sC] 3 = (0, 0) := by rfl
  show [tauN [sA, sB, sC] 0, tauN [sA, sB, sC] 1] = _
  unfold tauN
  rw [show [sA, sB, sC].length = 3 from rfl, e0, e1, dev1, dev0]
  rfl
set_option maxRecDepth 20000 in
theorem tausD : ∃ t, taus [sA, sB, sC, sD] 2 = [t, ⟨2, 1, 64, 5⟩] := by
  have e1 : sumN 1 [sA, sB, sC, sD] 4 = (1, 64) := by rfl
  refine ⟨tauN [sA, sB, sC, sD] 0, ?_⟩
  show [tauN [sA, sB, sC, sD] 0, tauN [sA, sB, sC, sD] 1] = _
  have : tauN [sA, sB, sC, sD] 1 = ⟨2, 1, 64, 5⟩ := by
    unfold tauN
    rw [show [sA, sB, sC, sD].length = 4 from rfl, e1, dev5]
    rfl
  rw [this]
set_option maxRecDepth 20000 in
theorem liveD : liveM [sA, sB, sC, sD] 2 = 4 := by rfl
set_option maxRecDepth 20000 in
theorem okC : MOk [sA, sB, sC, sD] 1000 := by
  refine ⟨fun s hs => ?_, ?_, by decide⟩
  · simp only [List.mem_cons, List.not_mem_nil, or_false] at hs
    rcases hs with rfl | rfl | rfl | rfl <;> exact ⟨rfl, by decide, by decide, by decide, by decide⟩
  · unfold Rises; simp
set_option maxRecDepth 20000 in
theorem ok_take (k : Nat) : MOk ([sA, sB, sC, sD].take k) 1000 :=
  ⟨fun s hs => okC.fine s (List.mem_of_mem_take hs), List.Pairwise.sublist (List.take_sublist k _) okC.rises, Nat.le_trans (List.length_take_le' k _) okC.len⟩
/-- New, as a list of slots -/
def NewRet (x : Int) (o : Nat) (W : World) (e : Ending) (w' : World) : Prop := ∃ p r, e = .returned (.tuple #[.pointer (some ⟨p, 0, none⟩), .int .i64 0]) ∧ GAt w' p r (2 ^ o + 1) o x [] ∧ W.heap.size ≤ p ∧ W.heap.size ≤ r ∧ Mo W w'
set_option maxRecDepth 20000 in
theorem new_M (x : Int) (o : Nat) (W : World) (x1 : 1 ≤ x) (x2 : x ≤ 1152921504606846976) (o1 : 1 ≤ o) (o2 : o ≤ 10) :
    Calls Try.prog 9 #[.int .i64 x, .int .i64 o] W (NewRet x o W) := by
  refine (new_any x o W x1 x2 o1 o2).mono ?_
  rintro e w' ⟨r, p, h1, h2, h3, h4, h5, h6, h7⟩
  exact ⟨p, r, h1, ⟨⟨h2, ringAt_blk h3⟩, Ne.symm h6, o1, o2, x1, by omega⟩, h4, h5, h7⟩
set_option maxRecDepth 20000 in
theorem kept_mo {p r : Nat} {V W w : World} (h : Kept2 p r W w) (hM : Mo V W) (hp : V.heap.size ≤ p) (hr : V.heap.size ≤ r) : Mo V w := h.2 V hp hr hM
set_option maxRecDepth 20000 in
theorem tau_two {W : World} {b : Nat} {v : Value} {s t : Tau} (h : W.ownsRow b 48 5 v 2 (tauRow [s, t])) : ∃ g cap, v = .slice (some ⟨g, 0, none⟩) 2 cap ∧ g < W.heap.size ∧ ∀ j u, (tauRow [s, t])[j]? = some u → W.cell? ⟨g, j, none⟩ = some u := by
  rcases tauAt_owns (l := [s, t]) h with ⟨_, h⟩ | h
  · cases h
  · exact h

set_option maxRecDepth 20000 in
set_option maxHeartbeats 4000000 in
theorem works32_any (W : World) : Calls Try.prog 8 #[] W fun e w' => e = .returned (.bool true) ∧ Mo W w' := by
  have OF := Lib.hid (fun (n : Int) (h1 : -9223372036854775808 ≤ n) (h2 : n ≤ 9223372036854775807) w => of_any n h1 h2 w)
  go_enter Try.func8, Try.ntmps8
  go_wp2_with fail
  refine (new_M 10 2 _ (by omega) (by omega) (by omega) (by omega)).mono ?_
  rintro e w1 ⟨p, r, rfl, G1, hp, hr, M1⟩
  go_wp2_with fail
  have hbs : w1.heap.size ≠ p := by have := G1.at_.g.lt; omega
  have hbr : w1.heap.size ≠ r := by have := G1.at_.r.lt; omega
  refine wp_loop_rounds 4 ?_
  rw [rounds_succ]
  go_wp2_with fail
  refine (OF.out 5 (by omega) (by omega) _).mono ?_; rintro e v11 ⟨rfl, J11, d11, rfl⟩
  go_wp2_with fail
  refine (put_M p r _ 2 10 [] 5 0 0 _ (G1.mo Mor.out) (ok_take 0) (by unfold InW; omega)).mono ?_
  rw [pA]
  rintro e x11 ⟨rfl, G11', K11⟩
  have G11 : GAt x11 p r (2 ^ 2 + 1) 2 10 [sA] := G11'
  have N11 : Mo W x11 := kept_mo K11 (M1.trans Mor.out) hp hr
  have B11 : Blk x11 w1.heap.size 2 #[.int .i64 0, .int .i64 1, .int .i64 4] := K11.1 _ _ _ hbs hbr (by infer_instance)
  clear G1 G11' K11 M1
  go_wp2_with fail
  rw [rounds_succ]
  have c11 : x11.cell? ⟨w1.heap.size, 1, none⟩ = some (.int .i64 1) := by rw [blk_cell B11]; rfl
  go_wp2_with fail
  clear c11
  refine (OF.out 15 (by omega) (by omega) _).mono ?_; rintro e v12 ⟨rfl, J12, d12, rfl⟩
  go_wp2_with fail
  refine (put_M p r _ 2 10 [sA] 15 1 0 _ (G11.mo Mor.out) (ok_take 1) (by unfold InW; omega)).mono ?_
  rw [pB]
  rintro e x12 ⟨rfl, G12', K12⟩
  have G12 : GAt x12 p r (2 ^ 2 + 1) 2 10 [sA, sB] := G12'
  have N12 : Mo W x12 := kept_mo K12 (N11.trans Mor.out) hp hr
  have B12 : Blk x12 w1.heap.size 2 #[.int .i64 0, .int .i64 1, .int .i64 4] := K12.1 _ _ _ hbs hbr (by infer_instance)
  clear G11 G12' K12 N11 B11
  go_wp2_with fail
  rw [rounds_succ]
  have c12 : x12.cell? ⟨w1.heap.size, 2, none⟩ = some (.int .i64 4) := by rw [blk_cell B12]; rfl
  go_wp2_with fail
  clear c12
  refine (OF.out 25 (by omega) (by omega) _).mono ?_; rintro e v13 ⟨rfl, J13, d13, rfl⟩
  go_wp2_with fail
  refine (put_M p r _ 2 10 [sA, sB] 25 4 0 _ (G12.mo Mor.out) (ok_take 2) (by unfold InW; omega)).mono ?_
  rw [pC]
  rintro e x13 ⟨rfl, G13', K13⟩
  have G13 : GAt x13 p r (2 ^ 2 + 1) 2 10 [sA, sB, sC] := G13'
  have N13 : Mo W x13 := kept_mo K13 (N12.trans Mor.out) hp hr
  have B13 : Blk x13 w1.heap.size 2 #[.int .i64 0, .int .i64 1, .int .i64 4] := K13.1 _ _ _ hbs hbr (by infer_instance)
  clear G12 G13' K13 N12 B12
  go_wp2_with fail
  rw [rounds_succ]
  go_wp2_with fail
  clear B13 hbs hbr
  refine (told_M p r _ 2 10 _ _ G13 (ok_take 3)).mono ?_
  rw [tausC]
  rintro e x14 ⟨v, rfl, O14, M14⟩
  obtain ⟨g, cap, rfl, hg, hc⟩ := tau_two O14
  have N14 : Mo W x14 := N13.trans M14
  have G14 := G13.mo M14
  have q0 : x14.cell? ⟨g, 0, none⟩ = some (.int .i64 1) := hc _ _ rfl
  have q1 : x14.cell? ⟨g, 1, none⟩ = some (.int .i64 1) := hc _ _ rfl
  have q2 : x14.cell? ⟨g, 2, none⟩ = some (.int .i64 (hiW 4)) := hc _ _ rfl
  have q3 : x14.cell? ⟨g, 3, none⟩ = some (.int .u64 (loW 4)) := hc _ _ rfl
  have q4 : x14.cell? ⟨g, 4, none⟩ = some (.int .u64 1) := hc _ _ rfl
  have q5 : x14.cell? ⟨g, 5, none⟩ = some (.int .i64 2) := hc _ _ rfl
  have q6 : x14.cell? ⟨g, 6, none⟩ = some (.int .i64 0) := hc _ _ rfl
  have q7 : x14.cell? ⟨g, 7, none⟩ = some (.int .i64 0) := hc _ _ rfl
  have q8 : x14.cell? ⟨g, 8, none⟩ = some (.int .u64 0) := hc _ _ rfl
  have q9 : x14.cell? ⟨g, 9, none⟩ = some (.int .u64 0) := hc _ _ rfl
  have L14 : LtW g x14 := LtW.of_cell q0
  clear hc O14 M14 G13 N13 hg
  go_wp2_with fail
  refine wp_region_mo (by kernel_rfl) (by kernel_rfl) ?_
  repeat (go_big_quiet_step (first | (with_reducible exact quiet_mo (OF.out 4 (by decide) (by decide) _))))
  refine wpQuiet_nil ?_
  intro _ hw'
  obtain ⟨⟨J9, d9⟩, hw''⟩ := hw'
  subst hw''
  clear q0 q1 q2 q3 q4 q5 q6 q7 q8 q9 L14
  go_wp2_with fail
  refine (OF.out 19 (by omega) (by omega) _).mono ?_; rintro e v21 ⟨rfl, J21, d21, rfl⟩
  go_wp2_with fail
  refine (put_M p r _ 2 10 [sA, sB, sC] 19 9 0 _ (G14.mo Mor.out) (ok_take 3) (by unfold InW; omega)).mono ?_
  rw [pL]
  rintro e x21 ⟨rfl, G21', K21⟩
  have G21 : GAt x21 p r (2 ^ 2 + 1) 2 10 [sA, sB, sC] := G21'
  have N21 : Mo W x21 := kept_mo K21 (N14.trans Mor.out) hp hr
  clear G14 G21' K21 N14
  go_wp2_with fail
  refine (OF.out 26 (by omega) (by omega) _).mono ?_; rintro e v22 ⟨rfl, J22, d22, rfl⟩
  go_wp2_with fail
  refine (put_M p r _ 2 10 [sA, sB, sC] 26 7 0 _ (G21.mo Mor.out) (ok_take 3) (by unfold InW; omega)).mono ?_
  rw [pS]
  rintro e x22 ⟨rfl, G22', K22⟩
  have G22 : GAt x22 p r (2 ^ 2 + 1) 2 10 [sA, sB, sC] := G22'
  have N22 : Mo W x22 := kept_mo K22 (N21.trans Mor.out) hp hr
  clear G21 G22' K22 N21
  go_wp2_with fail
  refine (OF.out 45 (by omega) (by omega) _).mono ?_; rintro e v23 ⟨rfl, J23, d23, rfl⟩
  go_wp2_with fail
  refine (put_M p r _ 2 10 [sA, sB, sC] 45 0 0 _ (G22.mo Mor.out) (ok_take 3) (by unfold InW; omega)).mono ?_
  rw [pD]
  rintro e x23 ⟨rfl, G23', K23⟩
  have G23 : GAt x23 p r (2 ^ 2 + 1) 2 10 [sA, sB, sC, sD] := G23'
  have N23 : Mo W x23 := kept_mo K23 (N22.trans Mor.out) hp hr
  clear G22 G23' K23 N22
  go_wp2_with fail
  refine (told_M p r _ 2 10 _ _ G23 okC).mono ?_
  obtain ⟨tt, ht⟩ := tausD
  rw [ht]
  rintro e x24 ⟨v, rfl, O24, M24⟩
  obtain ⟨g2, cap2, rfl, hg, hc⟩ := tau_two O24
  have N24 : Mo W x24 := N23.trans M24
  have G24 := G23.mo M24
  have LV := Lib.hid (fun (w : World) (h : GAt w p r (2 ^ 2 + 1) 2 10 [sA, sB, sC, sD]) => live_M p r _ 2 10 _ w h okC)
  rw [liveD] at LV
  have q5 : x24.cell? ⟨g2, 5, none⟩ = some (.int .i64 2) := hc _ _ rfl
  have q6 : x24.cell? ⟨g2, 6, none⟩ = some (.int .i64 1) := hc _ _ rfl
  have q7 : x24.cell? ⟨g2, 7, none⟩ = some (.int .i64 (hiW 64)) := hc _ _ rfl
  have q8 : x24.cell? ⟨g2, 8, none⟩ = some (.int .u64 (loW 64)) := hc _ _ rfl
  have q9 : x24.cell? ⟨g2, 9, none⟩ = some (.int .u64 5) := hc _ _ rfl
  have L24 : LtW g2 x24 := LtW.of_cell q5
  clear hc O24 M24 G23 N23 hg ht
  go_wp2_with fail
  refine wp_region_mo (by kernel_rfl) (by kernel_rfl) ?_
  repeat (go_big_quiet_step (first | (with_reducible exact quiet_mo (OF.out 64 (by decide) (by decide) _)) | (with_reducible exact quiet_mo (LV.out _ (G24.mo Mor.out)))))
  refine wpQuiet_nil ?_
  intro _ hw'
  obtain ⟨⟨J9, d9⟩, hw''⟩ := hw'
  subst hw''
  go_wp2_with fail
  go_ret
  exact ⟨rfl, N24.trans Mor.out⟩
end Go.Proofs.Ytfojgjannhhbaaa
