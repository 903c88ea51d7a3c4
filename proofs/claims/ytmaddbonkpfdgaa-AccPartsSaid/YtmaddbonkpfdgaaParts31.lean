/- horologelaw31.AccParts returns true: the walk. -/
import Derived.Test.YtmaddbonkpfdgaaParts31P
import Derived.Test.YtmaddbonkpfdgaaAccJ
import Derived.Test.YtmaddbonkpfdgaaAcc3
import Derived.BigRegion
import Derived.Maps.AppendAt
namespace Go.Proofs.Ytmaddbonkpfdgaa
open Go.RowKit

/-- a slice of numbers, as it is read -/
def RowOf (W : World) (A : Option Addr) (r : List Int) : Prop := r = [] ∨ ∃ g off, A = some ⟨g, off, none⟩ ∧ ∀ j, j < r.length → W.cell? ⟨g, off + j, none⟩ = some (.int .i64 (r.getD j 0))
theorem of_reads (A : Option Addr) (r : List Int) (c : Nat) (W : World) (hr : r.length ≤ 2147483648) (hR : RowOf W A r) : ∀ W', Mo W W' → Calls Try.prog 9 #[.slice A r.length c] W' (OfRet r W') := by
  intro W' hM
  by_cases z : r = []
  · subst z; exact of_empty A c W'
  · obtain ⟨g, off, rfl, hc⟩ := hR.resolve_left z
    have hp : 0 < r.length := List.length_pos_iff.2 z
    exact of_some r g off c W' hr (fun j hj => by
      have h1 := hc j hj
      have : LtW g W := LtW.of_cell h1
      rw [hM.cell, h1]) hp
theorem RowOf.take {W : World} {A : Option Addr} {r : List Int} (h : RowOf W A r) (k : Nat) : RowOf W A (r.take k) := by
  rcases h with rfl | ⟨g, off, rfl, hc⟩
  · exact .inl (by simp)
  · refine .inr ⟨g, off, rfl, fun j hj => ?_⟩
    rw [List.length_take] at hj
    rw [hc j (by omega)]
    simp [List.getD, List.getElem?_take_of_lt (show j < k by omega)]
theorem RowOf.drop {W : World} {A : Option Addr} {r : List Int} (h : RowOf W A r) (k : Nat) : RowOf W (A.map (·.add k)) (r.drop k) := by
  rcases h with rfl | ⟨g, off, rfl, hc⟩
  · exact .inl (by simp)
  · refine .inr ⟨g, off + k, by simp [Addr.add], fun j hj => ?_⟩
    rw [List.length_drop] at hj
    rw [Nat.add_assoc, hc (k + j) (by omega)]
    simp [List.getD]
theorem RowOf.mo {W W' : World} {A : Option Addr} {r : List Int} (h : RowOf W A r) (hM : Mo W W') : RowOf W' A r := by
  rcases h with rfl | ⟨g, off, rfl, hc⟩
  · exact .inl rfl
  · refine .inr ⟨g, off, rfl, fun j hj => ?_⟩
    have h1 := hc j hj
    have : LtW g W := LtW.of_cell h1
    rw [hM.cell, h1]
theorem RowOf.drop_if {W : World} {A : Option Addr} {r : List Int} (h : RowOf W A r) (k cap : Nat) (hk : k ≤ r.length) (hc : r.length ≤ cap) : RowOf W (if cap = k then A else A.map (·.add (k * 1))) (r.drop k) := by
  by_cases e : cap = k
  · rw [if_pos e]
    exact .inl (List.drop_eq_nil_of_le (by omega))
  · rw [if_neg e, Nat.mul_one]; exact h.drop k
theorem add3_c (S : St) : (addN S 3).c ≠ S.c := by
  unfold addN
  rw [if_pos (show Tame 3 by decide)]
  unfold joinS single
  by_cases c : S.c = 0
  · rw [if_pos c]; simp; omega
  · rw [if_neg c]; simp; omega
theorem infoI : (Try.prog.info? 2).map (fun i => (i.zero, i.size, i.bytes)) = some (some (.int .i64 0), 1, 8) := by kernel_rfl
def RInv (W : World) (l : List Int) (g cp p7 n : Nat) (wr : World) : Prop :=
  ∃ (cur : Array Value) (zs : List Int), Blk wr g 2 cur ∧ cur.size = cp ∧ cur.toList.take n = zs.map (Value.int .i64) ∧ zs.length = n ∧ zs.Perm l ∧ Blk wr p7 39 (accC true (sumL l)) ∧ Mo W wr
theorem cur_get {cur : Array Value} {zs : List Int} {n : Nat} (h : cur.toList.take n = zs.map (Value.int .i64)) (hz : zs.length = n) (i : Nat) (hi : i < n) : cur[i]? = some (.int .i64 (zs.getD i 0)) := by
  have h1 : (cur.toList.take n)[i]? = (zs.map (Value.int .i64))[i]? := by rw [h]
  have hi' : i < zs.length := by omega
  rw [List.getElem?_take_of_lt hi, List.getElem?_map, List.getElem?_eq_getElem hi', Array.getElem?_toList, Option.map_some] at h1
  rw [h1]
  simp [List.getD, List.getElem?_eq_getElem hi']
theorem cur_set {cur : Array Value} {zs : List Int} {n : Nat} (h : cur.toList.take n = zs.map (Value.int .i64)) (i : Nat) (x : Int) : (cur.setIfInBounds i (.int .i64 x)).toList.take n = (zs.set i x).map (Value.int .i64) := by
  rw [Array.toList_setIfInBounds, List.take_set, h, List.map_set]
theorem RInv.swap {W wr : World} {l : List Int} {g cp p7 n i j : Nat} {cur : Array Value} {zs : List Int} (hB : Blk wr g 2 cur) (h1 : cur.size = cp) (h2 : cur.toList.take n = zs.map (Value.int .i64)) (h3 : zs.length = n) (h4 : zs.Perm l)
    (h5 : Blk wr p7 39 (accC true (sumL l))) (h6 : Mo W wr) (hg : W.heap.size ≤ g) (hp : g ≠ p7) (hi : i < n) (hj : j < n) :
    RInv W l g cp p7 n ((wr.setCell ⟨g, i, none⟩ (.int .i64 (zs.getD j 0))).setCell ⟨g, j, none⟩ (.int .i64 (zs.getD i 0))) :=
  ⟨_, (zs.set i (zs.getD j 0)).set j (zs.getD i 0), blk_setCell (blk_setCell hB i _) j _, by simp [h1], cur_set (cur_set h2 i _) j _, by simp [h3], (swap_perm zs i j (by omega) (by omega)).trans h4, blk_setCell_ne (blk_setCell_ne h5 hp _ _) hp _ _, mo_setCell (mo_setCell h6 hg _ _) hg _ _⟩
theorem RInv.drewN {W wr : World} {l : List Int} {g cp p7 n : Nat} (h : RInv W l g cp p7 n wr) (d : Nat) : RInv W l g cp p7 n (wr.drewN d) := by
  obtain ⟨cur, zs, h1, h2, h3, h4, h5, h6, h7⟩ := h
  exact ⟨cur, zs, inferInstance, h2, h3, h4, h5, inferInstance, mo_drewN h7 d⟩
theorem tv_letters (S : St) : ∃ c w lo hi me sp : Int, TV S = .agg #[.int .i64 c, .int .i64 w, .int .i64 lo, .int .i64 hi, .int .i64 me, .int .u64 sp] := ⟨_, _, _, _, _, _, rfl⟩
set_option maxRecDepth 20000 in
set_option maxHeartbeats 4000000 in
theorem parts_any (A : Option Addr) (l : List Int) (cap : Nat) (at_ turn : Int) (W : World) (hl : l.length ≤ 200) (hcap : l.length ≤ cap) (a1 : 0 ≤ at_) (a2 : at_ ≤ 255) (t1 : 0 ≤ turn) (t2 : turn ≤ 255) (hR : RowOf W A l) :
    Calls Try.prog 7 #[.slice A l.length cap, .int .u8 at_, .int .u8 turn] W fun e w' => e = .returned (.bool true) ∧ Mo W w' := by
  have HR := Lib.hid hR
  obtain ⟨n, hn⟩ : ∃ n, l.length = n := ⟨_, rfl⟩
  have HOf := Lib.hid (of_reads A l cap W (by omega) hR)
  clear hR
  rw [hn] at hl HOf hcap ⊢
  obtain ⟨k, hk⟩ : ∃ k : Nat, min at_ (n : Int) = k := ⟨(min at_ (n : Int)).toNat, by omega⟩
  have hkn : k ≤ n := by omega
  have HN := Lib.hid hn
  clear hn
  have q1 : decide ((200 : Int) < ↑n) = false := by simp; omega
  go_enter Try.func7, Try.ntmps7
  go_wp2_with fail
  refine (HOf.out _ (Mo.refl _)).mono ?_
  rintro e w3 ⟨p7, rfl, hp7, B7, M3⟩
  have O1 := Lib.hid (of_reads A (l.take k) cap w3 (by rw [List.length_take]; omega) ((HR.out.mo M3).take k))
  have O2 := Lib.hid (of_reads _ (l.drop k) (cap - k) w3 (by rw [List.length_drop, HN.out]; omega) ((HR.out.mo M3).drop_if k cap (by rw [HN.out]; omega) (by rw [HN.out]; omega)))
  rw [List.length_take, HN.out, Nat.min_eq_left hkn] at O1
  rw [List.length_drop, HN.out] at O2
  clear HOf
  go_wp2_with fail
  go_cut [9, 10] (fun s9 s10 wx => ∃ p q, s9 = .pointer (some ⟨p, 0, none⟩) ∧ s10 = .pointer (some ⟨q, 0, none⟩) ∧ w3.heap.size ≤ p ∧ p < q ∧ Blk wx p 39 (accC true (sumL (l.take k))) ∧ Blk wx q 39 (accC true (sumL (l.drop k))) ∧ Mo w3 wx)
  case first =>
    clear B7 M3 hp7 hk
    have i1 : (k : Int) ≤ cap := by omega
    have i2 : (0 : Int) ≤ k := by omega
    have i3 : (k : Int) ≤ n := by omega
    have O1' : Hid (∀ W' [Mor w3 W'], Calls Try.prog 9 #[.slice A k cap] W' (OfRet (l.take k) W')) := Lib.hid (fun W' h => O1.out W' h.out)
    clear O1
    by_cases e : cap = k
    · subst e
      obtain rfl : n = cap := by omega
      rw [if_pos rfl, Nat.sub_self] at O2
      have O2' : Hid (∀ W' [Mor w3 W'], Calls Try.prog 9 #[.slice A 0 0] W' (OfRet (l.drop n) W')) := Lib.hid (fun W' h => O2.out W' h.out)
      clear O2
      go_region_held3 (fun _ => True) (trivial)
        (first
        | ((with_reducible refine (O1'.out _).mono ?_); rintro e w4 ⟨p, rfl, hp, hB1, hM1⟩; have iM1 : Mor w3 w4 := ⟨(Mor.out : Mo w3 _).trans hM1⟩)
        | ((with_reducible refine (O2'.out _).mono ?_); rintro e w5 ⟨q, rfl, hq, hB2, hM2⟩))
      all_goals (go_wp2_with fail; go_meet; exact ⟨p, q, rfl, rfl, hp, Nat.lt_of_lt_of_le hB1.lt hq, hM2.blk hB1, hB2, iM1.out.trans hM2⟩)
    · rw [if_neg e, Nat.mul_one] at O2
      have O2' : Hid (∀ W' [Mor w3 W'], Calls Try.prog 9 #[.slice (A.map (·.add k)) (n - k) (cap - k)] W' (OfRet (l.drop k) W')) := Lib.hid (fun W' h => O2.out W' h.out)
      clear O2
      go_region_held3 (fun _ => True) (trivial)
        (first
        | ((with_reducible refine (O1'.out _).mono ?_); rintro e w4 ⟨p, rfl, hp, hB1, hM1⟩; have iM1 : Mor w3 w4 := ⟨(Mor.out : Mo w3 _).trans hM1⟩)
        | ((with_reducible refine (O2'.out _).mono ?_); rintro e w5 ⟨q, rfl, hq, hB2, hM2⟩))
      all_goals (go_wp2_with fail; go_meet; exact ⟨p, q, rfl, rfl, hp, Nat.lt_of_lt_of_le hB1.lt hq, hM2.blk hB1, hB2, iM1.out.trans hM2⟩)
  obtain ⟨p9, p10, rfl, rfl, hp9, hp910, B9, B10, M9⟩ := hcut
  have B7' : Blk wc p7 39 (accC true (sumL l)) := M9.blk B7
  have M10 : Mo W wc := M3.trans M9
  have hp79 : p7 < p9 := Nat.lt_of_lt_of_le B7.lt hp9
  clear O1 O2 M9 M3 B7 hp9
  obtain ⟨P1, P2⟩ := sumL_parts l k
  have JA := Lib.hid (fun (w' : World) (h1 : Blk w' p9 39 (accC true (sumL (l.take k)))) (h2 : Blk w' p10 39 (accC true (sumL (l.drop k)))) =>
    join_ret _ _ _ _ _ _ (good_sum (l.take k)) (good_sum (l.drop k)) (by rw [List.length_take, HN.out]; omega) (by rw [List.length_drop, HN.out]; omega) w' (of_at h1) (of_at h2))
  have JB := Lib.hid (fun (w' : World) (h1 : Blk w' p9 39 (accC true (sumL (l.take k)))) (h2 : Blk w' p10 39 (accC true (sumL (l.drop k)))) =>
    join_ret _ _ _ _ _ _ (good_sum (l.drop k)) (good_sum (l.take k)) (by rw [List.length_drop, HN.out]; omega) (by rw [List.length_take, HN.out]; omega) w' (of_at h2) (of_at h1))
  rw [P1] at JA
  rw [P2] at JB
  obtain ⟨c, w, lo, hi, me, sp, eS⟩ := tv_letters (sumL l)
  obtain ⟨ca, wa, loa, hia, mea, spa, ea⟩ := tv_letters (sumL (l.take k))
  obtain ⟨cb, wb, lob, hib, meb, spb, eb⟩ := tv_letters (sumL (l.drop k))
  have T7 := Lib.hid (fun (p : Nat) (W' : World) (hB : Blk W' p 39 (accC true (sumL l))) => told_acc p true (sumL l) _ W' hB (good_sum l) (by rw [HN.out]; omega))
  have T9 := Lib.hid (fun (W' : World) (hB : Blk W' p9 39 (accC true (sumL (l.take k)))) => told_acc p9 true _ _ W' hB (good_sum _) (by rw [List.length_take, HN.out]; omega))
  have T10 := Lib.hid (fun (W' : World) (hB : Blk W' p10 39 (accC true (sumL (l.drop k)))) => told_acc p10 true _ _ W' hB (good_sum _) (by rw [List.length_drop, HN.out]; omega))
  rw [eS] at T7
  rw [ea] at T9
  rw [eb] at T10
  have GA := Lib.hid (good_sum l)
  clear eS ea eb P1 P2 hk
  go_wp2_with fail
  refine (T9.out _ B9).mono ?_; rintro e w4 ⟨rfl, J1, d1, rfl⟩
  go_wp2_with fail
  refine (T10.out _ (by infer_instance)).mono ?_; rintro e w4 ⟨rfl, J2, d2, rfl⟩
  go_wp2_with fail
  refine (JA.out _ (by infer_instance) (by infer_instance)).mono ?_
  rintro e w5 ⟨p13, rfl, hp13, B13, M13⟩
  have M5 : Mo W w5 := (M10.trans Mor.out).trans M13
  have hs5 : wc.heap.size + (J1.size + J2.size) + 1 < p13 := by have := hp13; simp [go_sem] at this; omega
  have C7 : Blk w5 p7 39 (accC true (sumL l)) := M13.blk (by infer_instance)
  have C9 : Blk w5 p9 39 (accC true (sumL (l.take k))) := M13.blk (by infer_instance)
  have C10 : Blk w5 p10 39 (accC true (sumL (l.drop k))) := M13.blk (by infer_instance)
  have X11 : Blk w5 (wc.heap.size + (J1.size + J2.size)) 29 #[.int .i64 ca, .int .i64 wa, .int .i64 loa, .int .i64 hia, .int .i64 mea, .int .u64 spa] := M13.blk (by infer_instance)
  have X12 : Blk w5 (wc.heap.size + (J1.size + J2.size) + 1) 29 #[.int .i64 cb, .int .i64 wb, .int .i64 lob, .int .i64 hib, .int .i64 meb, .int .u64 spb] := M13.blk (by infer_instance)
  have hp10 : p10 < wc.heap.size := B10.lt
  clear hp13 M13 M10 B9 B10 B7'
  generalize hx11 : wc.heap.size + (J1.size + J2.size) = x11 at *
  have hp10' : p10 < x11 := by omega
  clear hx11 hp10
  go_wp2_with fail
  refine (JB.out _ C9 C10).mono ?_
  rintro e w6 ⟨p14, rfl, hp14, B14, M14⟩
  have M6 : Mo W w6 := M5.trans M14
  have hp1314 : p13 < p14 := Nat.lt_of_lt_of_le B13.lt hp14
  have D7 : Blk w6 p7 39 (accC true (sumL l)) := M14.blk (by infer_instance)
  have D9 : Blk w6 p9 39 (accC true (sumL (l.take k))) := M14.blk (by infer_instance)
  have D10 : Blk w6 p10 39 (accC true (sumL (l.drop k))) := M14.blk (by infer_instance)
  have D13 : Blk w6 p13 39 (accC true (sumL l)) := M14.blk (by infer_instance)
  have Y11 : Blk w6 x11 29 #[.int .i64 ca, .int .i64 wa, .int .i64 loa, .int .i64 hia, .int .i64 mea, .int .u64 spa] := M14.blk (by infer_instance)
  have Y12 : Blk w6 (x11 + 1) 29 #[.int .i64 cb, .int .i64 wb, .int .i64 lob, .int .i64 hib, .int .i64 meb, .int .u64 spb] := M14.blk (by infer_instance)
  clear hp14 M14 M5 C7 C9 C10 X11 X12 B13 JA JB
  go_wp2_with fail
  refine (T7.out p13 _ D13).mono ?_; rintro e w7 ⟨rfl, J3, d3, rfl⟩
  go_wp2_with fail
  refine (T7.out p7 _ (by infer_instance)).mono ?_; rintro e w7 ⟨rfl, J4, d4, rfl⟩
  go_wp2_with fail
  refine (T7.out p14 _ (by infer_instance)).mono ?_; rintro e w7 ⟨rfl, J5, d5, rfl⟩
  go_wp2_with fail
  refine (T7.out p7 _ (by infer_instance)).mono ?_; rintro e w7 ⟨rfl, J6, d6, rfl⟩
  go_wp2_with fail
  refine (same_yes _ _ (sumL l) (sumL l) rfl _ (of_at (by infer_instance)) (of_at (by infer_instance))).mono ?_; rintro e w7 ⟨rfl, J7, d7, rfl⟩
  go_wp2_with fail
  refine (same_yes _ _ (sumL l) (sumL l) rfl _ (of_at (by infer_instance)) (of_at (by infer_instance))).mono ?_; rintro e w7 ⟨rfl, J8, d8, rfl⟩
  go_wp2_with fail
  refine (add_ret p13 (sumL l) 3 _ _ (by infer_instance) GA.out (by rw [HN.out]; omega)).mono ?_
  rintro e w8 ⟨rfl, B13, K8, M8⟩
  have M8' : Mo W w8 := M8 W (by omega) (M6.trans Mor.out)
  have E7 : Blk w8 p7 39 (accC true (sumL l)) := K8 _ _ _ (by omega) (by infer_instance)
  have E9 : Blk w8 p9 39 (accC true (sumL (l.take k))) := K8 _ _ _ (by omega) (by infer_instance)
  have E10 : Blk w8 p10 39 (accC true (sumL (l.drop k))) := K8 _ _ _ (by omega) (by infer_instance)
  have Z11 : Blk w8 x11 29 #[.int .i64 ca, .int .i64 wa, .int .i64 loa, .int .i64 hia, .int .i64 mea, .int .u64 spa] := K8 _ _ _ (by omega) (by infer_instance)
  have Z12 : Blk w8 (x11 + 1) 29 #[.int .i64 cb, .int .i64 wb, .int .i64 lob, .int .i64 hib, .int .i64 meb, .int .u64 spb] := K8 _ _ _ (by omega) (by infer_instance)
  have ka0 : w8.cell? ⟨x11, 0, none⟩ = some (.int .i64 ca) := by rw [blk_cell Z11]; rfl
  have ka1 : w8.cell? ⟨x11, 1, none⟩ = some (.int .i64 wa) := by rw [blk_cell Z11]; rfl
  have ka2 : w8.cell? ⟨x11, 2, none⟩ = some (.int .i64 loa) := by rw [blk_cell Z11]; rfl
  have ka3 : w8.cell? ⟨x11, 3, none⟩ = some (.int .i64 hia) := by rw [blk_cell Z11]; rfl
  have ka4 : w8.cell? ⟨x11, 4, none⟩ = some (.int .i64 mea) := by rw [blk_cell Z11]; rfl
  have ka5 : w8.cell? ⟨x11, 5, none⟩ = some (.int .u64 spa) := by rw [blk_cell Z11]; rfl
  have kb0 : w8.cell? ⟨x11 + 1, 0, none⟩ = some (.int .i64 cb) := by rw [blk_cell Z12]; rfl
  have kb1 : w8.cell? ⟨x11 + 1, 1, none⟩ = some (.int .i64 wb) := by rw [blk_cell Z12]; rfl
  have kb2 : w8.cell? ⟨x11 + 1, 2, none⟩ = some (.int .i64 lob) := by rw [blk_cell Z12]; rfl
  have kb3 : w8.cell? ⟨x11 + 1, 3, none⟩ = some (.int .i64 hib) := by rw [blk_cell Z12]; rfl
  have kb4 : w8.cell? ⟨x11 + 1, 4, none⟩ = some (.int .i64 meb) := by rw [blk_cell Z12]; rfl
  have kb5 : w8.cell? ⟨x11 + 1, 5, none⟩ = some (.int .u64 spb) := by rw [blk_cell Z12]; rfl
  have SN := Lib.hid (fun w' (h1 : Blk w' p13 39 (accC true (addN (sumL l) 3))) (h2 : Blk w' p7 39 (accC true (sumL l))) => same_no _ _ _ _ (add3_c (sumL l)) w' (of_at h1) (of_at h2))
  have L11 : LtW x11 w8 := LtW.of_cell ka0
  have L12 : LtW (x11 + 1) w8 := LtW.of_cell kb0
  clear K8 M8 D7 D9 D10 D13 Y11 Y12 Z11 Z12 B14 M6
  go_wp2_with fail
  refine wp_region_mo (by kernel_rfl) (by kernel_rfl) ?_
  repeat (go_big_quiet_step (first | (with_reducible exact quiet_mo (T9.out _ (by infer_instance))) | (with_reducible exact quiet_mo (T10.out _ (by infer_instance))) | (with_reducible exact quiet_mo (SN.out _ (by infer_instance) (by infer_instance)))))
  refine wpQuiet_nil ?_
  intro _ hw'
  obtain ⟨⟨J9, d9⟩, hw''⟩ := hw'
  subst hw''
  clear ka0 ka1 ka2 ka3 ka4 ka5 kb0 kb1 kb2 kb3 kb4 kb5 L11 L12 SN T9 T10
  have F7 : Blk (more w8 J9 d9) p7 39 (accC true (sumL l)) := by infer_instance
  have M9 : Mo W (more w8 J9 d9) := M8'.trans Mor.out
  generalize more w8 J9 d9 = w9 at *
  clear E7 E9 E10 B13 M8'
  obtain ⟨i0, hi0, hz0, hz1, hz2⟩ := info_parts infoI
  obtain ⟨t, rfl⟩ : ∃ t : Nat, turn = t := ⟨turn.toNat, by omega⟩
  go_wp2_with fail
  go_loopw [15, 16, 98] (fun v _ i wr => ∃ m : Nat, m ≤ n ∧ i = .int .i64 m ∧ wr.ownsRow w9.heap.size 2 1 v m ((turnL l t m).map (Value.int .i64)) ∧ Mo w9 wr) (fun _ _ i _ => n - (intOf i).toNat)
  case atStart => exact ⟨0, by omega, rfl, World.ownsRow_nil _ _ _ _, Mo.refl _⟩
  case round =>
    obtain ⟨m, hm, rfl, hown, hM⟩ := hrel
    by_cases cm : m < n
    · have hR := (HR.out.mo M9).mo hM
      obtain ⟨j, hj⟩ : ∃ j : Nat, ((m : Int) + t) % n = j := ⟨(((m : Int) + t) % n).toNat, by have : 0 ≤ ((m : Int) + t) % n := Int.emod_nonneg _ (by omega); omega⟩
      have hjn : j < n := by have : ((m : Int) + t) % n < n := Int.emod_lt_of_pos _ (by omega); omega
      have hjj : (m + t) % l.length = j := by rw [HN.out]; exact_mod_cast hj
      have HS := Lib.hid (turnL_snoc l t m)
      rw [hjj] at HS
      rcases hR with h0 | ⟨g, off, rfl, hc⟩
      · exfalso; have := HN.out; rw [h0] at this; simp at this; omega
      have hcell := hc j (by rw [HN.out]; exact hjn)
      have LG : LtW g wr := LtW.of_cell hcell
      clear hc hjj
      generalize l.getD j 0 = x at *
      have hN0 : ¬ n = 0 := by omega
      go_wp2_with (at_builtin; refine wpList_append_own _ rfl _ _ 22 rfl w9.heap.size 2 i0 (.int .i64 0) 1 8 Try.underlying22 hi0 hz0 hz1 hz2 rfl (by decide) _ _ _ rfl (hown.alloc _) ⟨wr.heap.size, 0, none⟩ 1 1 [.int .i64 x] rfl rfl ?c1 ?c2 ?c3 ?c4 ?c5 ?_)
      case c1 => exact cell_one_new _ _ _
      case c2 => simp [Value.oneCell']
      case c3 => unfold maxLen; omega
      case c4 => omega
      case c5 => have := hM.size; simp; omega
      intro v' w1 hown1 hgrow _
      have hM1 : Mo w9 w1 := mo_grown (hM.trans Mor.out) hgrow (fun k e => (hown.lt k e).1)
      have hown2 : w1.ownsRow w9.heap.size 2 1 v' (m + 1) ((turnL l t (m + 1)).map (Value.int .i64)) := by rw [HS.out, List.map_append]; exact hown1
      clear hown hown1 hgrow hcell HS LG hj hM
      go_wp2_with fail
      go_roundw
      case rel => exact ⟨m + 1, by omega, by go_num, hown2, hM1⟩
      case measure => simp [intOf]; omega
    · obtain rfl : m = n := by omega
      have hP : (turnL l t m).Perm l := by rw [← HN.out]; exact turnL_perm l t
      have hL : (turnL l t m).length = m := turnL_len l t m
      generalize turnL l t m = zs at *
      have F7' : Blk wr p7 39 (accC true (sumL l)) := hM.blk F7
      have M11 : Mo W wr := M9.trans hM
      have G7 : p7 < w9.heap.size := F7.lt
      rcases owns_blk hown with ⟨rfl, rfl, -⟩ | ⟨g, cp, cur, rfl, hg, hB, h1, h2, h3, h4⟩
      · clear hown hM
        have hz0 : zs = [] := List.eq_nil_of_length_eq_zero hL
        subst hz0
        go_wp2_with fail
        refine wp_loop_rounds 1 ?_
        rw [rounds_succ]
        go_wp2_with fail
        refine (of_empty none 0 _).mono ?_
        rintro e w12 ⟨q1, rfl, hq1, Q1, N1⟩
        rw [sumL_perm hP] at Q1
        have R7 : Blk w12 p7 39 (accC true (sumL l)) := N1.blk F7'
        have M12 : Mo W w12 := M11.trans N1
        clear N1 hq1
        go_wp2_with fail
        refine (same_yes _ _ (sumL l) (sumL l) rfl _ (of_at Q1) (of_at R7)).mono ?_; rintro e w13 ⟨rfl, J12, d12, rfl⟩
        go_wp2_with fail
        refine (of_empty none 0 _).mono ?_
        rintro e w14 ⟨q2, rfl, hq2, Q2, N2⟩
        rw [sumL_perm hP] at Q2
        have S7 : Blk w14 p7 39 (accC true (sumL l)) := N2.blk (by infer_instance)
        have M14 : Mo W w14 := (M12.trans Mor.out).trans N2
        clear N2 hq2 Q1 R7 M12
        go_wp2_with fail
        refine (T7.out q2 _ Q2).mono ?_; rintro e w15 ⟨rfl, J15, d15, rfl⟩
        go_wp2_with fail
        refine (T7.out p7 _ (by infer_instance)).mono ?_; rintro e w15 ⟨rfl, J16, d16, rfl⟩
        go_wp2_with fail
        refine (works_any _).mono ?_; rintro e w15 ⟨rfl, J17, d17, rfl⟩
        go_wp2_with fail
        go_ret
        exact ⟨rfl, M14.trans Mor.out⟩
      · clear hown hM
        have I0 := Lib.hid (show RInv W l g cp p7 m wr from ⟨cur, zs, hB, h3, h4, hL, hP, F7', M11⟩)
        have hgp : g ≠ p7 := by omega
        have hgW : W.heap.size ≤ g := Nat.le_trans M9.size hg
        clear hB h3 h4 hL hP F7' M11 M9 F7
        go_wp2_with fail
        go_loopw [17] (fun i wr2 => ∃ z : Int, i = .int .i64 z ∧ -1 ≤ z ∧ 2 * z + 2 ≤ m ∧ RInv W l g cp p7 m wr2) (fun i _ => (intOf i + 1).toNat)
        case atStart => exact ⟨_, rfl, by omega, by omega, I0.out⟩
        case round =>
          obtain ⟨z, rfl, z1, z2, hI⟩ := hrel
          by_cases cz : 0 ≤ z
          · obtain ⟨i, rfl⟩ : ∃ i : Nat, z = i := ⟨z.toNat, by omega⟩
            obtain ⟨j, hj⟩ : ∃ j : Nat, (m : Int) - 1 - i = j := ⟨((m : Int) - 1 - i).toNat, by omega⟩
            have hjm : j < m := by omega
            have him : i < m := by omega
            obtain ⟨cur2, zs2, hB2, u1, u2, u3, u4, u5, u6⟩ := hI
            have ci : wr.cell? ⟨g, i, none⟩ = some (.int .i64 (zs2.getD i 0)) := by rw [blk_cell hB2, cur_get u2 u3 i him]
            have cj : wr.cell? ⟨g, j, none⟩ = some (.int .i64 (zs2.getD j 0)) := by rw [blk_cell hB2, cur_get u2 u3 j hjm]
            have fi : wr.frozen? ⟨g, i, none⟩ = false := blk_frozen hB2 i
            have fj : wr.frozen? ⟨g, j, none⟩ = false := blk_frozen hB2 j
            have SW := Lib.hid (RInv.swap (i := i) (j := j) hB2 u1 u2 u3 u4 u5 u6 hgW hgp him hjm)
            generalize zs2.getD i 0 = xi at *
            generalize zs2.getD j 0 = xj at *
            clear hB2 u1 u2 u3 u4 u5 u6 I0
            have b1 : (i : Int) < m := by omega
            have b2 : (j : Int) < m := by omega
            have nij : i ≠ j := by omega
            clear T7 GA
            go_wp2_with fail
            go_region
            all_goals
              go_wp2_with fail
              go_roundw
              case rel => exact ⟨(i : Int) - 1, rfl, by omega, by omega, SW.out.drewN 1⟩
              case measure => simp [intOf]
          · clear I0
            obtain ⟨cur2, zs2, hB2, u1, u2, u3, u4, u5, u6⟩ := hI
            have hRow : RowOf wr (some ⟨g, 0, none⟩) zs2 := .inr ⟨g, 0, rfl, fun j hj => by rw [Nat.zero_add, blk_cell hB2, cur_get u2 u3 j (by omega)]⟩
            have OT := Lib.hid (of_reads (some ⟨g, 0, none⟩) zs2 cp wr (by omega) hRow)
            have hP := u4
            rw [u3] at OT
            clear hB2 u1 u2 u3 u4 hRow
            go_wp2_with fail
            refine (OT.out _ (Mo.refl _)).mono ?_
            rintro e w12 ⟨q1, rfl, hq1, Q1, N1⟩
            rw [sumL_perm hP] at Q1
            have R7 : Blk w12 p7 39 (accC true (sumL l)) := N1.blk u5
            have M12 : Mo W w12 := u6.trans N1
            clear hq1
            go_wp2_with fail
            refine (same_yes _ _ (sumL l) (sumL l) rfl _ (of_at Q1) (of_at R7)).mono ?_; rintro e w13 ⟨rfl, J12, d12, rfl⟩
            go_wp2_with fail
            refine (OT.out _ (N1.trans Mor.out)).mono ?_
            rintro e w14 ⟨q2, rfl, hq2, Q2, N2⟩
            rw [sumL_perm hP] at Q2
            have S7 : Blk w14 p7 39 (accC true (sumL l)) := N2.blk (by infer_instance)
            have M14 : Mo W w14 := (M12.trans Mor.out).trans N2
            clear N2 hq2 Q1 R7 M12 N1 u5 u6 OT
            go_wp2_with fail
            refine (T7.out q2 _ Q2).mono ?_; rintro e w15 ⟨rfl, J15, d15, rfl⟩
            go_wp2_with fail
            refine (T7.out p7 _ (by infer_instance)).mono ?_; rintro e w15 ⟨rfl, J16, d16, rfl⟩
            go_wp2_with fail
            refine (works_any _).mono ?_; rintro e w15 ⟨rfl, J17, d17, rfl⟩
            go_wp2_with fail
            go_ret
            exact ⟨rfl, M14.trans Mor.out⟩
theorem parts_off (A : Option Addr) (n cap : Nat) (x y : Int) (W : World) (h : 200 < n) :
    Calls Try.prog 7 #[.slice A n cap, .int .u8 x, .int .u8 y] W fun e w' => e = .returned (.bool true) ∧ Mo W w' := by
  have q1 : decide ((200 : Int) < ↑n) = true := by simp; omega
  go_enter Try.func7, Try.ntmps7
  go_wp2_with fail
  refine (works_any _).mono ?_; rintro e w1 ⟨rfl, J3, d3, rfl⟩
  go_wp2_with fail
  go_ret
  exact ⟨rfl, Mor.out⟩
theorem parts_slice (a : Addr) (zs : List Int) (len cap : Nat) (x y : Int) (hle : len ≤ cap) (hall : zs.length = cap) (x1 : 0 ≤ x) (x2 : x ≤ 255) (y1 : 0 ≤ y) (y2 : y ≤ 255) (W : World) (hc : ∀ i, i < zs.length → W.cell? (a.add i) = some (.int .i64 (zs.getD i 0))) :
    Calls Try.prog 7 #[.slice (some a) len cap, .int .u8 x, .int .u8 y] W fun e w' => e = .returned (.bool true) ∧ Mo W w' := by
  by_cases h : 200 < len
  · exact parts_off (some a) len cap x y W h
  · have ln : (zs.take len).length = len := by rw [List.length_take]; omega
    have hR : RowOf W (some a) (zs.take len) := by
      by_cases z : len = 0
      · subst z; exact .inl (by simp)
      · obtain ⟨b, off, rfl, hcell⟩ := ints_at hc (by omega)
        refine .inr ⟨b, off, rfl, fun j hj => ?_⟩
        rw [ln] at hj
        rw [hcell j (by omega)]
        simp [List.getD, List.getElem?_take_of_lt hj]
    have := parts_any (some a) (zs.take len) cap x y W (by omega) (by omega) x1 x2 y1 y2 hR
    rw [ln] at this
    exact this
theorem parts_nil (x y : Int) (x1 : 0 ≤ x) (x2 : x ≤ 255) (y1 : 0 ≤ y) (y2 : y ≤ 255) (W : World) :
    Calls Try.prog 7 #[.slice none 0 0, .int .u8 x, .int .u8 y] W fun e w' => e = .returned (.bool true) ∧ Mo W w' :=
  parts_any none [] 0 x y W (by decide) (by decide) x1 x2 y1 y2 (.inl rfl)
end Go.Proofs.Ytmaddbonkpfdgaa
