/- server: Told. -/
import Derived.Test.YthgkhllkhhnlpaaSvQ
namespace Go.Proofs.Ythgkhllkhhnlpaa
open Go.RowKit Go.Maps

abbrev a17 (a0 a1 a2 a3 a4 a5 a6 a7 a8 a9 a10 a11 a12 a13 a14 a15 a16 : Value) : Array Value := #[a0, a1, a2, a3, a4, a5, a6, a7, a8, a9, a10, a11, a12, a13, a14, a15, a16]
abbrev c9 (c : Nat → Int) : Array Value := #[.int .i64 (c 0), .int .i64 (c 1), .int .i64 (c 2), .int .i64 (c 3), .int .i64 (c 4), .int .i64 (c 5), .int .i64 (c 6), .int .i64 (c 7), .int .i64 (c 8)]
set_option maxRecDepth 20000 in
theorem entC_cut (a : Array Value) (h : a.size = 17) (c : Nat → Int) (p1 p2 p3 gv sv stv : Value) (more : Nat) : (entC a c p1 p2 p3 gv sv stv more).extract 17 26 = c9 c := by
  refine Array.ext_getElem? fun k => ?_
  rw [Array.getElem?_extract]
  have hz : (entC a c p1 p2 p3 gv sv stv more).size = 33 := entC_size h
  by_cases hk : k < 9
  · rw [if_pos (by omega), entC_cnt h k hk]
    rcases (show k = 0 ∨ k = 1 ∨ k = 2 ∨ k = 3 ∨ k = 4 ∨ k = 5 ∨ k = 6 ∨ k = 7 ∨ k = 8 by omega) with rfl | rfl | rfl | rfl | rfl | rfl | rfl | rfl | rfl <;> rfl
  · rw [if_neg (by omega), Array.getElem?_eq_none (by simp; omega)]
set_option maxRecDepth 20000 in
theorem entC_cut0 (a : Array Value) (h : a.size = 17) (c : Nat → Int) (p1 p2 p3 gv sv stv : Value) (more : Nat) : (entC a c p1 p2 p3 gv sv stv more).extract 0 17 = a := by
  refine Array.ext_getElem? fun k => ?_
  rw [Array.getElem?_extract]
  have hz : (entC a c p1 p2 p3 gv sv stv more).size = 33 := entC_size h
  by_cases hk : k < 17
  · rw [if_pos (by omega), Nat.zero_add, entC_lo h k hk]
  · rw [if_neg (by omega), Array.getElem?_eq_none (by omega)]
attribute [local go_sem] blk_cell' blk_frozen' run_build_srv
attribute [local go_sem ↓] loadF_addr storeF_addr loadF_srv storeF_srv loadF_cnt buildF_srv
attribute [local go_sem] run_loadF0 run_storeF0
set_option maxRecDepth 20000 in
theorem own_one {w : World} {b T s n : Nat} {v : Value} {xs : List Value} (h : w.ownsRow b T s v n xs) : v.oneCell' = true := by
  obtain ⟨A, c, rfl⟩ := own_slS h
  rfl
abbrev z47 : Array Value := #[.bool false, .int .u8 0, .int .u8 0, .int .u8 0, .int .u8 0, .int .u8 0, .int .u8 0, .int .u8 0, .int .u8 0, .int .u8 0, .int .u8 0, .int .u8 0, .int .u8 0, .int .u8 0, .int .u8 0, .int .u8 0, .int .u8 0, .int .i64 0, .int .i64 0, .int .i64 0, .int .i64 0, .int .i64 0, .int .i64 0, .int .i64 0, .int .i64 0, .int .i64 0, .int .i64 0, .int .i64 0, .int .i64 0, .int .i64 0, .int .i64 0, .int .u64 0, .int .i64 0, .int .i64 0, .int .i64 0, .int .i64 0, .int .i64 0, .int .u64 0, .int .i64 0, .int .i64 0, .int .i64 0, .int .i64 0, .int .i64 0, .int .u64 0, .slice none 0 0, .slice none 0 0, .int .i64 0]
def P6 (r : Nat) (a : Array Value) (c : Nat → Int) (s1 s2 s3 : St) (more n m : Nat) (K : List Tau) (L : List (Nat × Int × Int)) (cs : Array Value) (w : World) : Prop := ∃ tv sv, cs = srvC a c s1 s2 s3 tv sv more ∧ w.ownsRow (r + 1) 117 5 tv n (tauRow K) ∧ w.ownsRow (r + 1) 85 3 sv m (stpL L)
set_option maxRecDepth 20000 in
theorem P6_keep (r : Nat) (a : Array Value) (c : Nat → Int) (s1 s2 s3 : St) (more n m : Nat) (K : List Tau) (L : List (Nat × Int × Int)) : KeepP r (P6 r a c s1 s2 s3 more n m K L) := fun cs w w' h k => by
  obtain ⟨tv, sv, e, o1, o2⟩ := h
  exact ⟨tv, sv, e, own_past k o1 (Nat.lt_succ_self r), own_past k o2 (Nat.lt_succ_self r)⟩
/-- what each operation yields -/
def fl6t (g r : Nat) (a0 a1 a2 a3 a4 a5 a6 a7 a8 a9 a10 a11 a12 a13 a14 a15 a16 : Value) (c : Nat → Int) (s1 s2 s3 : St) (more p1 p2 p3 : Nat) (gv stv : Value) (n m : Nat) (K : List Tau) (L : List (Nat × Int × Int)) : List (Value → World → Prop) := [
  fun v _ => v = .pointer (some ⟨g, 0, none⟩),
  fun v _ => v = .pointer (some ⟨g, 0, none⟩),
  fun v _ => v = .pointer (some ⟨g, 0, none⟩),
  fun v _ => v = .agg (a17 a0 a1 a2 a3 a4 a5 a6 a7 a8 a9 a10 a11 a12 a13 a14 a15 a16),
  fun v _ => v = .pointer (some ⟨g, 0, none⟩),
  fun v _ => v = .pointer (some ⟨g, 0, none⟩),
  fun v _ => v = .pointer (some ⟨g, 17, none⟩),
  fun v _ => v = .agg (c9 c),
  fun v _ => v = .pointer (some ⟨g, 0, none⟩),
  fun v _ => v = .pointer (some ⟨g, 0, none⟩),
  fun v _ => v = .pointer (some ⟨g, 26, none⟩),
  fun v _ => v = .pointer (some ⟨g, 26, none⟩),
  fun v _ => v = ptrS p1,
  fun v _ => v = .agg (totV s1),
  fun v _ => v = .pointer (some ⟨g, 0, none⟩),
  fun v _ => v = .pointer (some ⟨g, 0, none⟩),
  fun v _ => v = .pointer (some ⟨g, 26, none⟩),
  fun v _ => v = .pointer (some ⟨g, 27, none⟩),
  fun v _ => v = ptrS p2,
  fun v _ => v = .agg (totV s2),
  fun v _ => v = .pointer (some ⟨g, 0, none⟩),
  fun v _ => v = .pointer (some ⟨g, 0, none⟩),
  fun v _ => v = .pointer (some ⟨g, 26, none⟩),
  fun v _ => v = .pointer (some ⟨g, 28, none⟩),
  fun v _ => v = ptrS p3,
  fun v _ => v = .agg (totV s3),
  fun v _ => v = .pointer (some ⟨g, 0, none⟩),
  fun v _ => v = .pointer (some ⟨g, 0, none⟩),
  fun v _ => v = .pointer (some ⟨g, 29, none⟩),
  fun v _ => v = gv,
  fun v w => w.ownsRow (r + 1) 117 5 v n (tauRow K),
  fun v _ => v = .pointer (some ⟨g, 0, none⟩),
  fun v _ => v = .pointer (some ⟨g, 0, none⟩),
  fun v _ => v = .pointer (some ⟨g, 31, none⟩),
  fun v _ => v = stv,
  fun v w => w.ownsRow (r + 1) 85 3 v m (stpL L),
  fun v _ => v = .pointer (some ⟨g, 0, none⟩),
  fun v _ => v = .pointer (some ⟨g, 0, none⟩),
  fun v _ => v = .pointer (some ⟨g, 32, none⟩),
  fun v _ => v = .int .i64 (more : Nat),
  fun v w => ∃ tv sv, v = .agg (srvC (a17 a0 a1 a2 a3 a4 a5 a6 a7 a8 a9 a10 a11 a12 a13 a14 a15 a16) c s1 s2 s3 tv sv more) ∧ w.ownsRow (r + 1) 117 5 tv n (tauRow K) ∧ w.ownsRow (r + 1) 85 3 sv m (stpL L),
  fun _ w => ∃ cs, Blk w r 62 cs ∧ (P6 r (a17 a0 a1 a2 a3 a4 a5 a6 a7 a8 a9 a10 a11 a12 a13 a14 a15 a16) c s1 s2 s3 more n m K L) cs w,
  fun v _ => v = .bool true]
set_option maxRecDepth 20000 in
theorem fl6t_mono (g r : Nat) (a0 a1 a2 a3 a4 a5 a6 a7 a8 a9 a10 a11 a12 a13 a14 a15 a16 : Value) (c : Nat → Int) (s1 s2 s3 : St) (more p1 p2 p3 : Nat) (gv stv : Value) (n m : Nat) (K : List Tau) (L : List (Nat × Int × Int)) : MonoR (RelC r 62 47 (P6 r (a17 a0 a1 a2 a3 a4 a5 a6 a7 a8 a9 a10 a11 a12 a13 a14 a15 a16) c s1 s2 s3 more n m K L)) (fl6t g r a0 a1 a2 a3 a4 a5 a6 a7 a8 a9 a10 a11 a12 a13 a14 a15 a16 c s1 s2 s3 more p1 p2 p3 gv stv n m K L) := by
  unfold fl6t
  refine MonoR.eq _ ?_
  refine MonoR.eq _ ?_
  refine MonoR.eq _ ?_
  refine MonoR.eq _ ?_
  refine MonoR.eq _ ?_
  refine MonoR.eq _ ?_
  refine MonoR.eq _ ?_
  refine MonoR.eq _ ?_
  refine MonoR.eq _ ?_
  refine MonoR.eq _ ?_
  refine MonoR.eq _ ?_
  refine MonoR.eq _ ?_
  refine MonoR.eq _ ?_
  refine MonoR.eq _ ?_
  refine MonoR.eq _ ?_
  refine MonoR.eq _ ?_
  refine MonoR.eq _ ?_
  refine MonoR.eq _ ?_
  refine MonoR.eq _ ?_
  refine MonoR.eq _ ?_
  refine MonoR.eq _ ?_
  refine MonoR.eq _ ?_
  refine MonoR.eq _ ?_
  refine MonoR.eq _ ?_
  refine MonoR.eq _ ?_
  refine MonoR.eq _ ?_
  refine MonoR.eq _ ?_
  refine MonoR.eq _ ?_
  refine MonoR.eq _ ?_
  refine MonoR.eq _ ?_
  refine MonoR.cons (fun v w w' h m => m.own h (Nat.lt_succ_self r)) ?_
  refine MonoR.eq _ ?_
  refine MonoR.eq _ ?_
  refine MonoR.eq _ ?_
  refine MonoR.eq _ ?_
  refine MonoR.cons (fun v w w' h m => m.own h (Nat.lt_succ_self r)) ?_
  refine MonoR.eq _ ?_
  refine MonoR.eq _ ?_
  refine MonoR.eq _ ?_
  refine MonoR.eq _ ?_
  refine MonoR.cons (fun v w w' h m => (by obtain ⟨tv, sv, e, o1, o2⟩ := h; exact ⟨tv, sv, e, m.own o1 (Nat.lt_succ_self r), m.own o2 (Nat.lt_succ_self r)⟩)) ?_
  refine MonoR.cons (fun v w w' h m => m.p h) ?_
  refine MonoR.eq _ ?_
  exact MonoR.nil
def fl6t_deps : List (List Nat) := [[], [0], [1], [2], [], [4], [5], [6], [], [8], [9], [10], [11], [12], [], [14], [15], [16], [17], [18], [], [20], [21], [22], [23], [24], [], [26], [27], [28], [29], [], [31], [32], [33], [34], [], [36], [37], [38], [3, 7, 13, 19, 25, 30, 35, 39], [40], []]

set_option maxRecDepth 20000 in
set_option maxHeartbeats 8000000 in
theorem told_core (W : World) (T B go g : Nat) (C : CfgS) (A : Option Addr) (nl cl : Nat) (i : Nat) (hi : i ≤ nl) (bT : Blk W T 83 (tabC C (.slice A nl cl) B go)) (ex : if i < nl then ∃ gL, A = some ⟨gL, 0, none⟩ ∧ W.cell? ⟨gL, i, none⟩ = some (ptrS g) else g = go)
    (a : Array Value) (c : Nat → Int) (s1 s2 s3 : St) (more : Nat) (p1 p2 p3 : Nat) (gv sv stv : Value) (n m : Nat) (K : List Tau) (L : List (Nat × Int × Int)) (hz : a.size = 17) (ho : OneA a)
    (bE : Blk W g 99 (entC a c (ptrS p1) (ptrS p2) (ptrS p3) gv sv stv more))
    (T1 : ∀ w, Mo W w → Calls Try.prog 35 #[ptrS p1] w fun e w' => e = .returned (.agg (totV s1)) ∧ Mo w w')
    (T2 : ∀ w, Mo W w → Calls Try.prog 35 #[ptrS p2] w fun e w' => e = .returned (.agg (totV s2)) ∧ Mo w w')
    (T3 : ∀ w, Mo W w → Calls Try.prog 35 #[ptrS p3] w fun e w' => e = .returned (.agg (totV s3)) ∧ Mo w w')
    (TG : ∀ w, Mo W w → Calls Try.prog 36 #[gv] w fun e w' => ∃ v, e = .returned v ∧ w'.ownsRow w.heap.size 117 5 v n (tauRow K) ∧ Mo w w')
    (TC : ∀ w, Mo W w → Calls Try.prog 37 #[stv] w fun e w' => ∃ v, e = .returned v ∧ w'.ownsRow w.heap.size 85 3 v m (stpL L) ∧ Mo w w') :
    Calls Try.prog 16 #[ptrS T, .int .i64 (i : Nat)] W fun e w' => ∃ tv sv, e = .returned (.tuple #[.agg (srvC a c s1 s2 s3 tv sv more), .bool true]) ∧ w'.ownsRow (W.heap.size + 1) 117 5 tv n (tauRow K) ∧ w'.ownsRow (W.heap.size + 1) 85 3 sv m (stpL L) ∧ Mo W w' := by
  obtain ⟨PO, hPO⟩ : ∃ P : Ending → World → Prop, (fun e w' => ∃ tv sv, e = .returned (.tuple #[.agg (srvC a c s1 s2 s3 tv sv more), .bool true]) ∧ w'.ownsRow (W.heap.size + 1) 117 5 tv n (tauRow K) ∧ w'.ownsRow (W.heap.size + 1) 85 3 sv m (stpL L) ∧ Mo W w') = P := ⟨_, rfl⟩
  rw [hPO]
  have RR := Lib.hid hPO
  have H1 := Lib.hid T1
  have HONE := Lib.hid ho
  have H2 := Lib.hid T2
  have H3 := Lib.hid T3
  have HG := Lib.hid TG
  have HC := Lib.hid TC
  have HX := Lib.hid ex
  have HB := Lib.hid bE
  have d0 : decide ((i : Int) < 0) = false := decide_eq_false (by omega)
  have d1 : decide ((nl : Int) < i) = false := decide_eq_false (by omega)
  have d1' : decide (nl < i) = false := decide_eq_false (by omega)
  clear T1 T2 T3 TG TC ex hi bE hPO ho
  go_enter Try.func16, Try.ntmps16
  --@@ r1
  go_upto_region 3 with (fail)
  refine wp_name ?_
  intro w1 hw1
  have br : Blk w1 W.heap.size 62 z47 := by rw [hw1]; infer_instance
  have M1 : Mo W w1 := by rw [hw1]; exact Mor.out
  have bT1 := M1.blk bT
  have gr : g < W.heap.size := HB.out.lt
  generalize hr : W.heap.size = r at *
  have HR := Lib.hid hr
  clear hw1 bT hr
  --@@ if
  go_upto_if 40 with (fail)
  go_cut [6] (fun s6 wx => s6 = ptrS g ∧ Mo w1 wx)
  case first =>
    by_cases ci : i < nl
    · have x := HX.out
      rw [if_pos ci] at x
      obtain ⟨gL, rfl, y⟩ := x
      have z : LtW gL W := LtW.of_cell y
      have y1 : w1.cell? ⟨gL, i, none⟩ = some (ptrS g) := by rw [M1.cell]; exact y
      have z1 : LtW gL w1 := LtW.of_cell y1
      have d2 : decide ((i : Int) < nl) = true := decide_eq_true (by omega)
      have d2' : decide (i < nl) = true := decide_eq_true ci
      have e0 : (0 : Int) ≤ i := by omega
      have e1 : (i : Int) < nl := by omega
      clear ci
      go_wp2_with fail
      go_meet
      exact ⟨rfl, Mor.out⟩
    · have x := HX.out
      rw [if_neg ci] at x
      subst x
      have d2 : decide ((i : Int) < nl) = false := decide_eq_false (by omega)
      have d2' : decide (i < nl) = false := decide_eq_false ci
      have d3 : ¬ ((i : Int) < nl) := by omega
      go_wp2_with fail
      go_meet
      exact ⟨rfl, Mor.out⟩
  obtain ⟨rfl, M2⟩ := hcut
  rename World => w2
  have br2 := M2.blk br
  have N2 := M1.trans M2
  have bE2 := N2.blk HB.out
  have rlt : r < w2.heap.size := br2.lt
  have ne : g ≠ r := by omega
  clear br M1 M2 bT1 HX
  --@@ r6
  go_upto_region 6 with (fail)
  have br0 : ∃ cs, Blk w2 r 62 cs ∧ cs.size = 47 := ⟨z47, br2, rfl⟩
  have lA : ∀ w, Blk w g 99 (entC a c (ptrS p1) (ptrS p2) (ptrS p3) gv sv stv more) → (loadF 35 (.pointer (some ⟨g, 0, none⟩))).run Try.prog w = .ok (.agg a) w := fun w b => by
    have iz : SzA (entC a c (ptrS p1) (ptrS p2) (ptrS p3) gv sv stv more) 33 := ⟨entC_size hz⟩
    rw [run_loadFz 35 17 w g 99 (entC a c (ptrS p1) (ptrS p2) (ptrS p3) gv sv stv more) 33 (by omega), entC_cut0 a hz]
  have lC : ∀ w, Blk w g 99 (entC a c (ptrS p1) (ptrS p2) (ptrS p3) gv sv stv more) → (loadF 56 (.pointer (some ⟨g, 17, none⟩))).run Try.prog w = .ok (.agg (c9 c)) w := fun w b => by
    have iz : SzA (entC a c (ptrS p1) (ptrS p2) (ptrS p3) gv sv stv more) 33 := ⟨entC_size hz⟩
    rw [run_loadFo 56 9 w g 17 99 (entC a c (ptrS p1) (ptrS p2) (ptrS p3) gv sv stv more) 33 (by omega) (by omega), entC_cut a hz]
  have yy := entC_hi (p1 := ptrS p1) (p2 := ptrS p2) (p3 := ptrS p3) (gv := gv) (sv := sv) (stv := stv) (more := more) (c := c) hz
  have y0 := yy 0
  have y1 := yy 1
  have y2 := yy 2
  have y3 := yy 3
  have y5 := yy 5
  have y6 := yy 6
  simp only [List.getElem?_cons_zero, List.getElem?_cons_succ] at y0 y1 y2 y3 y5 y6
  obtain ⟨a0, a1, a2, a3, a4, a5, a6, a7, a8, a9, a10, a11, a12, a13, a14, a15, a16, rfl⟩ := arr17 hz
  go_cut [5] (fun s5 wx => s5 = .bool true ∧ ∃ tv sv, Blk wx r 62 (srvC (a17 a0 a1 a2 a3 a4 a5 a6 a7 a8 a9 a10 a11 a12 a13 a14 a15 a16) c s1 s2 s3 tv sv more) ∧ wx.ownsRow (r + 1) 117 5 tv n (tauRow K) ∧ wx.ownsRow (r + 1) 85 3 sv m (stpL L) ∧ RelC r 62 47 (P6 r (a17 a0 a1 a2 a3 a4 a5 a6 a7 a8 a9 a10 a11 a12 a13 a14 a15 a16) c s1 s2 s3 more n m K L) w2 wx)
  case first =>
    rename_i hJ hK
    refine wp_region_factsH (RelC r 62 47 (P6 r (a17 a0 a1 a2 a3 a4 a5 a6 a7 a8 a9 a10 a11 a12 a13 a14 a15 a16) c s1 s2 s3 more n m K L)) (fun _ _ => RelC.mo (P6_keep r (a17 a0 a1 a2 a3 a4 a5 a6 a7 a8 a9 a10 a11 a12 a13 a14 a15 a16) c s1 s2 s3 more n m K L)) (fun _ _ _ => RelC.trans) (fun k => fl6t_deps.getD k []) (ofFL (fl6t g r a0 a1 a2 a3 a4 a5 a6 a7 a8 a9 a10 a11 a12 a13 a14 a15 a16 c s1 s2 s3 more p1 p2 p3 gv stv n m K L)) (by kernel_rfl) (by kernel_rfl) (ofFL_monoR (fl6t_mono g r a0 a1 a2 a3 a4 a5 a6 a7 a8 a9 a10 a11 a12 a13 a14 a15 a16 c s1 s2 s3 more p1 p2 p3 gv stv n m K L)) ?_ ?_
    · intro k hk a' w' hs hM hb hd
      have bb4 : a'.tmps.getD 4 undef = .pointer (some ⟨r, 0, none⟩) := (hb 4 (rg_free (by kernel_rfl))).trans rfl
      have bb6 : a'.tmps.getD 6 undef = .pointer (some ⟨g, 0, none⟩) := (hb 6 (rg_free (by kernel_rfl))).trans rfl
      have hk' : k < 43 := hk
      clear hs hk hb
      rcases (show k = 0 ∨ k = 1 ∨ k = 2 ∨ k = 3 ∨ k = 4 ∨ k = 5 ∨ k = 6 ∨ k = 7 ∨ k = 8 ∨ k = 9 ∨ k = 10 ∨ k = 11 ∨ k = 12 ∨ k = 13 ∨ k = 14 ∨ k = 15 ∨ k = 16 ∨ k = 17 ∨ k = 18 ∨ k = 19 ∨ k = 20 ∨ k = 21 ∨ k = 22 ∨ k = 23 ∨ k = 24 ∨ k = 25 ∨ k = 26 ∨ k = 27 ∨ k = 28 ∨ k = 29 ∨ k = 30 ∨ k = 31 ∨ k = 32 ∨ k = 33 ∨ k = 34 ∨ k = 35 ∨ k = 36 ∨ k = 37 ∨ k = 38 ∨ k = 39 ∨ k = 40 ∨ k = 41 ∨ k = 42 by omega) with rfl | rfl | rfl | rfl | rfl | rfl | rfl | rfl | rfl | rfl | rfl | rfl | rfl | rfl | rfl | rfl | rfl | rfl | rfl | rfl | rfl | rfl | rfl | rfl | rfl | rfl | rfl | rfl | rfl | rfl | rfl | rfl | rfl | rfl | rfl | rfl | rfl | rfl | rfl | rfl | rfl | rfl | rfl
      · -- 0
        exact rh_val rfl (rg_w0 rfl) rfl (RelC.refl _ _ _ _ _) rfl bb6
      · -- 1
        have e0 : a'.tmps.getD 48 undef = .pointer (some ⟨g, 0, none⟩) := (rg_dep (hd 0 (by decide)) (by kernel_rfl) : ofFL (fl6t g r a0 a1 a2 a3 a4 a5 a6 a7 a8 a9 a10 a11 a12 a13 a14 a15 a16 c s1 s2 s3 more p1 p2 p3 gv stv n m K L) 0 (a'.tmps.getD 48 undef) w')
        exact rh_val (v := .pointer (some ⟨g, 0, none⟩)) rfl (rg_w0 rfl) (by simp [execOp, Act.eval, go_sem, e0]) (RelC.refl _ _ _ _ _) rfl rfl
      · -- 2
        have e1 : a'.tmps.getD 49 undef = .pointer (some ⟨g, 0, none⟩) := (rg_dep (hd 1 (by decide)) (by kernel_rfl) : ofFL (fl6t g r a0 a1 a2 a3 a4 a5 a6 a7 a8 a9 a10 a11 a12 a13 a14 a15 a16 c s1 s2 s3 more p1 p2 p3 gv stv n m K L) 1 (a'.tmps.getD 49 undef) w')
        exact rh_val (v := .pointer (some ⟨g, 0, none⟩)) rfl (rg_w0 rfl) (by simp [execOp, Act.eval, go_sem, e1]) (RelC.refl _ _ _ _ _) rfl rfl
      · -- 3
        have e2 : a'.tmps.getD 50 undef = .pointer (some ⟨g, 0, none⟩) := (rg_dep (hd 2 (by decide)) (by kernel_rfl) : ofFL (fl6t g r a0 a1 a2 a3 a4 a5 a6 a7 a8 a9 a10 a11 a12 a13 a14 a15 a16 c s1 s2 s3 more p1 p2 p3 gv stv n m K L) 2 (a'.tmps.getD 50 undef) w')
        have q := hM.blk bE2 ne
        have q := lA _ q
        exact rh_val (v := .agg (a17 a0 a1 a2 a3 a4 a5 a6 a7 a8 a9 a10 a11 a12 a13 a14 a15 a16)) rfl (rg_w0 rfl) (by simp [execOp, Act.eval, go_sem, e2, q]) (RelC.refl _ _ _ _ _) rfl rfl
      · -- 4
        exact rh_val rfl (rg_w0 rfl) rfl (RelC.refl _ _ _ _ _) rfl bb6
      · -- 5
        have e4 : a'.tmps.getD 52 undef = .pointer (some ⟨g, 0, none⟩) := (rg_dep (hd 4 (by decide)) (by kernel_rfl) : ofFL (fl6t g r a0 a1 a2 a3 a4 a5 a6 a7 a8 a9 a10 a11 a12 a13 a14 a15 a16 c s1 s2 s3 more p1 p2 p3 gv stv n m K L) 4 (a'.tmps.getD 52 undef) w')
        exact rh_val (v := .pointer (some ⟨g, 0, none⟩)) rfl (rg_w0 rfl) (by simp [execOp, Act.eval, go_sem, e4]) (RelC.refl _ _ _ _ _) rfl rfl
      · -- 6
        have e5 : a'.tmps.getD 53 undef = .pointer (some ⟨g, 0, none⟩) := (rg_dep (hd 5 (by decide)) (by kernel_rfl) : ofFL (fl6t g r a0 a1 a2 a3 a4 a5 a6 a7 a8 a9 a10 a11 a12 a13 a14 a15 a16 c s1 s2 s3 more p1 p2 p3 gv stv n m K L) 5 (a'.tmps.getD 53 undef) w')
        exact rh_val (v := .pointer (some ⟨g, 17, none⟩)) rfl (rg_w0 rfl) (by simp [execOp, Act.eval, go_sem, e5]) (RelC.refl _ _ _ _ _) rfl rfl
      · -- 7
        have e6 : a'.tmps.getD 54 undef = .pointer (some ⟨g, 17, none⟩) := (rg_dep (hd 6 (by decide)) (by kernel_rfl) : ofFL (fl6t g r a0 a1 a2 a3 a4 a5 a6 a7 a8 a9 a10 a11 a12 a13 a14 a15 a16 c s1 s2 s3 more p1 p2 p3 gv stv n m K L) 6 (a'.tmps.getD 54 undef) w')
        have q := hM.blk bE2 ne
        have q := lC _ q
        exact rh_val (v := .agg (c9 c)) rfl (rg_w0 rfl) (by simp [execOp, Act.eval, go_sem, e6, q]) (RelC.refl _ _ _ _ _) rfl rfl
      · -- 8
        exact rh_val rfl (rg_w0 rfl) rfl (RelC.refl _ _ _ _ _) rfl bb6
      · -- 9
        have e8 : a'.tmps.getD 56 undef = .pointer (some ⟨g, 0, none⟩) := (rg_dep (hd 8 (by decide)) (by kernel_rfl) : ofFL (fl6t g r a0 a1 a2 a3 a4 a5 a6 a7 a8 a9 a10 a11 a12 a13 a14 a15 a16 c s1 s2 s3 more p1 p2 p3 gv stv n m K L) 8 (a'.tmps.getD 56 undef) w')
        exact rh_val (v := .pointer (some ⟨g, 0, none⟩)) rfl (rg_w0 rfl) (by simp [execOp, Act.eval, go_sem, e8]) (RelC.refl _ _ _ _ _) rfl rfl
      · -- 10
        have e9 : a'.tmps.getD 57 undef = .pointer (some ⟨g, 0, none⟩) := (rg_dep (hd 9 (by decide)) (by kernel_rfl) : ofFL (fl6t g r a0 a1 a2 a3 a4 a5 a6 a7 a8 a9 a10 a11 a12 a13 a14 a15 a16 c s1 s2 s3 more p1 p2 p3 gv stv n m K L) 9 (a'.tmps.getD 57 undef) w')
        exact rh_val (v := .pointer (some ⟨g, 26, none⟩)) rfl (rg_w0 rfl) (by simp [execOp, Act.eval, go_sem, e9]) (RelC.refl _ _ _ _ _) rfl rfl
      · -- 11
        have e10 : a'.tmps.getD 58 undef = .pointer (some ⟨g, 26, none⟩) := (rg_dep (hd 10 (by decide)) (by kernel_rfl) : ofFL (fl6t g r a0 a1 a2 a3 a4 a5 a6 a7 a8 a9 a10 a11 a12 a13 a14 a15 a16 c s1 s2 s3 more p1 p2 p3 gv stv n m K L) 10 (a'.tmps.getD 58 undef) w')
        exact rh_val (v := .pointer (some ⟨g, 26, none⟩)) rfl (rg_w0 rfl) (by simp [execOp, Act.eval, go_sem, e10]) (RelC.refl _ _ _ _ _) rfl rfl
      · -- 12
        have e11 : a'.tmps.getD 59 undef = .pointer (some ⟨g, 26, none⟩) := (rg_dep (hd 11 (by decide)) (by kernel_rfl) : ofFL (fl6t g r a0 a1 a2 a3 a4 a5 a6 a7 a8 a9 a10 a11 a12 a13 a14 a15 a16 c s1 s2 s3 more p1 p2 p3 gv stv n m K L) 11 (a'.tmps.getD 59 undef) w')
        have q := hM.blk bE2 ne
        exact rh_val (v := ptrS p1) rfl (rg_w0 rfl) (by simp [execOp, Act.eval, go_sem, e11, y0]) (RelC.refl _ _ _ _ _) rfl rfl
      · -- 13
        have e12 : a'.tmps.getD 60 undef = ptrS p1 := (rg_dep (hd 12 (by decide)) (by kernel_rfl) : ofFL (fl6t g r a0 a1 a2 a3 a4 a5 a6 a7 a8 a9 a10 a11 a12 a13 a14 a15 a16 c s1 s2 s3 more p1 p2 p3 gv stv n m K L) 12 (a'.tmps.getD 60 undef) w')
        have NN : Mo W w' := hM.k.mo N2 fun k _ e => by rw [e]; exact Nat.le_of_eq HR.out
        refine rh_call rfl (rg_w0 rfl) (by simp [execOp, Act.eval, go_sem, e12]) ((H1.out _ NN).mono ?_)
        rintro e wz ⟨rfl, M9⟩
        exact ⟨_, rfl, RelC.mo (P6_keep r (a17 a0 a1 a2 a3 a4 a5 a6 a7 a8 a9 a10 a11 a12 a13 a14 a15 a16) c s1 s2 s3 more n m K L) M9, rfl⟩
      · -- 14
        exact rh_val rfl (rg_w0 rfl) rfl (RelC.refl _ _ _ _ _) rfl bb6
      · -- 15
        have e14 : a'.tmps.getD 62 undef = .pointer (some ⟨g, 0, none⟩) := (rg_dep (hd 14 (by decide)) (by kernel_rfl) : ofFL (fl6t g r a0 a1 a2 a3 a4 a5 a6 a7 a8 a9 a10 a11 a12 a13 a14 a15 a16 c s1 s2 s3 more p1 p2 p3 gv stv n m K L) 14 (a'.tmps.getD 62 undef) w')
        exact rh_val (v := .pointer (some ⟨g, 0, none⟩)) rfl (rg_w0 rfl) (by simp [execOp, Act.eval, go_sem, e14]) (RelC.refl _ _ _ _ _) rfl rfl
      · -- 16
        have e15 : a'.tmps.getD 63 undef = .pointer (some ⟨g, 0, none⟩) := (rg_dep (hd 15 (by decide)) (by kernel_rfl) : ofFL (fl6t g r a0 a1 a2 a3 a4 a5 a6 a7 a8 a9 a10 a11 a12 a13 a14 a15 a16 c s1 s2 s3 more p1 p2 p3 gv stv n m K L) 15 (a'.tmps.getD 63 undef) w')
        exact rh_val (v := .pointer (some ⟨g, 26, none⟩)) rfl (rg_w0 rfl) (by simp [execOp, Act.eval, go_sem, e15]) (RelC.refl _ _ _ _ _) rfl rfl
      · -- 17
        have e16 : a'.tmps.getD 64 undef = .pointer (some ⟨g, 26, none⟩) := (rg_dep (hd 16 (by decide)) (by kernel_rfl) : ofFL (fl6t g r a0 a1 a2 a3 a4 a5 a6 a7 a8 a9 a10 a11 a12 a13 a14 a15 a16 c s1 s2 s3 more p1 p2 p3 gv stv n m K L) 16 (a'.tmps.getD 64 undef) w')
        exact rh_val (v := .pointer (some ⟨g, 27, none⟩)) rfl (rg_w0 rfl) (by simp [execOp, Act.eval, go_sem, e16]) (RelC.refl _ _ _ _ _) rfl rfl
      · -- 18
        have e17 : a'.tmps.getD 65 undef = .pointer (some ⟨g, 27, none⟩) := (rg_dep (hd 17 (by decide)) (by kernel_rfl) : ofFL (fl6t g r a0 a1 a2 a3 a4 a5 a6 a7 a8 a9 a10 a11 a12 a13 a14 a15 a16 c s1 s2 s3 more p1 p2 p3 gv stv n m K L) 17 (a'.tmps.getD 65 undef) w')
        have q := hM.blk bE2 ne
        exact rh_val (v := ptrS p2) rfl (rg_w0 rfl) (by simp [execOp, Act.eval, go_sem, e17, y1]) (RelC.refl _ _ _ _ _) rfl rfl
      · -- 19
        have e18 : a'.tmps.getD 66 undef = ptrS p2 := (rg_dep (hd 18 (by decide)) (by kernel_rfl) : ofFL (fl6t g r a0 a1 a2 a3 a4 a5 a6 a7 a8 a9 a10 a11 a12 a13 a14 a15 a16 c s1 s2 s3 more p1 p2 p3 gv stv n m K L) 18 (a'.tmps.getD 66 undef) w')
        have NN : Mo W w' := hM.k.mo N2 fun k _ e => by rw [e]; exact Nat.le_of_eq HR.out
        refine rh_call rfl (rg_w0 rfl) (by simp [execOp, Act.eval, go_sem, e18]) ((H2.out _ NN).mono ?_)
        rintro e wz ⟨rfl, M9⟩
        exact ⟨_, rfl, RelC.mo (P6_keep r (a17 a0 a1 a2 a3 a4 a5 a6 a7 a8 a9 a10 a11 a12 a13 a14 a15 a16) c s1 s2 s3 more n m K L) M9, rfl⟩
      · -- 20
        exact rh_val rfl (rg_w0 rfl) rfl (RelC.refl _ _ _ _ _) rfl bb6
      · -- 21
        have e20 : a'.tmps.getD 68 undef = .pointer (some ⟨g, 0, none⟩) := (rg_dep (hd 20 (by decide)) (by kernel_rfl) : ofFL (fl6t g r a0 a1 a2 a3 a4 a5 a6 a7 a8 a9 a10 a11 a12 a13 a14 a15 a16 c s1 s2 s3 more p1 p2 p3 gv stv n m K L) 20 (a'.tmps.getD 68 undef) w')
        exact rh_val (v := .pointer (some ⟨g, 0, none⟩)) rfl (rg_w0 rfl) (by simp [execOp, Act.eval, go_sem, e20]) (RelC.refl _ _ _ _ _) rfl rfl
      · -- 22
        have e21 : a'.tmps.getD 69 undef = .pointer (some ⟨g, 0, none⟩) := (rg_dep (hd 21 (by decide)) (by kernel_rfl) : ofFL (fl6t g r a0 a1 a2 a3 a4 a5 a6 a7 a8 a9 a10 a11 a12 a13 a14 a15 a16 c s1 s2 s3 more p1 p2 p3 gv stv n m K L) 21 (a'.tmps.getD 69 undef) w')
        exact rh_val (v := .pointer (some ⟨g, 26, none⟩)) rfl (rg_w0 rfl) (by simp [execOp, Act.eval, go_sem, e21]) (RelC.refl _ _ _ _ _) rfl rfl
      · -- 23
        have e22 : a'.tmps.getD 70 undef = .pointer (some ⟨g, 26, none⟩) := (rg_dep (hd 22 (by decide)) (by kernel_rfl) : ofFL (fl6t g r a0 a1 a2 a3 a4 a5 a6 a7 a8 a9 a10 a11 a12 a13 a14 a15 a16 c s1 s2 s3 more p1 p2 p3 gv stv n m K L) 22 (a'.tmps.getD 70 undef) w')
        exact rh_val (v := .pointer (some ⟨g, 28, none⟩)) rfl (rg_w0 rfl) (by simp [execOp, Act.eval, go_sem, e22]) (RelC.refl _ _ _ _ _) rfl rfl
      · -- 24
        have e23 : a'.tmps.getD 71 undef = .pointer (some ⟨g, 28, none⟩) := (rg_dep (hd 23 (by decide)) (by kernel_rfl) : ofFL (fl6t g r a0 a1 a2 a3 a4 a5 a6 a7 a8 a9 a10 a11 a12 a13 a14 a15 a16 c s1 s2 s3 more p1 p2 p3 gv stv n m K L) 23 (a'.tmps.getD 71 undef) w')
        have q := hM.blk bE2 ne
        exact rh_val (v := ptrS p3) rfl (rg_w0 rfl) (by simp [execOp, Act.eval, go_sem, e23, y2]) (RelC.refl _ _ _ _ _) rfl rfl
      · -- 25
        have e24 : a'.tmps.getD 72 undef = ptrS p3 := (rg_dep (hd 24 (by decide)) (by kernel_rfl) : ofFL (fl6t g r a0 a1 a2 a3 a4 a5 a6 a7 a8 a9 a10 a11 a12 a13 a14 a15 a16 c s1 s2 s3 more p1 p2 p3 gv stv n m K L) 24 (a'.tmps.getD 72 undef) w')
        have NN : Mo W w' := hM.k.mo N2 fun k _ e => by rw [e]; exact Nat.le_of_eq HR.out
        refine rh_call rfl (rg_w0 rfl) (by simp [execOp, Act.eval, go_sem, e24]) ((H3.out _ NN).mono ?_)
        rintro e wz ⟨rfl, M9⟩
        exact ⟨_, rfl, RelC.mo (P6_keep r (a17 a0 a1 a2 a3 a4 a5 a6 a7 a8 a9 a10 a11 a12 a13 a14 a15 a16) c s1 s2 s3 more n m K L) M9, rfl⟩
      · -- 26
        exact rh_val rfl (rg_w0 rfl) rfl (RelC.refl _ _ _ _ _) rfl bb6
      · -- 27
        have e26 : a'.tmps.getD 74 undef = .pointer (some ⟨g, 0, none⟩) := (rg_dep (hd 26 (by decide)) (by kernel_rfl) : ofFL (fl6t g r a0 a1 a2 a3 a4 a5 a6 a7 a8 a9 a10 a11 a12 a13 a14 a15 a16 c s1 s2 s3 more p1 p2 p3 gv stv n m K L) 26 (a'.tmps.getD 74 undef) w')
        exact rh_val (v := .pointer (some ⟨g, 0, none⟩)) rfl (rg_w0 rfl) (by simp [execOp, Act.eval, go_sem, e26]) (RelC.refl _ _ _ _ _) rfl rfl
      · -- 28
        have e27 : a'.tmps.getD 75 undef = .pointer (some ⟨g, 0, none⟩) := (rg_dep (hd 27 (by decide)) (by kernel_rfl) : ofFL (fl6t g r a0 a1 a2 a3 a4 a5 a6 a7 a8 a9 a10 a11 a12 a13 a14 a15 a16 c s1 s2 s3 more p1 p2 p3 gv stv n m K L) 27 (a'.tmps.getD 75 undef) w')
        exact rh_val (v := .pointer (some ⟨g, 29, none⟩)) rfl (rg_w0 rfl) (by simp [execOp, Act.eval, go_sem, e27]) (RelC.refl _ _ _ _ _) rfl rfl
      · -- 29
        have e28 : a'.tmps.getD 76 undef = .pointer (some ⟨g, 29, none⟩) := (rg_dep (hd 28 (by decide)) (by kernel_rfl) : ofFL (fl6t g r a0 a1 a2 a3 a4 a5 a6 a7 a8 a9 a10 a11 a12 a13 a14 a15 a16 c s1 s2 s3 more p1 p2 p3 gv stv n m K L) 28 (a'.tmps.getD 76 undef) w')
        have q := hM.blk bE2 ne
        exact rh_val (v := gv) rfl (rg_w0 rfl) (by simp [execOp, Act.eval, go_sem, e28, y3]) (RelC.refl _ _ _ _ _) rfl rfl
      · -- 30
        have e29 : a'.tmps.getD 77 undef = gv := (rg_dep (hd 29 (by decide)) (by kernel_rfl) : ofFL (fl6t g r a0 a1 a2 a3 a4 a5 a6 a7 a8 a9 a10 a11 a12 a13 a14 a15 a16 c s1 s2 s3 more p1 p2 p3 gv stv n m K L) 29 (a'.tmps.getD 77 undef) w')
        have NN : Mo W w' := hM.k.mo N2 fun k _ e => by rw [e]; exact Nat.le_of_eq HR.out
        refine rh_call rfl (rg_w0 rfl) (by simp [execOp, Act.eval, go_sem, e29]) ((HG.out _ NN).mono ?_)
        rintro e wz ⟨v, rfl, o, M9⟩
        have sz : r + 1 ≤ w'.heap.size := Nat.le_trans rlt hM.k.size
        exact ⟨v, rfl, RelC.mo (P6_keep r (a17 a0 a1 a2 a3 a4 a5 a6 a7 a8 a9 a10 a11 a12 a13 a14 a15 a16) c s1 s2 s3 more n m K L) M9, owns_baseS o sz⟩
      · -- 31
        exact rh_val rfl (rg_w0 rfl) rfl (RelC.refl _ _ _ _ _) rfl bb6
      · -- 32
        have e31 : a'.tmps.getD 79 undef = .pointer (some ⟨g, 0, none⟩) := (rg_dep (hd 31 (by decide)) (by kernel_rfl) : ofFL (fl6t g r a0 a1 a2 a3 a4 a5 a6 a7 a8 a9 a10 a11 a12 a13 a14 a15 a16 c s1 s2 s3 more p1 p2 p3 gv stv n m K L) 31 (a'.tmps.getD 79 undef) w')
        exact rh_val (v := .pointer (some ⟨g, 0, none⟩)) rfl (rg_w0 rfl) (by simp [execOp, Act.eval, go_sem, e31]) (RelC.refl _ _ _ _ _) rfl rfl
      · -- 33
        have e32 : a'.tmps.getD 80 undef = .pointer (some ⟨g, 0, none⟩) := (rg_dep (hd 32 (by decide)) (by kernel_rfl) : ofFL (fl6t g r a0 a1 a2 a3 a4 a5 a6 a7 a8 a9 a10 a11 a12 a13 a14 a15 a16 c s1 s2 s3 more p1 p2 p3 gv stv n m K L) 32 (a'.tmps.getD 80 undef) w')
        exact rh_val (v := .pointer (some ⟨g, 31, none⟩)) rfl (rg_w0 rfl) (by simp [execOp, Act.eval, go_sem, e32]) (RelC.refl _ _ _ _ _) rfl rfl
      · -- 34
        have e33 : a'.tmps.getD 81 undef = .pointer (some ⟨g, 31, none⟩) := (rg_dep (hd 33 (by decide)) (by kernel_rfl) : ofFL (fl6t g r a0 a1 a2 a3 a4 a5 a6 a7 a8 a9 a10 a11 a12 a13 a14 a15 a16 c s1 s2 s3 more p1 p2 p3 gv stv n m K L) 33 (a'.tmps.getD 81 undef) w')
        have q := hM.blk bE2 ne
        exact rh_val (v := stv) rfl (rg_w0 rfl) (by simp [execOp, Act.eval, go_sem, e33, y5]) (RelC.refl _ _ _ _ _) rfl rfl
      · -- 35
        have e34 : a'.tmps.getD 82 undef = stv := (rg_dep (hd 34 (by decide)) (by kernel_rfl) : ofFL (fl6t g r a0 a1 a2 a3 a4 a5 a6 a7 a8 a9 a10 a11 a12 a13 a14 a15 a16 c s1 s2 s3 more p1 p2 p3 gv stv n m K L) 34 (a'.tmps.getD 82 undef) w')
        have NN : Mo W w' := hM.k.mo N2 fun k _ e => by rw [e]; exact Nat.le_of_eq HR.out
        refine rh_call rfl (rg_w0 rfl) (by simp [execOp, Act.eval, go_sem, e34]) ((HC.out _ NN).mono ?_)
        rintro e wz ⟨v, rfl, o, M9⟩
        have sz : r + 1 ≤ w'.heap.size := Nat.le_trans rlt hM.k.size
        exact ⟨v, rfl, RelC.mo (P6_keep r (a17 a0 a1 a2 a3 a4 a5 a6 a7 a8 a9 a10 a11 a12 a13 a14 a15 a16) c s1 s2 s3 more n m K L) M9, owns_baseS o sz⟩
      · -- 36
        exact rh_val rfl (rg_w0 rfl) rfl (RelC.refl _ _ _ _ _) rfl bb6
      · -- 37
        have e36 : a'.tmps.getD 84 undef = .pointer (some ⟨g, 0, none⟩) := (rg_dep (hd 36 (by decide)) (by kernel_rfl) : ofFL (fl6t g r a0 a1 a2 a3 a4 a5 a6 a7 a8 a9 a10 a11 a12 a13 a14 a15 a16 c s1 s2 s3 more p1 p2 p3 gv stv n m K L) 36 (a'.tmps.getD 84 undef) w')
        exact rh_val (v := .pointer (some ⟨g, 0, none⟩)) rfl (rg_w0 rfl) (by simp [execOp, Act.eval, go_sem, e36]) (RelC.refl _ _ _ _ _) rfl rfl
      · -- 38
        have e37 : a'.tmps.getD 85 undef = .pointer (some ⟨g, 0, none⟩) := (rg_dep (hd 37 (by decide)) (by kernel_rfl) : ofFL (fl6t g r a0 a1 a2 a3 a4 a5 a6 a7 a8 a9 a10 a11 a12 a13 a14 a15 a16 c s1 s2 s3 more p1 p2 p3 gv stv n m K L) 37 (a'.tmps.getD 85 undef) w')
        exact rh_val (v := .pointer (some ⟨g, 32, none⟩)) rfl (rg_w0 rfl) (by simp [execOp, Act.eval, go_sem, e37]) (RelC.refl _ _ _ _ _) rfl rfl
      · -- 39
        have e38 : a'.tmps.getD 86 undef = .pointer (some ⟨g, 32, none⟩) := (rg_dep (hd 38 (by decide)) (by kernel_rfl) : ofFL (fl6t g r a0 a1 a2 a3 a4 a5 a6 a7 a8 a9 a10 a11 a12 a13 a14 a15 a16 c s1 s2 s3 more p1 p2 p3 gv stv n m K L) 38 (a'.tmps.getD 86 undef) w')
        have q := hM.blk bE2 ne
        exact rh_val (v := .int .i64 (more : Nat)) rfl (rg_w0 rfl) (by simp [execOp, Act.eval, go_sem, e38, y6]) (RelC.refl _ _ _ _ _) rfl rfl
      · -- 40
        have e3 : a'.tmps.getD 51 undef = .agg (a17 a0 a1 a2 a3 a4 a5 a6 a7 a8 a9 a10 a11 a12 a13 a14 a15 a16) := (rg_dep (hd 3 (by decide)) (by kernel_rfl) : ofFL (fl6t g r a0 a1 a2 a3 a4 a5 a6 a7 a8 a9 a10 a11 a12 a13 a14 a15 a16 c s1 s2 s3 more p1 p2 p3 gv stv n m K L) 3 (a'.tmps.getD 51 undef) w')
        have e7 : a'.tmps.getD 55 undef = .agg (c9 c) := (rg_dep (hd 7 (by decide)) (by kernel_rfl) : ofFL (fl6t g r a0 a1 a2 a3 a4 a5 a6 a7 a8 a9 a10 a11 a12 a13 a14 a15 a16 c s1 s2 s3 more p1 p2 p3 gv stv n m K L) 7 (a'.tmps.getD 55 undef) w')
        have e13 : a'.tmps.getD 61 undef = .agg (totV s1) := (rg_dep (hd 13 (by decide)) (by kernel_rfl) : ofFL (fl6t g r a0 a1 a2 a3 a4 a5 a6 a7 a8 a9 a10 a11 a12 a13 a14 a15 a16 c s1 s2 s3 more p1 p2 p3 gv stv n m K L) 13 (a'.tmps.getD 61 undef) w')
        have e19 : a'.tmps.getD 67 undef = .agg (totV s2) := (rg_dep (hd 19 (by decide)) (by kernel_rfl) : ofFL (fl6t g r a0 a1 a2 a3 a4 a5 a6 a7 a8 a9 a10 a11 a12 a13 a14 a15 a16 c s1 s2 s3 more p1 p2 p3 gv stv n m K L) 19 (a'.tmps.getD 67 undef) w')
        have e25 : a'.tmps.getD 73 undef = .agg (totV s3) := (rg_dep (hd 25 (by decide)) (by kernel_rfl) : ofFL (fl6t g r a0 a1 a2 a3 a4 a5 a6 a7 a8 a9 a10 a11 a12 a13 a14 a15 a16 c s1 s2 s3 more p1 p2 p3 gv stv n m K L) 25 (a'.tmps.getD 73 undef) w')
        obtain hF1 := (rg_dep (hd 30 (by decide)) (by kernel_rfl) : ofFL (fl6t g r a0 a1 a2 a3 a4 a5 a6 a7 a8 a9 a10 a11 a12 a13 a14 a15 a16 c s1 s2 s3 more p1 p2 p3 gv stv n m K L) 30 (a'.tmps.getD 78 undef) w')
        obtain hF2 := (rg_dep (hd 35 (by decide)) (by kernel_rfl) : ofFL (fl6t g r a0 a1 a2 a3 a4 a5 a6 a7 a8 a9 a10 a11 a12 a13 a14 a15 a16 c s1 s2 s3 more p1 p2 p3 gv stv n m K L) 35 (a'.tmps.getD 83 undef) w')
        have e39 : a'.tmps.getD 87 undef = .int .i64 (more : Nat) := (rg_dep (hd 39 (by decide)) (by kernel_rfl) : ofFL (fl6t g r a0 a1 a2 a3 a4 a5 a6 a7 a8 a9 a10 a11 a12 a13 a14 a15 a16 c s1 s2 s3 more p1 p2 p3 gv stv n m K L) 39 (a'.tmps.getD 87 undef) w')
        obtain ⟨A7, q7, e78⟩ := own_slS hF1
        obtain ⟨B8, q8, e83⟩ := own_slS hF2
        rw [e78] at hF1
        rw [e83] at hF2
        rw [Array.getD_eq_getD_getElem?] at e3 e7 e13 e19 e25 e39 e78 e83
        exact rh_val (v := .agg (srvC (a17 a0 a1 a2 a3 a4 a5 a6 a7 a8 a9 a10 a11 a12 a13 a14 a15 a16) c s1 s2 s3 (.slice A7 n q7) (.slice B8 m q8) more)) rfl (rg_w0 rfl) (by simp [execOp, Act.eval, go_sem, e3, e7, e13, e19, e25, e39, e78, e83]) (RelC.refl _ _ _ _ _) rfl ⟨_, _, rfl, hF1, hF2⟩
      · -- 41
        obtain ⟨tv, sv9, e88, o1, o2⟩ := (rg_dep (hd 40 (by decide)) (by kernel_rfl) : ofFL (fl6t g r a0 a1 a2 a3 a4 a5 a6 a7 a8 a9 a10 a11 a12 a13 a14 a15 a16 c s1 s2 s3 more p1 p2 p3 gv stv n m K L) 40 (a'.tmps.getD 88 undef) w')
        obtain ⟨cs, bq, hcs⟩ := hM.b br0
        have iz : SzA cs 47 := ⟨hcs⟩
        have iy : SzA (srvC (a17 a0 a1 a2 a3 a4 a5 a6 a7 a8 a9 a10 a11 a12 a13 a14 a15 a16) c s1 s2 s3 tv sv9 more) 47 := ⟨srvC_size rfl c s1 s2 s3 _ _ more⟩
        have io : OneA (srvC (a17 a0 a1 a2 a3 a4 a5 a6 a7 a8 a9 a10 a11 a12 a13 a14 a15 a16) c s1 s2 s3 tv sv9 more) := srvC_one HONE.out c s1 s2 s3 (own_one o1) (own_one o2) more
        have hP : (P6 r (a17 a0 a1 a2 a3 a4 a5 a6 a7 a8 a9 a10 a11 a12 a13 a14 a15 a16) c s1 s2 s3 more n m K L) (srvC (a17 a0 a1 a2 a3 a4 a5 a6 a7 a8 a9 a10 a11 a12 a13 a14 a15 a16) c s1 s2 s3 tv sv9 more) w' := ⟨tv, sv9, rfl, o1, o2⟩
        exact rh_unit (w2 := w'.setRow r (srvC (a17 a0 a1 a2 a3 a4 a5 a6 a7 a8 a9 a10 a11 a12 a13 a14 a15 a16) c s1 s2 s3 tv sv9 more)) rfl (rg_w0 rfl) (by simp [execOp, Act.eval, go_sem, e88, bb4]) (RelC.row (P6_keep r (a17 a0 a1 a2 a3 a4 a5 a6 a7 a8 a9 a10 a11 a12 a13 a14 a15 a16) c s1 s2 s3 more n m K L) bq _ (srvC_size rfl c s1 s2 s3 _ _ more) hP) rfl ⟨_, blk_setRow bq, (P6_keep r (a17 a0 a1 a2 a3 a4 a5 a6 a7 a8 a9 a10 a11 a12 a13 a14 a15 a16) c s1 s2 s3 more n m K L) _ _ _ hP (kpS_setRow w' r _ rfl)⟩
      · -- 42
        exact rh_val (v := .bool true) rfl (rg_w0 rfl) (by simp [execOp, Act.eval, go_sem]) (RelC.refl _ _ _ _ _) rfl rfl
    · intro a' w' hI
      have hsz : a'.tmps.size = 89 := hI.asz
      have hdf : a'.defers = [] := hI.df
      have hbs := hI.base
      have e5 : a'.tmps.getD 5 undef = .bool true := (rg_dep (hI.val 42 (of_decide_eq_true (by kernel_rfl)) (by kernel_rfl)) (by kernel_rfl) : ofFL (fl6t g r a0 a1 a2 a3 a4 a5 a6 a7 a8 a9 a10 a11 a12 a13 a14 a15 a16 c s1 s2 s3 more p1 p2 p3 gv stv n m K L) 42 (a'.tmps.getD 5 undef) w')
      obtain ⟨cs9, b3, tv, sv9, rfl, o1, o2⟩ := (hI.val 41 (of_decide_eq_true (by kernel_rfl)) (by kernel_rfl) : ofFL (fl6t g r a0 a1 a2 a3 a4 a5 a6 a7 a8 a9 a10 a11 a12 a13 a14 a15 a16 c s1 s2 s3 more p1 p2 p3 gv stv n m K L) 41 undef w')
      refine hK a' w' (Met.intro (hJ a' w' ⟨a'.tmps.getD 5 undef, a'.tmps.getD 7 undef, a'.tmps.getD 8 undef, a'.tmps.getD 9 undef, a'.tmps.getD 10 undef, a'.tmps.getD 11 undef, a'.tmps.getD 12 undef, a'.tmps.getD 13 undef, a'.tmps.getD 14 undef, a'.tmps.getD 15 undef, a'.tmps.getD 16 undef, a'.tmps.getD 17 undef, a'.tmps.getD 18 undef, a'.tmps.getD 19 undef, a'.tmps.getD 20 undef, a'.tmps.getD 21 undef, a'.tmps.getD 22 undef, a'.tmps.getD 23 undef, a'.tmps.getD 24 undef, a'.tmps.getD 25 undef, a'.tmps.getD 26 undef, a'.tmps.getD 27 undef, a'.tmps.getD 28 undef, a'.tmps.getD 29 undef, a'.tmps.getD 30 undef, a'.tmps.getD 31 undef, a'.tmps.getD 32 undef, a'.tmps.getD 33 undef, a'.tmps.getD 34 undef, a'.tmps.getD 35 undef, a'.tmps.getD 36 undef, a'.tmps.getD 37 undef, a'.tmps.getD 38 undef, a'.tmps.getD 39 undef, a'.tmps.getD 40 undef, a'.tmps.getD 41 undef, a'.tmps.getD 42 undef, a'.tmps.getD 43 undef, a'.tmps.getD 44 undef, a'.tmps.getD 45 undef, a'.tmps.getD 46 undef, a'.tmps.getD 47 undef, a'.tmps.getD 48 undef, a'.tmps.getD 49 undef, a'.tmps.getD 50 undef, a'.tmps.getD 51 undef, a'.tmps.getD 52 undef, a'.tmps.getD 53 undef, a'.tmps.getD 54 undef, a'.tmps.getD 55 undef, a'.tmps.getD 56 undef, a'.tmps.getD 57 undef, a'.tmps.getD 58 undef, a'.tmps.getD 59 undef, a'.tmps.getD 60 undef, a'.tmps.getD 61 undef, a'.tmps.getD 62 undef, a'.tmps.getD 63 undef, a'.tmps.getD 64 undef, a'.tmps.getD 65 undef, a'.tmps.getD 66 undef, a'.tmps.getD 67 undef, a'.tmps.getD 68 undef, a'.tmps.getD 69 undef, a'.tmps.getD 70 undef, a'.tmps.getD 71 undef, a'.tmps.getD 72 undef, a'.tmps.getD 73 undef, a'.tmps.getD 74 undef, a'.tmps.getD 75 undef, a'.tmps.getD 76 undef, a'.tmps.getD 77 undef, a'.tmps.getD 78 undef, a'.tmps.getD 79 undef, a'.tmps.getD 80 undef, a'.tmps.getD 81 undef, a'.tmps.getD 82 undef, a'.tmps.getD 83 undef, a'.tmps.getD 84 undef, a'.tmps.getD 85 undef, a'.tmps.getD 86 undef, a'.tmps.getD 87 undef, a'.tmps.getD 88 undef, ⟨e5, tv, sv9, b3, o1, o2, hI.mo⟩, ?_⟩))
      refine act_eqG hdf (arr_eqG hsz ?_)
      intro i hi
      have hi' : i < 89 := hi
      clear hI hi hsz hdf
      rcases (show i = 0 ∨ i = 1 ∨ i = 2 ∨ i = 3 ∨ i = 4 ∨ i = 5 ∨ i = 6 ∨ i = 7 ∨ i = 8 ∨ i = 9 ∨ i = 10 ∨ i = 11 ∨ i = 12 ∨ i = 13 ∨ i = 14 ∨ i = 15 ∨ i = 16 ∨ i = 17 ∨ i = 18 ∨ i = 19 ∨ i = 20 ∨ i = 21 ∨ i = 22 ∨ i = 23 ∨ i = 24 ∨ i = 25 ∨ i = 26 ∨ i = 27 ∨ i = 28 ∨ i = 29 ∨ i = 30 ∨ i = 31 ∨ i = 32 ∨ i = 33 ∨ i = 34 ∨ i = 35 ∨ i = 36 ∨ i = 37 ∨ i = 38 ∨ i = 39 ∨ i = 40 ∨ i = 41 ∨ i = 42 ∨ i = 43 ∨ i = 44 ∨ i = 45 ∨ i = 46 ∨ i = 47 ∨ i = 48 ∨ i = 49 ∨ i = 50 ∨ i = 51 ∨ i = 52 ∨ i = 53 ∨ i = 54 ∨ i = 55 ∨ i = 56 ∨ i = 57 ∨ i = 58 ∨ i = 59 ∨ i = 60 ∨ i = 61 ∨ i = 62 ∨ i = 63 ∨ i = 64 ∨ i = 65 ∨ i = 66 ∨ i = 67 ∨ i = 68 ∨ i = 69 ∨ i = 70 ∨ i = 71 ∨ i = 72 ∨ i = 73 ∨ i = 74 ∨ i = 75 ∨ i = 76 ∨ i = 77 ∨ i = 78 ∨ i = 79 ∨ i = 80 ∨ i = 81 ∨ i = 82 ∨ i = 83 ∨ i = 84 ∨ i = 85 ∨ i = 86 ∨ i = 87 ∨ i = 88 by omega) with rfl | rfl | rfl | rfl | rfl | rfl | rfl | rfl | rfl | rfl | rfl | rfl | rfl | rfl | rfl | rfl | rfl | rfl | rfl | rfl | rfl | rfl | rfl | rfl | rfl | rfl | rfl | rfl | rfl | rfl | rfl | rfl | rfl | rfl | rfl | rfl | rfl | rfl | rfl | rfl | rfl | rfl | rfl | rfl | rfl | rfl | rfl | rfl | rfl | rfl | rfl | rfl | rfl | rfl | rfl | rfl | rfl | rfl | rfl | rfl | rfl | rfl | rfl | rfl | rfl | rfl | rfl | rfl | rfl | rfl | rfl | rfl | rfl | rfl | rfl | rfl | rfl | rfl | rfl | rfl | rfl | rfl | rfl | rfl | rfl | rfl | rfl | rfl | rfl
      · exact (hbs 0 (rg_free (by kernel_rfl))).trans rfl
      · exact (hbs 1 (rg_free (by kernel_rfl))).trans rfl
      · exact (hbs 2 (rg_free (by kernel_rfl))).trans rfl
      · exact (hbs 3 (rg_free (by kernel_rfl))).trans rfl
      · exact (hbs 4 (rg_free (by kernel_rfl))).trans rfl
      · rfl
      · exact (hbs 6 (rg_free (by kernel_rfl))).trans rfl
      · rfl
      · rfl
      · rfl
      · rfl
      · rfl
      · rfl
      · rfl
      · rfl
      · rfl
      · rfl
      · rfl
      · rfl
      · rfl
      · rfl
      · rfl
      · rfl
      · rfl
      · rfl
      · rfl
      · rfl
      · rfl
      · rfl
      · rfl
      · rfl
      · rfl
      · rfl
      · rfl
      · rfl
      · rfl
      · rfl
      · rfl
      · rfl
      · rfl
      · rfl
      · rfl
      · rfl
      · rfl
      · rfl
      · rfl
      · rfl
      · rfl
      · rfl
      · rfl
      · rfl
      · rfl
      · rfl
      · rfl
      · rfl
      · rfl
      · rfl
      · rfl
      · rfl
      · rfl
      · rfl
      · rfl
      · rfl
      · rfl
      · rfl
      · rfl
      · rfl
      · rfl
      · rfl
      · rfl
      · rfl
      · rfl
      · rfl
      · rfl
      · rfl
      · rfl
      · rfl
      · rfl
      · rfl
      · rfl
      · rfl
      · rfl
      · rfl
      · rfl
      · rfl
      · rfl
      · rfl
      · rfl
      · rfl
  obtain ⟨rfl, tv, sv', b3, o1, o2, K3⟩ := hcut
  rename World => w3
  --@@ ret
  go_wp2_with fail
  refine ret_cell_tmp rfl r (.agg (srvC (a17 a0 a1 a2 a3 a4 a5 a6 a7 a8 a9 a10 a11 a12 a13 a14 a15 a16) c s1 s2 s3 tv sv' more)) rfl rfl (loadVar_flat 62 b3 (srvC_size rfl c s1 s2 s3 tv sv' more)) ?_
  rw [← RR.out]
  exact ⟨tv, sv', rfl, o1, o2, K3.k.mo N2 fun k _ e => by rw [e]; exact Nat.le_of_eq HR.out⟩
end Go.Proofs.Ythgkhllkhhnlpaa
