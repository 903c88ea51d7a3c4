/- server: of. -/
import Derived.Test.YthgkhllkhhnlpaaSvD
namespace Go.Proofs.Ythgkhllkhhnlpaa
open Go.RowKit Go.Maps

set_option maxRecDepth 20000 in
theorem own_cellE {w : World} {b T g n c : Nat} {xs : List Value} (h : w.ownsRow b T 1 (.slice (some ⟨g, 0, none⟩) n c) n xs) {i : Nat} {u : Value} (hi : xs[i]? = some u) : w.cell? ⟨g, i, none⟩ = some u ∧ w.frozen? ⟨g, i, none⟩ = false := by
  rcases h.2 with ⟨e, _⟩ | ⟨g', cap, cur, e, hb, hg, h3, h4, h5, h6⟩
  · cases e
  · injection e with e1 e2 e3
    injection e1 with e1
    injection e1 with e1
    subst e1
    have B : Blk w g T cur := ⟨hg⟩
    refine ⟨?_, blk_frozen B i⟩
    have lt := (List.getElem?_eq_some_iff.1 hi).1
    rw [blk_cell B, ← Array.getElem?_toList]
    rw [← h6, List.getElem?_take_of_lt (by have := h.1; omega)] at hi
    exact hi
set_option maxRecDepth 20000 in
theorem own_adrE {w : World} {b T s n c : Nat} {A : Option Addr} {xs : List Value} (h : w.ownsRow b T s (.slice A n c) n xs) (h0 : 0 < n) : ∃ g, A = some ⟨g, 0, none⟩ := by
  rcases h.2 with ⟨_, e⟩ | ⟨g, cap, cur, hv, _⟩
  · omega
  · injection hv with e
    exact ⟨g, e⟩
attribute [local go_sem] blk_cell' blk_frozen'
attribute [local go_sem ↓] loadF_addr storeF_addr
attribute [local go_sem] run_loadF0 run_storeF0
set_option maxRecDepth 20000 in
set_option maxHeartbeats 8000000 in
/-- a server that is there -/
theorem tof_yes {W : World} {T B b : Nat} {C : CfgS} {o w : Nat} {lv : Value} {gs : List Nat} {Fs : List (List Nat)} {go : Nat} {Fo : List Nat} {es : List Ent} {ot : Ent} {n : Nat} (h : TabIs W T B b C o w lv gs Fs go Fo es ot n) (a : Array Value) (ha : AdrP a) (hz : a.size = 17) (i g : Nat) (hi : (es.map (·.a))[i]? = some a) (hg : gs[i]? = some g) :
    Calls Try.prog 30 #[ptrS T, .agg a] W fun e w' => e = .returned (.tuple #[.int .i64 (i : Nat), ptrS g]) ∧ Mo W w' := by
  have bT := h.t
  have iz : SzA a 17 := ⟨hz⟩
  have HN := Lib.hid h.num
  obtain ⟨A, c, elv⟩ := own_slS h.row
  subst elv
  have il : i < gs.length := (List.getElem?_eq_some_iff.1 hg).1
  obtain ⟨gL, eA⟩ := own_adrE h.row (by omega)
  subst eA
  have y := (own_cellE h.row (show (gs.map ptrS)[i]? = some (ptrS g) by rw [List.getElem?_map, hg]; rfl)).1
  have z : LtW gL W := LtW.of_cell y
  have lk := fun w (m : Mo W w) => (HN.out.mo m).yes hi ha
  have e0 : (0 : Int) ≤ i := by omega
  have e1 : (i : Int) < gs.length := by omega
  generalize gs.length = nl at *
  clear h hi hg hz ha
  go_enter Try.func30, Try.ntmps30
  --@@ r1
  go_upto_region 1 with (fail)
  refine wp_name ?_
  intro w1 hw1
  have b3 : Blk w1 W.heap.size 35 a := by rw [hw1]; infer_instance
  have M1 : Mo W w1 := by rw [hw1]; exact Mor.out
  have bT1 := M1.blk bT
  have y1 : w1.cell? ⟨gL, i, none⟩ = some (ptrS g) := by rw [M1.cell]; exact y
  have z1 : LtW gL w1 := LtW.of_cell y1
  have lks := fun J d => lk (more w1 J d) (M1.trans Mor.out)
  generalize W.heap.size = g3 at *
  clear hw1 y z bT
  first | (refine wp_region_mo (by kernel_rfl) (by kernel_rfl) ?_) | (refine wp_region_mo' (by kernel_rfl) (by kernel_rfl) ?_)
  repeat (go_big_quiet_step (fail))
  refine wpQuiet_nil ?_
  intro _ hw'
  obtain ⟨⟨J9, d9⟩, hw''⟩ := hw'
  subst hw''
  --@@ r3
  go_upto_region 3 with (fail)
  first | (refine wp_region_mo (by kernel_rfl) (by kernel_rfl) ?_) | (refine wp_region_mo' (by kernel_rfl) (by kernel_rfl) ?_)
  repeat (go_big_quiet_step (fail))
  refine wpQuiet_nil ?_
  intro _ hw'
  obtain ⟨⟨J8, d8⟩, hw''⟩ := hw'
  subst hw''
  --@@ ret
  go_wp2_with fail
  go_ret2
  exact ⟨rfl, M1.trans Mor.out⟩
set_option maxRecDepth 20000 in
set_option maxHeartbeats 8000000 in
/-- there is no room for it -/
theorem tof_full {W : World} {T B b : Nat} {C : CfgS} {o w : Nat} {lv : Value} {gs : List Nat} {Fs : List (List Nat)} {go : Nat} {Fo : List Nat} {es : List Ent} {ot : Ent} {n : Nat} (h : TabIs W T B b C o w lv gs Fs go Fo es ot n) (a : Array Value) (ha : AdrP a) (hz : a.size = 17) (hn : a ∉ es.map (·.a)) (ok : ∀ q ∈ es.map (·.a), AdrP q) (hf : C.sv ≤ es.length) :
    Calls Try.prog 30 #[ptrS T, .agg a] W fun e w' => e = .returned (.tuple #[.int .i64 (-1), ptrS go]) ∧ Mo W w' := by
  have bT := h.t
  have iz : SzA a 17 := ⟨hz⟩
  have HN := Lib.hid h.num
  obtain ⟨A, c, elv⟩ := own_slS h.row
  subst elv
  have lk := fun w (m : Mo W w) => (HN.out.mo m).no ha ok hn
  have lg := h.lg
  have d1 : decide (C.sv ≤ (gs.length : Nat)) = true := decide_eq_true (by omega)
  generalize gs.length = nl at *
  clear h hn ok hz ha hf lg
  go_enter Try.func30, Try.ntmps30
  --@@ r1
  go_upto_region 1 with (fail)
  refine wp_name ?_
  intro w1 hw1
  have b3 : Blk w1 W.heap.size 35 a := by rw [hw1]; infer_instance
  have M1 : Mo W w1 := by rw [hw1]; exact Mor.out
  have bT1 := M1.blk bT
  have lks := fun J d => lk (more w1 J d) (M1.trans Mor.out)
  generalize W.heap.size = g3 at *
  clear hw1 bT
  first | (refine wp_region_mo (by kernel_rfl) (by kernel_rfl) ?_) | (refine wp_region_mo' (by kernel_rfl) (by kernel_rfl) ?_)
  repeat (go_big_quiet_step (fail))
  refine wpQuiet_nil ?_
  intro _ hw'
  obtain ⟨⟨J9, d9⟩, hw''⟩ := hw'
  subst hw''
  --@@ r4
  go_upto_region 4 with (fail)
  first | (refine wp_region_mo (by kernel_rfl) (by kernel_rfl) ?_) | (refine wp_region_mo' (by kernel_rfl) (by kernel_rfl) ?_)
  repeat (go_big_quiet_step (fail))
  refine wpQuiet_nil ?_
  intro _ hw'
  obtain ⟨⟨J8, d8⟩, hw''⟩ := hw'
  subst hw''
  --@@ r5
  go_upto_region 5 with (fail)
  first | (refine wp_region_mo (by kernel_rfl) (by kernel_rfl) ?_) | (refine wp_region_mo' (by kernel_rfl) (by kernel_rfl) ?_)
  repeat (go_big_quiet_step (fail))
  refine wpQuiet_nil ?_
  intro _ hw'
  obtain ⟨⟨J7, d7⟩, hw''⟩ := hw'
  subst hw''
  --@@ ret
  go_wp2_with fail
  go_ret2
  exact ⟨rfl, M1.trans Mor.out⟩
end Go.Proofs.Ythgkhllkhhnlpaa
