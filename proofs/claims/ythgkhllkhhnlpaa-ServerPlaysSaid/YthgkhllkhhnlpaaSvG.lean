/- server: Find and Len. -/
import Derived.Test.YthgkhllkhhnlpaaSvE
namespace Go.Proofs.Ythgkhllkhhnlpaa
open Go.RowKit Go.Maps

attribute [local go_sem] blk_cell' blk_frozen'
attribute [local go_sem ↓] loadF_addr storeF_addr
attribute [local go_sem] run_loadF0 run_storeF0
set_option maxRecDepth 20000 in
set_option maxHeartbeats 8000000 in
theorem tfind_yes {W : World} {T B b : Nat} {C : CfgS} {o w : Nat} {lv : Value} {gs : List Nat} {Fs : List (List Nat)} {go : Nat} {Fo : List Nat} {es : List Ent} {ot : Ent} {n : Nat} (h : TabIs W T B b C o w lv gs Fs go Fo es ot n) (a : Array Value) (ha : AdrP a) (hz : a.size = 17) (i : Nat) (hi : (es.map (·.a))[i]? = some a) :
    Calls Try.prog 13 #[ptrS T, .agg a] W fun e w' => e = .returned (.tuple #[.int .i64 (i : Nat), .bool true]) ∧ Mo W w' := by
  have bT := h.t
  have iz : SzA a 17 := ⟨hz⟩
  have HN := Lib.hid h.num
  have lk := fun w (m : Mo W w) => (HN.out.mo m).yes hi ha
  clear h hi hz ha
  go_enter Try.func13, Try.ntmps13
  go_upto_region 3 with (fail)
  refine wp_name ?_
  intro w1 hw1
  have b3 : Blk w1 W.heap.size 35 a := by rw [hw1]; infer_instance
  have M1 : Mo W w1 := by rw [hw1]; exact Mor.out
  have bT1 := M1.blk bT
  have lks := fun J d => lk (more w1 J d) (M1.trans Mor.out)
  generalize W.heap.size = g3 at *
  clear hw1 bT
  first | (refine wp_region_mo (by kernel_rfl) (by kernel_rfl) ?_) | (refine wp_region_mo' (by kernel_rfl) (by kernel_rfl) ?_)
  repeat (go_big_quiet_step (fail))
  refine wpQuiet_nil ?_
  intro _ hw'
  obtain ⟨⟨J9, d9⟩, hw''⟩ := hw'
  subst hw''
  go_wp2_with fail
  go_ret2
  exact ⟨rfl, M1.trans Mor.out⟩
set_option maxRecDepth 20000 in
set_option maxHeartbeats 8000000 in
theorem tfind_no {W : World} {T B b : Nat} {C : CfgS} {o w : Nat} {lv : Value} {gs : List Nat} {Fs : List (List Nat)} {go : Nat} {Fo : List Nat} {es : List Ent} {ot : Ent} {n : Nat} (h : TabIs W T B b C o w lv gs Fs go Fo es ot n) (a : Array Value) (ha : AdrP a) (hz : a.size = 17) (hn : a ∉ es.map (·.a)) (ok : ∀ q ∈ es.map (·.a), AdrP q) :
    Calls Try.prog 13 #[ptrS T, .agg a] W fun e w' => e = .returned (.tuple #[.int .i64 (-1), .bool false]) ∧ Mo W w' := by
  have bT := h.t
  have iz : SzA a 17 := ⟨hz⟩
  have HN := Lib.hid h.num
  have lk := fun w (m : Mo W w) => (HN.out.mo m).no ha ok hn
  clear h hn ok hz ha
  go_enter Try.func13, Try.ntmps13
  go_upto_region 3 with (fail)
  refine wp_name ?_
  intro w1 hw1
  have b3 : Blk w1 W.heap.size 35 a := by rw [hw1]; infer_instance
  have M1 : Mo W w1 := by rw [hw1]; exact Mor.out
  have bT1 := M1.blk bT
  have lks := fun J d => lk (more w1 J d) (M1.trans Mor.out)
  generalize W.heap.size = g3 at *
  clear hw1 bT
  first | (refine wp_region_mo (by kernel_rfl) (by kernel_rfl) ?_) | (refine wp_region_mo' (by kernel_rfl) (by kernel_rfl) ?_)
  repeat (go_big_quiet_step (fail))
  refine wpQuiet_nil ?_
  intro _ hw'
  obtain ⟨⟨J9, d9⟩, hw''⟩ := hw'
  subst hw''
  go_wp2_with fail
  go_ret2
  exact ⟨rfl, M1.trans Mor.out⟩
set_option maxRecDepth 20000 in
set_option maxHeartbeats 8000000 in
theorem tfind_nil (W : World) (a : Array Value) (hz : a.size = 17) :
    Calls Try.prog 13 #[nilS, .agg a] W fun e w' => e = .returned (.tuple #[.int .i64 (-1), .bool false]) ∧ Mo W w' := by
  have iz : SzA a 17 := ⟨hz⟩
  go_enter Try.func13, Try.ntmps13
  go_wp2_with fail
  go_ret2
  exact ⟨rfl, Mor.out⟩
set_option maxRecDepth 20000 in
set_option maxHeartbeats 8000000 in
theorem tlen_any {W : World} {T B b : Nat} {C : CfgS} {o w : Nat} {lv : Value} {gs : List Nat} {Fs : List (List Nat)} {go : Nat} {Fo : List Nat} {es : List Ent} {ot : Ent} {n : Nat} (h : TabIs W T B b C o w lv gs Fs go Fo es ot n) :
    Calls Try.prog 15 #[ptrS T] W fun e w' => e = .returned (.int .i64 (es.length : Nat)) ∧ Mo W w' := by
  have bT := h.t
  obtain ⟨A, c, elv⟩ := own_slS h.row
  subst elv
  have lg := h.lg
  generalize hl : gs.length = nl at *
  subst lg
  clear h
  go_enter Try.func15, Try.ntmps15
  go_wp2_with fail
  go_ret
  exact ⟨rfl, Mor.out⟩
set_option maxRecDepth 20000 in
set_option maxHeartbeats 8000000 in
theorem tlen_nil (W : World) :
    Calls Try.prog 15 #[nilS] W fun e w' => e = .returned (.int .i64 0) ∧ Mo W w' := by
  go_enter Try.func15, Try.ntmps15
  go_wp2_with fail
  go_ret
  exact ⟨rfl, Mor.out⟩
end Go.Proofs.Ythgkhllkhhnlpaa
