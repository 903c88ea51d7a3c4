/- server: made, New. -/
import Derived.Test.YthgkhllkhhnlpaaSvB
namespace Go.Proofs.Ythgkhllkhhnlpaa
open Go.RowKit Go.Maps

set_option maxRecDepth 20000 in
theorem arr17 {a : Array Value} (h : a.size = 17) : ∃ a0 a1 a2 a3 a4 a5 a6 a7 a8 a9 a10 a11 a12 a13 a14 a15 a16, a = #[a0, a1, a2, a3, a4, a5, a6, a7, a8, a9, a10, a11, a12, a13, a14, a15, a16] := by
  obtain ⟨l⟩ := a
  match l, h with
  | [a0, a1, a2, a3, a4, a5, a6, a7, a8, a9, a10, a11, a12, a13, a14, a15, a16], _ => exact ⟨a0, a1, a2, a3, a4, a5, a6, a7, a8, a9, a10, a11, a12, a13, a14, a15, a16, rfl⟩
def ent0 (a : Array Value) (D : Sd) : Ent := ⟨a, fun _ => 0, sumL [], sumL [], sumL [], [], D, [], 0⟩
set_option maxRecDepth 20000 in
theorem good_0 : Good (sumL []) (0 : Nat) := good_take [] 0 (Nat.le_refl _)
set_option maxRecDepth 20000 in
instance row_addr : RowT 35 17 := ⟨by kernel_rfl, by kernel_rfl⟩
set_option maxRecDepth 20000 in
theorem loadF_addr (v : Value) : Instr.loadAt 35 v = loadF 35 v := rfl
set_option maxRecDepth 20000 in
theorem storeF_addr (v x : Value) : Instr.storeAt 35 v x = storeF 35 v x := rfl
set_option maxRecDepth 20000 in
theorem run_build_ent (a0 a1 a2 a3 a4 a5 a6 a7 a8 a9 a10 a11 a12 a13 a14 a15 a16 p1 p2 p3 : Value) (w : World) : (Instr.build 99 #[(0, .agg #[a0, a1, a2, a3, a4, a5, a6, a7, a8, a9, a10, a11, a12, a13, a14, a15, a16]), (2, .agg #[p1, p2, p3])]).run Try.prog w = .ok (.agg (entC #[a0, a1, a2, a3, a4, a5, a6, a7, a8, a9, a10, a11, a12, a13, a14, a15, a16] (fun _ => 0) p1 p2 p3 nilS nilS (.slice none 0 0) 0)) w := run_build w _ _ _ (by kernel_rfl)
set_option maxRecDepth 20000 in
theorem run_build_accs (p1 p2 p3 : Nat) (w : World) : (Instr.build 97 #[(0, ptrS p1), (1, ptrS p2), (2, ptrS p3)]).run Try.prog w = .ok (.agg #[ptrS p1, ptrS p2, ptrS p3]) w := run_build w _ _ _ (by kernel_rfl)
attribute [local go_sem] blk_cell' blk_frozen' run_build_ent run_build_accs
attribute [local go_sem ↓] loadF_addr storeF_addr
attribute [local go_sem] run_loadF0 run_storeF0
set_option maxRecDepth 20000 in
set_option maxHeartbeats 8000000 in
theorem made_any (a : Array Value) (W : World) (h : a.size = 17) :
    Calls Try.prog 29 #[.agg a] W fun e w' => ∃ g p1 p2 p3, e = .returned (ptrS g) ∧ Blk w' g 99 (entC a (fun _ => 0) (ptrS p1) (ptrS p2) (ptrS p3) nilS nilS (.slice none 0 0) 0) ∧ Blk w' p1 136 (accC true (sumL [])) ∧ Blk w' p2 136 (accC true (sumL [])) ∧ Blk w' p3 136 (accC true (sumL [])) ∧ p1 ≠ p2 ∧ p1 ≠ p3 ∧ p2 ≠ p3 ∧ W.heap.size ≤ g ∧ W.heap.size ≤ p1 ∧ W.heap.size ≤ p2 ∧ W.heap.size ≤ p3 ∧ Mo W w' := by
  obtain ⟨a0, a1, a2, a3, a4, a5, a6, a7, a8, a9, a10, a11, a12, a13, a14, a15, a16, rfl⟩ := arr17 h
  have OF := Lib.hid (fun w => of_nothing w)
  clear h
  go_enter Try.func29, Try.ntmps29
  go_upto_region 1 with (fail)
  refine wp_name ?_
  intro w1 hw1
  have b1 : Blk w1 W.heap.size 35 #[a0, a1, a2, a3, a4, a5, a6, a7, a8, a9, a10, a11, a12, a13, a14, a15, a16] := by rw [hw1]; infer_instance
  have M1 : Mo W w1 := by rw [hw1]; exact Mor.out
  generalize hg1 : W.heap.size = g1 at *
  have sz1 : g1 < w1.heap.size := b1.lt
  clear hw1
  --@@ r1
  go_region_held3 (fun w' => MoC w1 w') (exact ⟨Mor.out⟩)
    (first
      | ((with_reducible refine (OF.out _).mono ?_)
         rintro e wc ⟨pc, rfl, gc, bc, Mc⟩
         have lbc : pb < pc := Nat.lt_of_lt_of_le (LtW.out (b := pb)) gc
         have lac : pa < pc := Nat.lt_of_lt_of_le (LtW.out (b := pa)) gc
         have iMc : MoC _ wc := ⟨Mc⟩
         have iRc : Mor w1 wc := ⟨(Mor.out : Mo w1 _).trans Mc⟩)
      | ((with_reducible refine (OF.out _).mono ?_)
         rintro e wb ⟨pb, rfl, gb, bb, Mb⟩
         have lab : pa < pb := Nat.lt_of_lt_of_le (LtW.out (b := pa)) gb
         have iMb : MoC _ wb := ⟨Mb⟩
         have iRb : Mor w1 wb := ⟨(Mor.out : Mo w1 _).trans Mb⟩)
      | ((with_reducible refine (OF.out _).mono ?_)
         rintro e wa ⟨pa, rfl, ga, ba, Ma⟩
         have lga : w1.heap.size ≤ pa := Nat.le_trans (Mo.size Mor.out) ga
         have iMa : MoC _ wa := ⟨Ma⟩
         have iRa : Mor w1 wa := ⟨(Mor.out : Mo w1 _).trans Ma⟩))
  all_goals (
    go_wp2_with fail
    go_ret
    exact ⟨_, _, _, _, rfl, inferInstance, inferInstance, inferInstance, inferInstance, by omega, by omega, by omega, by rw [hg1]; exact Nat.le_trans (Nat.le_of_lt sz1) (Mo.size Mor.out), by omega, by omega, by omega, M1.trans Mor.out⟩)
end Go.Proofs.Ythgkhllkhhnlpaa
