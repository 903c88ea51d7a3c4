/- horologelaw29: calls on no table; PendKnown (printed by gen/genpendk.py). -/
import Derived.Test.YtlbkcjpnlnlmiaaPendW
import Derived.Test.YtlbkcjpnlnlmiaaInRound
import Derived.Test.YtlbkcjpnlnlmiaaOwnW
namespace Go.Proofs.Ytlbkcjpnlnlmiaa
open Go.RowKit Go.Maps Go.Shelf

attribute [local go_sem] blk_cell' blk_frozen' nd_old nd_new nd_ans nd_key nd_en
attribute [local go_sem ↓] loadF_key loadF_entry storeF_entry buildF_entry storeF_key' buildF_key' buildF_wide'
attribute [local go_sem] run_loadFo run_loadFz run_loadF0 run_storeF0 run_build_kyN run_build_wdN run_build_entry0 run_build_entryk
set_option maxRecDepth 20000 in
set_option maxHeartbeats 4000000 in
theorem find_nil (k : Array Value) (W : World) : Calls Try.prog 10 #[nilp, .agg k] W fun e w' => e = .returned (.tuple #[.agg (enC key0 wdz false), .bool false]) ∧ Mo W w' := by
  go_enter Try.func10, Try.ntmps10
  go_wp2_with fail
  refine (right_nil _).mono ?_
  rintro e w1 ⟨rfl, M1⟩
  have r1 : Blk w1 (W.heap.size + 1) 45 (enC key0 wdz false) := M1.blk (blk_en0 inferInstance)
  have N1 := (Mor.out : Mo W _).trans M1
  clear M1
  go_wp2_with fail
  refine ret_cell2 Try.results10 (W.heap.size + 1) (enC key0 wdz false) rfl rfl (blk_setRow r1) ?_
  exact ⟨rfl, mo_setRow N1 (Nat.le_succ _) _⟩
set_option maxRecDepth 20000 in
set_option maxHeartbeats 4000000 in
theorem answer_nil (k : Array Value) [zk : SzA k 37] [ok : OneA k] (W : World) : Calls Try.prog 12 #[nilp, .agg k] W fun e w' => e = .returned (.tuple #[.agg (enC k wdz false), .int .u8 7]) ∧ Mo W w' := by
  go_enter Try.func12, Try.ntmps12
  go_wp2_with fail
  refine (right_nil _).mono ?_
  rintro e w1 ⟨rfl, M1⟩
  have k1 : Blk w1 W.heap.size 38 k := M1.blk inferInstance
  have r1 : Blk w1 (W.heap.size + 1) 45 (enC key0 wdz false) := M1.blk (blk_en0 inferInstance)
  have N1 := (Mor.out : Mo W _).trans M1
  clear M1
  go_wp2_with fail
  refine ret_cell2 Try.results12 (W.heap.size + 1) (enC k wdz false) rfl rfl (blk_setRow r1) ?_
  exact ⟨rfl, mo_setRow N1 (Nat.le_succ _) _⟩
set_option maxRecDepth 20000 in
set_option maxHeartbeats 4000000 in
theorem ask_nil (k a : Array Value) (W : World) : Calls Try.prog 11 #[nilp, .agg k, .agg a] W fun e w' => e = .returned (.tuple #[.bool false, .agg (enC key0 wdz false), .bool false]) ∧ Mo W w' := by
  go_enter Try.func11, Try.ntmps11
  go_wp2_with fail
  refine (right_nil _).mono ?_
  rintro e w1 ⟨rfl, M1⟩
  have r1 : Blk w1 (W.heap.size + 2) 45 (enC key0 wdz false) := M1.blk (blk_en0 inferInstance)
  have N1 := (Mor.out : Mo W _).trans M1
  clear M1
  go_wp2_with fail
  refine ret_tct Try.results11 (W.heap.size + 2) (enC key0 wdz false) rfl rfl (blk_setRow r1) ?_
  exact ⟨rfl, mo_setRow N1 (by omega) _⟩
set_option maxRecDepth 20000 in
set_option maxHeartbeats 4000000 in
theorem len_nil29 (W : World) : Calls Try.prog 13 #[nilp] W fun e w' => e = .returned (.int .i64 0) ∧ Mo W w' := by
  go_enter Try.func13, Try.ntmps13
  go_wp2_with fail
  refine (right_nil _).mono ?_
  rintro e w1 ⟨rfl, M1⟩
  go_wp2_with fail
  go_ret
  exact ⟨rfl, M1⟩
set_option maxRecDepth 20000 in
set_option maxHeartbeats 4000000 in
theorem all_any (p : Option Addr) (W : World) : Calls Try.prog 14 #[.pointer p] W fun e w' => e = .returned (.func (.func 24) #[] #[.pointer (some ⟨W.heap.size, 0, none⟩)]) ∧ W.alloc (.cells #[.pointer p] 24) = w' := by
  go_enter Try.func14, Try.ntmps14
  go_wp2_with fail
  go_ret
  exact ⟨rfl, rfl⟩
set_option maxRecDepth 20000 in
set_option maxHeartbeats 4000000 in
theorem all_nil_seq (n Bn : Nat) (Kp : World → World → Prop) (w : World) (hB : Boxed w Bn 24 nilp) :
    SeqP Fence.wide n Try.prog 24 #[.pointer (some ⟨Bn, 0, none⟩)] (fun x : Value => #[x]) Kp (fun _ _ _ => False) (fun xs => xs = []) (fun _ => False) 0 w := by
  intro l J Jx W hW hJ _ _ h0
  refine callsIn_wide.2 ?_
  have hX := boxed_mo hB (Mo.of hW)
  have hX1 := hX.cell
  have HJ := Lib.hid hJ
  have H0 := Lib.hid h0
  clear hJ h0 hB hW
  go_enter Try.func24, Try.ntmps24
  go_wp2_with fail
  refine (right_nil _).mono ?_
  rintro e w1 ⟨rfl, M1⟩
  have hJ1 := HJ.out _ _ _ none H0.out M1.grown (fun r h => by cases h)
  go_wp2_with fail
  refine bodyPost_ret (results_none rfl _ _ _) rfl ?_
  exact ⟨⟨_, rfl⟩, .inl ⟨[], rfl, hJ1⟩⟩
set_option maxRecDepth 20000 in
set_option maxHeartbeats 4000000 in
theorem copy_nil (W : World) : Calls Try.prog 16 #[nilp] W fun e w' => e = .returned nilp ∧ Mo W w' := by
  refine (callsIn_wide (n := 6)).1 ?_
  refine callsIn_of_wp_marks Try.func16 rfl trivial ?_ rfl
  simp only [Try.ntmps16, List.size_toArray, List.length_cons, List.length_nil, Nat.reduceAdd, Nat.reduceSub, Array.replicate_succ, Array.replicate_zero, List.push_toArray, List.append_toArray, List.nil_append, List.cons_append]
  refine wpIn_wide.2 ?_
  go_wp2_with fail
  refine (right_nil _).mono ?_
  rintro e w1 ⟨rfl, M1⟩
  go_wp2_with fail
  exact ⟨nilp, by simp [results, Try.results16], rfl, M1⟩
set_option maxRecDepth 20000 in
theorem run_neq_all (w : World) (b : Value) : (binOp .neq 55 (.func (.func 24) #[] #[b]) Value.nilFunc).run Try.prog w = .ok (.bool true) w := by
  kernel_rfl
attribute [local go_sem] run_neq_all
set_option maxRecDepth 20000 in
theorem boxed_of {w : World} {g : Nat} {t : TypeId} {v : Value} (h : Blk w g t #[v]) : Boxed w g t v := h.out
set_option maxRecDepth 20000 in
theorem known_ret {R : Ending → World → Prop} {a : Act} {w : World} (b4 D : Nat)
    (h4 : a.tmps.getD 0 undef = .pointer (some ⟨b4, 0, none⟩)) (hd : a.defers = [{ target := Target.collected D, args := #[] }])
    (x4 : Boxed w b4 4 (.bool true)) (hK : w.heap[D]? = some (.deferred (some [])))
    (hR : R (.returned (.bool true)) (w.putObj D (.deferred none))) : bodyPostM Fence.wide 6 Try.prog Try.f5 R .ret a w := by
  have y4 := (x4.kept (grownBy_putObj' w D (.deferred none)) (fun e => by
    obtain rfl : b4 = D := by simpa using e
    rw [show w.heap[b4]? = _ from x4] at hK; cases hK)).cell
  obtain ⟨tm, df⟩ := a
  simp only at h4 hd
  subst hd
  refine ⟨by simp, .inl ⟨_, _, rfl, run_takeDeferred hK, ?_⟩⟩
  refine ⟨.bool true, ?_, hR⟩
  have k4 : tm[0]?.getD undef = .pointer (some ⟨b4, 0, none⟩) := by simpa using h4
  simp [results, Try.results5, go_sem, k4, y4]
set_option maxRecDepth 20000 in
set_option maxHeartbeats 8000000 in
theorem known29_any (W : World) : Calls Try.prog 5 #[] W fun e w' => e = .returned (.bool true) ∧ Mo W w' := by
  have WK := Lib.hid works29_any
  have wz : ∀ w : World, (buildF 40 #[]).run Try.prog w = .ok (.agg wdz) w := fun w => run_build w _ _ _ (by kernel_rfl)
  refine (callsIn_wide (n := 6)).1 ?_
  refine callsIn_of_wp_marks Try.func5 rfl trivial ?_ rfl
  simp only [Try.ntmps5, List.size_toArray, List.length_nil, Nat.reduceSub, Array.replicate_succ, Array.replicate_zero, List.push_toArray, List.append_toArray, List.nil_append, List.cons_append]
  refine wpIn_wide.2 ?_
  go_wp2_with fail
  refine (WK.out _).mono ?_
  rintro e w1 ⟨rfl, M1⟩
  have b1 : Blk w1 W.heap.size 4 #[.bool false] := M1.blk inferInstance
  have N1 := (Mor.out : Mo W _).trans M1
  clear M1
  go_wp2_with fail
  refine (new_out 0 (by decide) _).mono ?_
  rintro e w2 ⟨rfl, M2⟩
  have N2 := N1.trans (Mo.trans Mor.out M2)
  have b2 : Blk w2 W.heap.size 4 #[.bool false] := (Mo.trans (Mor.out : Mo w1 _) M2).blk b1
  clear M2 N1 b1
  go_wp2_with fail
  refine (new_out 65537 (by decide) _).mono ?_
  rintro e w3 ⟨rfl, M3⟩
  have N3 := N2.trans (Mo.trans Mor.out M3)
  have b3 : Blk w3 W.heap.size 4 #[.bool false] := (Mo.trans (Mor.out : Mo w2 _) M3).blk b2
  clear M3 N2 b2
  go_wp2_with fail
  refine (new_in 65536 (by decide) _).mono ?_
  rintro e w4 ⟨T, B, rfl, -, M4⟩
  have N4 := N3.trans (Mo.trans Mor.out M4)
  have b4 : Blk w4 W.heap.size 4 #[.bool false] := (Mo.trans (Mor.out : Mo w3 _) M4).blk b3
  clear M4 N3 b3
  go_wp2_with fail
  refine (key29_any 1 _).mono ?_
  rintro e w5 ⟨rfl, M5⟩
  have N5 := N4.trans (Mo.trans Mor.out M5)
  have b5 : Blk w5 W.heap.size 4 #[.bool false] := (Mo.trans (Mor.out : Mo w4 _) M5).blk b4
  clear M5 N4 b4
  go_wp2_with fail
  refine (ask_nil _ _ _).mono ?_
  rintro e w6 ⟨rfl, M6⟩
  have N6 := N5.trans (Mo.trans Mor.out M6)
  have b6 : Blk w6 W.heap.size 4 #[.bool false] := (Mo.trans (Mor.out : Mo w5 _) M6).blk b5
  clear M6 N5 b5
  go_wp2_with fail
  refine (key29_any 1 _).mono ?_
  rintro e w7 ⟨rfl, M7⟩
  have N7 := N6.trans (Mo.trans Mor.out M7)
  have b7 : Blk w7 W.heap.size 4 #[.bool false] := (Mo.trans (Mor.out : Mo w6 _) M7).blk b6
  clear M7 N6 b6
  go_wp2_with fail
  refine (answer_nil (kyN 1) _).mono ?_
  rintro e w8 ⟨rfl, M8⟩
  have N8 := N7.trans (Mo.trans Mor.out M8)
  have b8 : Blk w8 W.heap.size 4 #[.bool false] := (Mo.trans (Mor.out : Mo w7 _) M8).blk b7
  clear M8 N7 b7
  go_wp2_with fail
  refine (key29_any 1 _).mono ?_
  rintro e w9 ⟨rfl, M9⟩
  have N9 := N8.trans (Mo.trans Mor.out M9)
  have b9 : Blk w9 W.heap.size 4 #[.bool false] := (Mo.trans (Mor.out : Mo w8 _) M9).blk b8
  clear M9 N8 b8
  go_wp2_with fail
  refine (find_nil _ _).mono ?_
  rintro e wA ⟨rfl, MA⟩
  have NA := N9.trans (Mo.trans Mor.out MA)
  have bA : Blk wA W.heap.size 4 #[.bool false] := (Mo.trans (Mor.out : Mo w9 _) MA).blk b9
  clear MA N9 b9
  go_wp2_with fail
  refine (all_any _ _).mono ?_
  rintro e wB ⟨rfl, rfl⟩
  go_wp2_with fail
  obtain ⟨w, hw⟩ : ∃ w, (wA.alloc (.cells (enC key0 wdz false) 45)).alloc (.cells #[.pointer none] 24) = w := ⟨_, rfl⟩
  have xB : Boxed w (wA.heap.size + 1) 24 nilp := by rw [← hw]; exact (inferInstance : Blk _ _ _ _).out
  have hMw : Mo wA w := by rw [← hw]; exact Mor.out
  rw [hw]
  clear hw
  refine (wpIn_wide (n := 6)).1 ?_
  refine wpIn_range_px (F := Fence.wide) (n := 6) (w0 := w) rfl (by omega) (gf := 24) (lb := #[.pointer (some ⟨wA.heap.size + 1, 0, none⟩)]) rfl trivial (enters_of Try.func24 (by kernel_rfl) rfl)
    (all_nil_seq 5 _ (Below wA.heap.size) w xB) Below.trans (belowK_b hMw.size) (Below.refl _ _) (fun _ => rfl)
    (fun _ W' => Below wA.heap.size wA W') (fun _ _ _ => False)
    (ownFrom_below (Nat.le_refl _) hMw.size) (fun _ _ _ _ _ h _ _ => h.elim)
    hMw.below (fun _ _ _ _ => False) (fun _ _ _ _ _ _ _ h _ _ => h.elim)
    ?assign ?body ?done ?stop
  case assign => intro _ _ _ _ _ _ h; exact h.elim
  case body => intro _ _ _ _ _ _ _ _ h; exact h.elim
  case stop => intro _ _ _ _ _ h; exact h.elim
  case done =>
    rintro D xs Wr hD rfl hB hK
    have hM : Mo wA Wr := Mo.of hB
    have bR : Blk Wr W.heap.size 4 #[.bool false] := hM.blk bA
    have NR := NA.trans hM
    have hDl : D < Wr.heap.size := (Array.getElem?_eq_some_iff.1 hK).1
    have hWD : W.heap.size ≤ D := by have := bA.lt; have := hMw.size; omega
    have hDW : W.heap.size ≠ D := by have := bA.lt; have := hMw.size; omega
    clear hB hM bA NA xB hMw hD
    go_wp2_with fail
    refine (len_nil29 _).mono ?_
    rintro e wC ⟨rfl, MC⟩
    have bC : Blk wC W.heap.size 4 #[.bool false] := (Mo.trans (Mor.out : Mo Wr _) MC).blk bR
    have NC := NR.trans (Mo.trans (Mor.out : Mo Wr _) MC)
    have hKC : wC.heap[D]? = some (.deferred (some [])) := ((Mo.trans (Mor.out : Mo Wr _) MC).below.block D hDl).trans hK
    have hDC : D < wC.heap.size := (Array.getElem?_eq_some_iff.1 hKC).1
    clear MC bR NR hK hDl
    go_wp2_with fail
    refine (copy_nil _).mono ?_
    rintro e wE ⟨rfl, ME⟩
    have bE : Blk wE W.heap.size 4 #[.bool false] := (Mo.trans (Mor.out : Mo wC _) ME).blk bC
    have NE := NC.trans (Mo.trans (Mor.out : Mo wC _) ME)
    have hKE : wE.heap[D]? = some (.deferred (some [])) := ((Mo.trans (Mor.out : Mo wC _) ME).below.block D hDC).trans hKC
    clear ME bC NC hKC hDC
    go_wp2_with fail
    exact known_ret W.heap.size D rfl rfl (boxed_of (blk_setCell bE 0 (.bool true))) ((heap_setCell_other wE ⟨W.heap.size, 0, none⟩ D (.bool true) (Ne.symm hDW)).trans hKE) ⟨rfl, Mo.of_below (mo_setCell NE (Nat.le_refl _) 0 (.bool true)) (belowK_b (w := W) (Nat.le_refl _) _ D _ _ hWD ((heap_setCell_other wE ⟨W.heap.size, 0, none⟩ D (.bool true) (Ne.symm hDW)).trans hKE) rfl rfl)⟩
end Go.Proofs.Ytlbkcjpnlnlmiaa
