/- server: a table that is missing, or empty; what is not told. -/
import Derived.Test.YthgkhllkhhnlpaaSvW2
import Derived.Test.YthgkhllkhhnlpaaSvH
namespace Go.Proofs.Ythgkhllkhhnlpaa
open Go.RowKit Go.Maps

set_option maxRecDepth 20000 in
theorem run_build_srv0 (w : World) : (buildF 62 #[]).run Try.prog w = .ok (.agg z47) w := run_build w _ _ _ (by kernel_rfl)
set_option maxRecDepth 20000 in
instance one_z47 : OneA z47 := ⟨by kernel_rfl⟩
set_option maxRecDepth 20000 in
instance szz47 : SzA z47 47 := ⟨by kernel_rfl⟩
attribute [local go_sem] blk_cell' blk_frozen'
attribute [local go_sem ↓] loadF_addr loadF_srv storeF_srv buildF_srv loadF_smp
attribute [local go_sem] run_loadF0 run_storeF0 run_build_srv0
set_option maxRecDepth 20000 in
set_option maxHeartbeats 4000000 in
theorem told_nilT (i : Int) (W : World) : Calls Try.prog 16 #[nilS, .int .i64 i] W fun e w' => e = .returned (.tuple #[.agg z47, .bool false]) ∧ Mo W w' := by
  go_enter Try.func16, Try.ntmps16
  go_wp2_with fail
  refine ret_cell_tmp rfl W.heap.size (.agg z47) rfl rfl (loadVar_flat 62 (inferInstance : Blk _ _ 62 z47) rfl) ?_
  exact ⟨rfl, Mor.out⟩
set_option maxRecDepth 20000 in
set_option maxHeartbeats 4000000 in
theorem told_out {W : World} {T b : Nat} {S : Nat → Prop} {C : CfgS} {o wd : Nat} {es : List Ent} {ot : Ent} {n : Nat} (h : TabW W T b S C o wd es ot n) (i : Int) (hi : i < 0 ∨ (es.length : Int) < i) :
    Calls Try.prog 16 #[ptrS T, .int .i64 i] W fun e w' => e = .returned (.tuple #[.agg z47, .bool false]) ∧ Mo W w' := by
  obtain ⟨B, lv, gs, Fs, go, Fo, t, ft⟩ := h.at_.ex
  have bT := t.t
  have lg := t.lg
  obtain ⟨A, c, elv⟩ := own_slS t.row
  subst elv
  rw [← lg] at hi
  clear h t ft lg
  by_cases c0 : i < 0
  · have d0 : decide (i < 0) = true := decide_eq_true c0
    clear hi c0
    go_enter Try.func16, Try.ntmps16
    go_wp2_with fail
    refine ret_cell_tmp rfl W.heap.size (.agg z47) rfl rfl (loadVar_flat 62 (inferInstance : Blk _ _ 62 z47) rfl) ?_
    exact ⟨rfl, Mor.out⟩
  · have d0 : decide (i < 0) = false := decide_eq_false c0
    have d1 : decide ((gs.length : Int) < i) = true := decide_eq_true (by omega)
    clear hi c0
    go_enter Try.func16, Try.ntmps16
    go_wp2_with fail
    refine ret_cell_tmp rfl W.heap.size (.agg z47) rfl rfl (loadVar_flat 62 (inferInstance : Blk _ _ 62 z47) rfl) ?_
    exact ⟨rfl, Mor.out⟩
set_option maxRecDepth 20000 in
set_option maxHeartbeats 4000000 in
theorem put_nilT (X : Smp) (h : X.f.size = 36) (W : World) : Calls Try.prog 10 #[nilS, .agg (smpC X)] W fun e w' => e = .returned (.int .i64 (-1)) ∧ Mo W w' := by
  have iz : SzA (smpC X) 48 := ⟨smpC_size h⟩
  clear h
  generalize smpC X = Y at *
  go_enter Try.func10, Try.ntmps10
  go_wp2_with fail
  first | go_ret | skip
  exact ⟨rfl, Mor.out⟩
abbrev tab0 : Array Value := #[.int .i64 0, .int .i64 0, .int .i64 0, .int .i64 0, .int .i64 0, .int .i64 0, .int .i64 0, .int .i64 0, .int .i64 0, .int .i64 0, .int .i64 0, .int .i64 0, .slice none 0 0, .map none, nilS]
set_option maxRecDepth 20000 in
set_option maxHeartbeats 4000000 in
theorem put_empty (T : Nat) (X : Smp) (h : X.f.size = 36) (W : World) (b : Blk W T 83 tab0) : Calls Try.prog 10 #[ptrS T, .agg (smpC X)] W fun e w' => e = .returned (.int .i64 (-1)) ∧ Mo W w' := by
  have iz : SzA (smpC X) 48 := ⟨smpC_size h⟩
  clear h
  generalize smpC X = Y at *
  go_enter Try.func10, Try.ntmps10
  go_wp2_with fail
  first | go_ret | skip
  exact ⟨rfl, Mor.out⟩
set_option maxRecDepth 20000 in
set_option maxHeartbeats 4000000 in
theorem live_nilT (W : World) : Calls Try.prog 19 #[nilS] W fun e w' => e = .returned (.int .i64 0) ∧ Mo W w' := by
  have LN := Lib.hid tlen_nil
  go_enter Try.func19, Try.ntmps19
  go_wp2_with fail
  refine (LN.out _).mono ?_
  rintro e w1 ⟨rfl, M1⟩
  have N1 : Mo W w1 := (Mor.out : Mo W _).trans M1
  clear M1 LN
  go_wp2_with fail
  go_loopw [3, 9] (fun s i wr => s = .int .i64 0 ∧ i = .int .i64 0 ∧ Mo W wr) (fun _ _ _ => 0)
  case atStart => exact ⟨rfl, rfl, N1.trans Mor.out⟩
  case round =>
    obtain ⟨rfl, rfl, hM⟩ := hrel
    go_wp2_with fail
    go_ret
    exact ⟨rfl, hM.trans Mor.out⟩
set_option maxRecDepth 20000 in
set_option maxHeartbeats 4000000 in
theorem copy_nilT (W : World) : Calls Try.prog 23 #[nilS] W fun e w' => e = .returned nilS ∧ Mo W w' := by
  go_enter Try.func23, Try.ntmps23
  go_wp2_with fail
  go_ret
  exact ⟨rfl, Mor.out⟩
/-! ### twenty samples -/
def knE : Nat → Ent
  | 0 => ent0 (adrN 1) D11
  | k + 1 => putE 1 (knE k) (smN 1 (k : Nat) ((k * k : Nat) : Int))
set_option maxRecDepth 20000 in
theorem knE_a : ∀ k, (knE k).a = adrN 1
  | 0 => rfl
  | k + 1 => by
    show (putE 1 (knE k) _).a = _
    rw [putE_a, knE_a k]
set_option maxRecDepth 20000 in
theorem knE_c : ∀ k, (knE k).c = fun _ => 0
  | 0 => rfl
  | k + 1 => by
    show (putE 1 (knE k) _).c = _
    rw [(putE_c _ _ _).1, knE_c k]
set_option maxRecDepth 20000 in
theorem knE_20 : (knE 20).st.length = 16 ∧ (knE 20).more = 3 := by decide +kernel
def knL (k : Nat) : List Ent := if k = 0 then [] else [knE k]
set_option maxRecDepth 20000 in
theorem knL_put {k : Nat} {es1 : List Ent} {q : Option Nat} (p : OfP 1 D11 (adrN 1) (knL k) es1 q) : q = some 0 ∧ es1 = [knE k] := by
  unfold knL at p
  by_cases c : k = 0
  · subst c
    rw [if_pos rfl] at p
    obtain ⟨e1, e2⟩ := sml_first p
    exact ⟨e2, e1⟩
  · rw [if_neg c] at p
    obtain ⟨e1, e2⟩ := sml_same (knE_a k) p
    exact ⟨e2, e1⟩
end Go.Proofs.Ythgkhllkhhnlpaa
