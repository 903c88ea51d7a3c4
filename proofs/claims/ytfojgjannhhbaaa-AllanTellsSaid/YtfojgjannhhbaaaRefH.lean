/- horologeref01: From: what it returns, in integers. -/
import Derived.Test.YtfojgjannhhbaaaRefG
import Derived.Test.YtfojgjannhhbaaaQTail
namespace Go.Proofs.Ytfojgjannhhbaaa
open Go.RowKit

set_option maxRecDepth 20000 in
theorem numC_set_5 (b : Bool) (l : Nat → Int) (x : Int) : (numC b l).setIfInBounds 5 (.int .u64 x) = numC b (upd l 4 x) := numC_set b l 4 x (by decide)
set_option maxRecDepth 20000 in
theorem numC_set_8 (b : Bool) (l : Nat → Int) (x : Int) : (numC b l).setIfInBounds 8 (.int .u64 x) = numC b (upd l 7 x) := numC_set b l 7 x (by decide)
set_option maxRecDepth 20000 in
theorem numC_get_5 (b : Bool) (l : Nat → Int) : (numC b l)[5]? = some (.int .u64 (l 4)) := numC_get b l 4 (by decide)
set_option maxRecDepth 20000 in
theorem numC_get_8 (b : Bool) (l : Nat → Int) : (numC b l)[8]? = some (.int .u64 (l 7)) := numC_get b l 7 (by decide)
attribute [go_sem] numC_set_5 numC_set_8 numC_get_5 numC_get_8
/-- the sign that From gives -/
def fromS (a : Int) : Bool := addS (decide (hiW a < 0)) false (hiW a * 18446744073709551616) (loW a)
set_option maxRecDepth 20000 in
theorem lim_top : upd (fun _ => 0) 4 1 = lim 18446744073709551616 := by
  funext i
  unfold upd
  by_cases c : i = 4
  · subst c; rfl
  · rw [if_neg c]
    by_cases d : i < 4
    · have : i = 0 ∨ i = 1 ∨ i = 2 ∨ i = 3 := by omega
      rcases this with rfl | rfl | rfl | rfl <;> rfl
    · rw [lim_great (k := 5) (by decide) (by decide) (by omega)]

set_option maxRecDepth 10000 in
set_option maxHeartbeats 1000000 in
theorem from_any (a : Int) (ha : InW a) (w : World) :
    Calls Try.prog 29 #[WV a] w fun e w' => e = .returned (NN (fromS a) (absI a)) ∧ Mo w w' := by
  obtain ⟨h, hh⟩ : ∃ h, hiW a = h := ⟨_, rfl⟩
  obtain ⟨l, hl⟩ : ∃ l, loW a = l := ⟨_, rfl⟩
  have e : a = h * 18446744073709551616 + l := by unfold hiW loW at *; omega
  have h1 : -9223372036854775808 ≤ h ∧ h ≤ 9223372036854775807 := by unfold InW at ha; unfold hiW at hh; omega
  have l1 : 0 ≤ l ∧ l < 18446744073709551616 := by unfold loW at hl; omega
  have C1 := Lib.hid (fun w => rof_any h h1.1 h1.2 w)
  have C2 : Hid (∀ w, Calls Try.prog 34 #[NN (decide (h < 0)) (absI h), NN false 18446744073709551616] w fun e w' => e = .returned (NN (decide (h < 0)) (absI (h * 18446744073709551616))) ∧ Mo w w') := Lib.hid (fun w => by
    have := rmul_sg (decide (h < 0)) false h 18446744073709551616 (by unfold absI; split <;> omega) (by rw [show absI 18446744073709551616 = 18446744073709551616 by rfl]; unfold absI; split <;> omega) w
    rw [show absI 18446744073709551616 = 18446744073709551616 by rfl] at this
    simpa using this)
  have C3 := Lib.hid (fun w => num64_any l l1.1 l1.2 w)
  have C4 : Hid (∀ w, Calls Try.prog 33 #[NN (decide (h < 0)) (absI (h * 18446744073709551616)), NN false l] w fun e w' => e = .returned (NN (fromS a) (absI a)) ∧ Mo w w') := Lib.hid (fun w => by
    have := radd_any (decide (h < 0)) false (h * 18446744073709551616) l ⟨fun c => decide_eq_true (by omega), fun c => decide_eq_false (by omega)⟩ (Sg.pos l1.1) (by unfold absI; split <;> omega) (by unfold absI; split <;> omega) w
    rw [absI_pos l1.1, ← e] at this
    rwa [fromS, hh, hl])
  have LT := lim_top
  generalize decide (h < 0) = s at *
  clear e ha
  go_enter Try.func29, Try.ntmps29
  go_upto_region 3 with (fail)
  refine wp_region_mo_tail 9 (by kernel_rfl) (by kernel_rfl) ?_
  simp only [List.take_succ_cons, List.take_zero, List.drop_succ_cons, List.drop_zero]
  repeat (go_big_quiet_step (first | (with_reducible exact quiet_mo (C1.out _)) | (with_reducible exact quiet_mo (C2.out _)) | (with_reducible exact quiet_mo (C3.out _)) | (with_reducible exact quiet_mo (C4.out _))))
  refine wpQuiet_nil ?_
  intro _ hw'
  obtain ⟨⟨J2, d2⟩, hw''⟩ := hw'
  subst hw''
  go_wp2_with fail
  exact ret_num (w.heap.size + 1) 73 (numC (fromS a) (lim (absI a))) Try.results29 rfl rfl ⟨rfl, Mor.out⟩
end Go.Proofs.Ytfojgjannhhbaaa
