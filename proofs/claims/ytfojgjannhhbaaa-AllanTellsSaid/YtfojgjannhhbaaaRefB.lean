/- horologeref01: Size, Cmp, Zero, power: what each returns, in integers. -/
import Derived.Test.YtfojgjannhhbaaaRefA
namespace Go.Proofs.Ytfojgjannhhbaaa
open Go.RowKit

set_option maxRecDepth 20000 in
theorem div_step (n : Int) (k : Nat) : n / 65536 ^ k = 65536 * (n / 65536 ^ (k + 1)) + lim n k := by
  have := div_pow_succ n k
  unfold lim
  omega
set_option maxRecDepth 20000 in
theorem lt_of_div {a b : Int} {P : Int} (hP : 0 < P) (h : a / P < b / P) : a < b := by
  rcases Int.lt_or_le a b with c | c
  · exact c
  · have := Int.ediv_le_ediv hP c; omega
set_option maxRecDepth 20000 in
theorem pow_eq_0 {n : Int} (h0 : 0 ≤ n) (h : n < 65536 ^ 20) : n / 65536 ^ 20 = 0 := Int.ediv_eq_zero_of_lt h0 h

set_option maxRecDepth 10000 in
set_option maxHeartbeats 400000 in
theorem rsize_any (b c : Bool) (m n : Int) (m0 : 0 ≤ m) (m1 : m < 65536 ^ 20) (n0 : 0 ≤ n) (n1 : n < 65536 ^ 20) (w : World) :
    Calls Try.prog 49 #[NN b m, NN c n] w fun e w' => e = .returned (.int .i64 (cmpI m n)) ∧ Mo w w' := by
  have hz := Lib.hid (show m / 65536 ^ 20 = n / 65536 ^ 20 by rw [pow_eq_0 m0 m1, pow_eq_0 n0 n1])
  have bm := lim_bd m
  have bn := lim_bd n
  have DM := Lib.hid (div_step m)
  have DN := Lib.hid (div_step n)
  unfold NN
  generalize hl : lim m = l at *
  generalize hk : lim n = k at *
  clear hl hk m0 m1 n0 n1
  go_enter Try.func49, Try.ntmps49
  go_wp2_with fail
  go_loopw [5] (fun i wr => ∃ (j : Nat) (x : Int), j ≤ 20 ∧ x = (j : Int) - 1 ∧ i = .int .i64 x ∧ Hid (m / 65536 ^ j = n / 65536 ^ j) ∧ ∃ J d, wr = more ((w.alloc (.cells (numC b l) 73)).alloc (.cells (numC c k) 73)) J d) (fun i _ => (intOf i + 1).toNat)
  case atStart => exact ⟨20, 19, by omega, by omega, rfl, hz, Mo.refl _⟩
  case round =>
    clear hz
    obtain ⟨j, x, hj, hx, rfl, hz, J, d, rfl⟩ := hrel
    cases j with
    | zero =>
      obtain rfl : x = -1 := by omega
      clear hx
      have e := Lib.hid (show cmpI m n = 0 by
        have := hz.out
        simp only [Int.pow_zero, Int.ediv_one] at this
        subst this; simp [cmpI])
      clear bm bn
      go_wp2_with fail
      go_ret
      exact ⟨by rw [e.out]; rfl, Mor.out⟩
    | succ i =>
      obtain rfl : x = (i : Int) := by omega
      clear hx
      have hi : i < 20 := by omega
      have b1 := bm i
      have b2 := bn i
      have d1 := DM.out i
      have d2 := DN.out i
      rw [hz.out] at d1
      have P := pow_pos' i
      rcases Int.lt_trichotomy (l i) (k i) with c | c | c
      · have e := Lib.hid (show cmpI m n = -1 from if_pos (lt_of_div P (by omega)))
        clear bm bn d1 d2
        go_upto_region 4 with (fail)
        refine wp_region_mo' (by kernel_rfl) (by kernel_rfl) ?_
        repeat (go_big_quiet_step (fail))
        refine wpQuiet_nil ?_
        intro _ hw'
        obtain ⟨⟨J2, d2⟩, hw''⟩ := hw'
        subst hw''
        go_wp2_with fail
        go_ret
        exact ⟨by rw [e.out]; rfl, Mor.out⟩
      · have hz' : Hid (m / 65536 ^ i = n / 65536 ^ i) := Lib.hid (by rw [d1, d2, c])
        have c1 : ¬ l i < k i := by omega
        have c2 : ¬ k i < l i := by omega
        clear bm bn d1 d2 c
        go_upto_region 4 with (fail)
        refine wp_region_mo' (by kernel_rfl) (by kernel_rfl) ?_
        repeat (go_big_quiet_step (fail))
        refine wpQuiet_nil ?_
        intro _ hw'
        obtain ⟨⟨J2, d2⟩, hw''⟩ := hw'
        subst hw''
        go_wp2_with fail
        go_upto_region 6 with (fail)
        refine wp_region_mo' (by kernel_rfl) (by kernel_rfl) ?_
        repeat (go_big_quiet_step (fail))
        refine wpQuiet_nil ?_
        intro _ hw'
        obtain ⟨⟨J2, d2⟩, hw''⟩ := hw'
        subst hw''
        go_wp2_with fail
        go_roundw
        case rel => exact ⟨i, _, by omega, rfl, by go_num, hz', _, _, rfl⟩
        case measure => simp [intOf]
      · have e := Lib.hid (show cmpI m n = 1 by
          have : n < m := lt_of_div P (by omega)
          rw [cmpI, if_neg (by omega), if_pos this])
        have c1 : ¬ l i < k i := by omega
        clear bm bn d1 d2
        go_upto_region 4 with (fail)
        refine wp_region_mo' (by kernel_rfl) (by kernel_rfl) ?_
        repeat (go_big_quiet_step (fail))
        refine wpQuiet_nil ?_
        intro _ hw'
        obtain ⟨⟨J2, d2⟩, hw''⟩ := hw'
        subst hw''
        go_wp2_with fail
        go_upto_region 6 with (fail)
        refine wp_region_mo' (by kernel_rfl) (by kernel_rfl) ?_
        repeat (go_big_quiet_step (fail))
        refine wpQuiet_nil ?_
        intro _ hw'
        obtain ⟨⟨J2, d2⟩, hw''⟩ := hw'
        subst hw''
        go_wp2_with fail
        go_ret
        exact ⟨by rw [e.out]; rfl, Mor.out⟩

set_option maxRecDepth 20000 in
theorem zer_lim {n : Int} (h0 : 0 ≤ n) (h1 : n < 65536 ^ 20) : zer (lim n) = decide (n = 0) := by
  by_cases c : n = 0
  · subst c; rw [decide_eq_true rfl]; exact (zer_iff _).2 fun i _ => by simp [lim]
  · rw [decide_eq_false c]
    rcases h : zer (lim n) with _ | _
    · rfl
    · exfalso
      have hz := (zer_iff _).1 h
      have : ∀ j : Nat, j ≤ 20 → n / 65536 ^ (20 - j) = 0 := by
        intro j
        induction j with
        | zero => intro _; exact pow_eq_0 h0 h1
        | succ j ih =>
          intro hj
          have e := div_step n (20 - (j + 1))
          rw [show 20 - (j + 1) + 1 = 20 - j by omega, ih (by omega), hz _ (by omega)] at e
          omega
      have := this 20 (by omega)
      simp at this
      exact c this
set_option maxRecDepth 20000 in
theorem rzero_any (b : Bool) (n : Int) (h0 : 0 ≤ n) (h1 : n < 65536 ^ 20) (w : World) :
    Calls Try.prog 56 #[NN b n] w fun e w' => e = .returned (.bool (decide (n = 0))) ∧ Mo w w' := by
  rw [← zer_lim h0 h1]; exact zero_any b (lim n) (fun i => (lim_bd n i).1) w
/-- the number that sign and size say -/
def val (b : Bool) (n : Int) : Int := if b then -n else n

set_option maxRecDepth 20000 in
set_option maxHeartbeats 400000 in
theorem rpower_any (n : Nat) (h : n ≤ 62) (w : World) : Calls Try.prog 47 #[.int .i64 n] w fun e w' => e = .returned (.int .u64 (2 ^ n)) ∧ Mo w w' := by
  go_enter Try.func47, Try.ntmps47
  go_wp2_with fail
  go_loop [3, 4] (fun p i => ∃ k : Nat, k ≤ n ∧ i = .int .i64 k ∧ p = .int .u64 (2 ^ k)) (fun _ i => n - (intOf i).toNat)
  case atStart => exact ⟨0, by omega, rfl, rfl⟩
  case round =>
    obtain ⟨k, hk, rfl, rfl⟩ := hrel
    by_cases c : k < n
    · have b1 : (2 : Int) ^ k ≤ 2 ^ 61 := by have := Nat.pow_le_pow_right (n := 2) (by decide) (show k ≤ 61 by omega); exact_mod_cast this
      have b0 : (0 : Int) < 2 ^ k := Int.pow_pos (by decide)
      have hp := Lib.hid (Int.pow_succ 2 k)
      generalize (2 : Int) ^ k = p at *
      have b2 : p ≤ 2305843009213693952 := b1
      clear b1
      go_wp2_with fail
      go_round
      case rel => exact ⟨k + 1, by omega, by go_num, by rw [hp.out, Int.mul_comm]⟩
      case measure => simp [intOf]; omega
    · obtain rfl : k = n := by omega
      go_wp2_with fail
      go_ret
      exact ⟨rfl, Mor.out⟩
end Go.Proofs.Ytfojgjannhhbaaa
