/- horologelaw33.TruthAround: the walk. -/
import Derived.Test.YtdppkbnjedehbaaTruW
namespace Go.Proofs.Ytdppkbnjedehbaa
open Go.RowKit

def cl64 (x : Int) : Int := if x < -9223372036854775808 then -9223372036854775808 else if 9223372036854775807 < x then 9223372036854775807 else x
def Is64 (x : Int) : Prop := -9223372036854775808 ≤ x ∧ x ≤ 9223372036854775807
set_option maxRecDepth 20000 in
theorem cl64_same {x : Int} (h : Is64 x) : cl64 x = x := by
  obtain ⟨h1, h2⟩ := h
  unfold cl64
  rw [if_neg (by omega), if_neg (by omega)]
attribute [local go_sem] blk_cell' blk_frozen'
set_option maxRecDepth 20000 in
set_option maxHeartbeats 4000000 in
theorem plus_any (a b : Int) (W : World) (ha : Is64 a) (hb : Is64 b) : Calls Try.prog 28 #[.int .i64 a, .int .i64 b] W fun e w' => e = .returned (.int .i64 (cl64 (a + b))) ∧ W = w' := by
  obtain ⟨s, hs⟩ : ∃ s, IntKind.i64.wrap (a + b) = s := ⟨_, rfl⟩
  obtain ⟨r, hr⟩ : ∃ r, cl64 (a + b) = r := ⟨_, rfl⟩
  rw [hr]
  obtain ⟨a1, a2⟩ := ha
  obtain ⟨b1, b2⟩ := hb
  have e1 := hs
  rw [IntKind.wrap_i64] at e1
  have e2 := hr
  unfold cl64 at e2
  go_enter Try.func28, Try.ntmps28
  by_cases c1 : 0 < a
  · have d1 : decide (0 < a) = true := decide_eq_true c1
    have d5 : decide (a < 0) = false := decide_eq_false (by omega)
    by_cases c2 : 0 < b
    · have d2 : decide (0 < b) = true := decide_eq_true c2
      by_cases c3 : s ≤ 0
      · have d3 : decide (s ≤ 0) = true := decide_eq_true c3
        obtain rfl : r = 9223372036854775807 := by
          rw [if_neg (by omega), if_pos (by omega)] at e2
          exact e2.symm
        go_wp2_with fail
        go_ret
        exact ⟨rfl, by first | rfl | trivial⟩
      · have d3 : decide (s ≤ 0) = false := decide_eq_false c3
        obtain rfl : r = s := by
          rw [if_neg (by omega), if_neg (by omega)] at e2
          omega
        go_wp2_with fail
        go_ret
        exact ⟨rfl, by first | rfl | trivial⟩
    · have d2 : decide (0 < b) = false := decide_eq_false c2
      obtain rfl : r = s := by
        rw [if_neg (by omega), if_neg (by omega)] at e2
        omega
      go_wp2_with fail
      go_ret
      exact ⟨rfl, by first | rfl | trivial⟩
  · have d1 : decide (0 < a) = false := decide_eq_false c1
    by_cases c4 : a < 0
    · have d4 : decide (a < 0) = true := decide_eq_true c4
      by_cases c2 : b < 0
      · have d2 : decide (b < 0) = true := decide_eq_true c2
        by_cases c3 : 0 ≤ s
        · have d3 : decide (0 ≤ s) = true := decide_eq_true c3
          obtain rfl : r = -9223372036854775808 := by
            rw [if_pos (by omega)] at e2
            exact e2.symm
          go_wp2_with fail
          go_ret
          exact ⟨rfl, by first | rfl | trivial⟩
        · have d3 : decide (0 ≤ s) = false := decide_eq_false c3
          obtain rfl : r = s := by
            rw [if_neg (by omega), if_neg (by omega)] at e2
            omega
          go_wp2_with fail
          go_ret
          exact ⟨rfl, by first | rfl | trivial⟩
      · have d2 : decide (b < 0) = false := decide_eq_false c2
        obtain rfl : r = s := by
          rw [if_neg (by omega), if_neg (by omega)] at e2
          omega
        go_wp2_with fail
        go_ret
        exact ⟨rfl, by first | rfl | trivial⟩
    · have d4 : decide (a < 0) = false := decide_eq_false c4
      obtain rfl : r = s := by
        rw [if_neg (by omega), if_neg (by omega)] at e2
        omega
      go_wp2_with fail
      go_ret
      exact ⟨rfl, by first | rfl | trivial⟩
abbrev dist (x : Int) : Int := max x 0
set_option maxRecDepth 20000 in
theorem ret_iv1 {fn : Func} {p : Tmp} {R : Ending → World → Prop} {a : Act} {w : World} (hr : fn.results = #[.cell p 27]) (g : Nat) (t : TypeId) (cs : Array Value) (hp : a.tmps.getD p undef = .pointer (some ⟨g, 0, none⟩)) (hd : a.defers = []) (b : Blk w g t cs) (z : cs.size = 2)
    (hR : R (.returned (.agg cs)) w) : bodyPost Try.prog fn R .ret a w :=
  bodyPost_ret (results_cell_row hr _ w g t cs (0, 0) _ hp b.out Try.underlying27 rfl (by rw [z]; kernel_rfl)) hd hR
set_option maxRecDepth 20000 in
set_option maxHeartbeats 4000000 in
theorem around_any (o x : Int) (W : World) (ho : Is64 o) (hx : Is64 x) : Calls Try.prog 22 #[.int .i64 o, .int .i64 x] W fun e w' => e = .returned (.agg #[.int .i64 (cl64 (o - dist x)), .int .i64 (cl64 (o + dist x))]) ∧ Mo W w' := by
  obtain ⟨d, hd⟩ : ∃ d, dist x = d := ⟨_, rfl⟩
  rw [hd]
  have b : 0 ≤ d ∧ d ≤ 9223372036854775807 := by have h0 : max x 0 = d := hd; obtain ⟨h1, h2⟩ := hx; omega
  have P1 := Lib.hid (fun w => plus_any o (-d) w ho ⟨by omega, by omega⟩)
  have P2 := Lib.hid (fun w => plus_any o d w ho ⟨by omega, by omega⟩)
  have wd : IntKind.i64.wrap (-d) = -d := by rw [IntKind.wrap_i64]; omega
  rw [show o + -d = o - d by omega] at P1
  go_enter Try.func22, Try.ntmps22
  go_upto_region 2 with (fail)
  go_wp2_with fail
  refine (P1.out _).mono ?_
  rintro e w1 ⟨rfl, rfl⟩
  go_wp2_with fail
  refine (P2.out _).mono ?_
  rintro e w1 ⟨rfl, rfl⟩
  go_wp2_with fail
  refine ret_iv1 Try.results22 W.heap.size _ #[.int .i64 (cl64 (o - d)), .int .i64 (cl64 (o + d))] rfl rfl inferInstance rfl ?_
  exact ⟨rfl, Mor.out⟩
set_option maxRecDepth 20000 in
theorem cl64_low {o d : Int} (ho : Is64 o) (hd : 0 ≤ d) (h2 : d ≤ 9223372036854775807) : (cl64 (o - d) = o - d) ∨ (cl64 (o - d) = -9223372036854775808 ∧ o - cl64 (o - d) < d) := by
  obtain ⟨h3, h4⟩ := ho
  unfold cl64
  by_cases c : o - d < -9223372036854775808
  · rw [if_pos c]; right; omega
  · rw [if_neg c, if_neg (by omega)]; left; rfl
set_option maxRecDepth 20000 in
theorem cl64_high {o d : Int} (ho : Is64 o) (hd : 0 ≤ d) (h2 : d ≤ 9223372036854775807) : (cl64 (o + d) = o + d) ∨ (cl64 (o + d) = 9223372036854775807 ∧ cl64 (o + d) - o < d) := by
  obtain ⟨h3, h4⟩ := ho
  unfold cl64
  by_cases c : 9223372036854775807 < o + d
  · rw [if_neg (by omega), if_pos c]; right; omega
  · rw [if_neg (by omega), if_neg c]; left; rfl
set_option maxRecDepth 20000 in
theorem cl64_is (x : Int) : Is64 (cl64 x) := by
  unfold cl64 Is64
  split
  · omega
  · split <;> omega
set_option maxRecDepth 20000 in
set_option maxHeartbeats 8000000 in
theorem around33_any (o x : Int) (W : World) (ho : Is64 o) (hx : Is64 x) : Calls Try.prog 6 #[.int .i64 o, .int .i64 x] W fun e w' => e = .returned (.bool true) ∧ Mo W w' := by
  obtain ⟨d, hd⟩ : ∃ d, dist x = d := ⟨_, rfl⟩
  have b : 0 ≤ d ∧ d ≤ 9223372036854775807 := by have h0 : max x 0 = d := hd; obtain ⟨h1, h2⟩ := hx; omega
  have AR := Lib.hid (fun w => around_any o x w ho hx)
  rw [hd] at AR
  have L1 := cl64_low ho b.1 b.2
  have L2 := cl64_high ho b.1 b.2
  have I1 := cl64_is (o - d)
  have I2 := cl64_is (o + d)
  obtain ⟨lo, hlo⟩ : ∃ y, cl64 (o - d) = y := ⟨_, rfl⟩
  obtain ⟨hi, hhi⟩ : ∃ y, cl64 (o + d) = y := ⟨_, rfl⟩
  rw [hlo] at L1 I1 AR
  rw [hhi] at L2 I2 AR
  obtain ⟨i1, i2⟩ := I1
  obtain ⟨i3, i4⟩ := I2
  obtain ⟨o1, o2⟩ := ho
  obtain ⟨p, hp⟩ : ∃ y, o - lo = y := ⟨_, rfl⟩
  obtain ⟨q, hq⟩ : ∃ y, hi - o = y := ⟨_, rfl⟩
  have d1 : decide (o < lo) = false := decide_eq_false (by omega)
  have d2 : decide (hi < o) = false := decide_eq_false (by omega)
  have wp : IntKind.u64.wrap (IntKind.u64.wrap o - IntKind.u64.wrap lo) = p := by
    rw [IntKind.wrap_u64, IntKind.wrap_u64, IntKind.wrap_u64]
    omega
  have wq : IntKind.u64.wrap (IntKind.u64.wrap hi - IntKind.u64.wrap o) = q := by
    rw [IntKind.wrap_u64, IntKind.wrap_u64, IntKind.wrap_u64]
    omega
  have wd : IntKind.u64.wrap d = d := by rw [IntKind.wrap_u64]; omega
  clear hlo hhi
  go_enter Try.func6, Try.ntmps6
  go_wp2_with fail
  refine (AR.out _).mono ?_
  rintro e w1 ⟨rfl, M1⟩
  have L1' := Lib.hid L1
  have L2' := Lib.hid L2
  clear L1 L2
  go_upto_region 5 with (fail)
  go_region
  go_upto_region 6 with (fail)
  clear wp wq
  rcases L1'.out with L1 | ⟨L1, L3⟩
  · obtain rfl : p = d := by omega
    rcases L2'.out with L2 | ⟨L2, L4⟩
    · obtain rfl : q = p := by omega
      clear L1 L2 L1' L2'
      go_wp2_with fail
      refine (works_any _).mono ?_
      rintro e w2 ⟨rfl, M2⟩
      go_wp2_with fail
      go_ret
      exact ⟨rfl, ((Mor.out : Mo W _).trans M1).trans ((Mor.out : Mo w1 _).trans M2)⟩
    · have c1 : (q == p) = false := by simp; omega
      have c2 : (hi == 9223372036854775807) = true := by simp; omega
      have c3 : decide (q < p) = true := decide_eq_true (by omega)
      clear L1 L2 L1' L2'
      go_wp2_with fail
      refine (works_any _).mono ?_
      rintro e w2 ⟨rfl, M2⟩
      go_wp2_with fail
      go_ret
      exact ⟨rfl, ((Mor.out : Mo W _).trans M1).trans ((Mor.out : Mo w1 _).trans M2)⟩
  · have c4 : (p == d) = false := by simp; omega
    have c5 : (lo == -9223372036854775808) = true := by simp; omega
    have c6 : decide (p < d) = true := decide_eq_true (by omega)
    rcases L2'.out with L2 | ⟨L2, L4⟩
    · obtain rfl : q = d := by omega
      clear L1 L2 L1' L2'
      go_wp2_with fail
      refine (works_any _).mono ?_
      rintro e w2 ⟨rfl, M2⟩
      go_wp2_with fail
      go_ret
      exact ⟨rfl, ((Mor.out : Mo W _).trans M1).trans ((Mor.out : Mo w1 _).trans M2)⟩
    · have c1 : (q == d) = false := by simp; omega
      have c2 : (hi == 9223372036854775807) = true := by simp; omega
      have c3 : decide (q < d) = true := decide_eq_true (by omega)
      clear L1 L2 L1' L2'
      go_wp2_with fail
      refine (works_any _).mono ?_
      rintro e w2 ⟨rfl, M2⟩
      go_wp2_with fail
      go_ret
      exact ⟨rfl, ((Mor.out : Mo W _).trans M1).trans ((Mor.out : Mo w1 _).trans M2)⟩
end Go.Proofs.Ytdppkbnjedehbaa
