/- horologelaw33.TruthAround: the walk. -/
import Derived.Test.YtdgmcgfkammioaaTruW
namespace Go.Proofs.Ytdgmcgfkammioaa
open Go.RowKit

def cl64 (x : Int) : Int := if x < -9223372036854775808 then -9223372036854775808 else if 9223372036854775807 < x then 9223372036854775807 else x
def Is64 (x : Int) : Prop := -9223372036854775808 ≤ x ∧ x ≤ 9223372036854775807
set_option maxRecDepth 20000 in
theorem cl64_same {x : Int} (h : Is64 x) : cl64 x = x := by
  obtain ⟨h1, h2⟩ := h
  unfold cl64
  rw [if_neg (by omega), if_neg (by omega)]
attribute [local go_sem] blk_cell' blk_frozen'
set_option maxRecDepth 20000 in
set_option maxHeartbeats 4000000 in
theorem plus_any (a b : Int) (W : World) (ha : Is64 a) (hb : Is64 b) : Calls Try.prog 60 #[.int .i64 a, .int .i64 b] W fun e w' => e = .returned (.int .i64 (cl64 (a + b))) ∧ W = w' := by
  obtain ⟨s, hs⟩ : ∃ s, IntKind.i64.wrap (a + b) = s := ⟨_, rfl⟩
  obtain ⟨r, hr⟩ : ∃ r, cl64 (a + b) = r := ⟨_, rfl⟩
  rw [hr]
  obtain ⟨a1, a2⟩ := ha
  obtain ⟨b1, b2⟩ := hb
  have e1 := hs
  rw [IntKind.wrap_i64] at e1
  have e2 := hr
  unfold cl64 at e2
  go_enter Try.func60, Try.ntmps60
  by_cases c1 : 0 < a
  · have d1 : decide (0 < a) = true := decide_eq_true c1
    have d5 : decide (a < 0) = false := decide_eq_false (by omega)
    by_cases c2 : 0 < b
    · have d2 : decide (0 < b) = true := decide_eq_true c2
      by_cases c3 : s ≤ 0
      · have d3 : decide (s ≤ 0) = true := decide_eq_true c3
        obtain rfl : r = 9223372036854775807 := by
          rw [if_neg (by omega), if_pos (by omega)] at e2
          exact e2.symm
        go_wp2_with fail
        go_ret
        exact ⟨rfl, by first | rfl | trivial⟩
      · have d3 : decide (s ≤ 0) = false := decide_eq_false c3
        obtain rfl : r = s := by
          rw [if_neg (by omega), if_neg (by omega)] at e2
          omega
        go_wp2_with fail
        go_ret
        exact ⟨rfl, by first | rfl | trivial⟩
    · have d2 : decide (0 < b) = false := decide_eq_false c2
      obtain rfl : r = s := by
        rw [if_neg (by omega), if_neg (by omega)] at e2
        omega
      go_wp2_with fail
      go_ret
      exact ⟨rfl, by first | rfl | trivial⟩
  · have d1 : decide (0 < a) = false := decide_eq_false c1
    by_cases c4 : a < 0
    · have d4 : decide (a < 0) = true := decide_eq_true c4
      by_cases c2 : b < 0
      · have d2 : decide (b < 0) = true := decide_eq_true c2
        by_cases c3 : 0 ≤ s
        · have d3 : decide (0 ≤ s) = true := decide_eq_true c3
          obtain rfl : r = -9223372036854775808 := by
            rw [if_pos (by omega)] at e2
            exact e2.symm
          go_wp2_with fail
          go_ret
          exact ⟨rfl, by first | rfl | trivial⟩
        · have d3 : decide (0 ≤ s) = false := decide_eq_false c3
          obtain rfl : r = s := by
            rw [if_neg (by omega), if_neg (by omega)] at e2
            omega
          go_wp2_with fail
          go_ret
          exact ⟨rfl, by first | rfl | trivial⟩
      · have d2 : decide (b < 0) = false := decide_eq_false c2
        obtain rfl : r = s := by
          rw [if_neg (by omega), if_neg (by omega)] at e2
          omega
        go_wp2_with fail
        go_ret
        exact ⟨rfl, by first | rfl | trivial⟩
    · have d4 : decide (a < 0) = false := decide_eq_false c4
      obtain rfl : r = s := by
        rw [if_neg (by omega), if_neg (by omega)] at e2
        omega
      go_wp2_with fail
      go_ret
      exact ⟨rfl, by first | rfl | trivial⟩
abbrev dist (x : Int) : Int := max x 0
set_option maxRecDepth 20000 in
theorem ret_iv1 {fn : Func} {p : Tmp} {R : Ending → World → Prop} {a : Act} {w : World} (hr : fn.results = #[.cell p 97]) (g : Nat) (t : TypeId) (cs : Array Value) (hp : a.tmps.getD p undef = .pointer (some ⟨g, 0, none⟩)) (hd : a.defers = []) (b : Blk w g t cs) (z : cs.size = 2)
    (hR : R (.returned (.agg cs)) w) : bodyPost Try.prog fn R .ret a w :=
  bodyPost_ret (results_cell_row hr _ w g t cs (0, 0) _ hp b.out Try.underlying97 rfl (by rw [z]; kernel_rfl)) hd hR
set_option maxRecDepth 20000 in
set_option maxHeartbeats 4000000 in
theorem around_any (o x : Int) (W : World) (ho : Is64 o) (hx : Is64 x) : Calls Try.prog 39 #[.int .i64 o, .int .i64 x] W fun e w' => e = .returned (.agg #[.int .i64 (cl64 (o - dist x)), .int .i64 (cl64 (o + dist x))]) ∧ Mo W w' := by
  obtain ⟨d, hd⟩ : ∃ d, dist x = d := ⟨_, rfl⟩
  rw [hd]
  have b : 0 ≤ d ∧ d ≤ 9223372036854775807 := by have h0 : max x 0 = d := hd; obtain ⟨h1, h2⟩ := hx; omega
  have P1 := Lib.hid (fun w => plus_any o (-d) w ho ⟨by omega, by omega⟩)
  have P2 := Lib.hid (fun w => plus_any o d w ho ⟨by omega, by omega⟩)
  have wd : IntKind.i64.wrap (-d) = -d := by rw [IntKind.wrap_i64]; omega
  rw [show o + -d = o - d by omega] at P1
  go_enter Try.func39, Try.ntmps39
  go_upto_region 2 with (fail)
  go_wp2_with fail
  refine (P1.out _).mono ?_
  rintro e w1 ⟨rfl, rfl⟩
  go_wp2_with fail
  refine (P2.out _).mono ?_
  rintro e w1 ⟨rfl, rfl⟩
  go_wp2_with fail
  refine ret_iv1 Try.results39 W.heap.size _ #[.int .i64 (cl64 (o - d)), .int .i64 (cl64 (o + d))] rfl rfl inferInstance rfl ?_
  exact ⟨rfl, Mor.out⟩
set_option maxRecDepth 20000 in
theorem cl64_low {o d : Int} (ho : Is64 o) (hd : 0 ≤ d) (h2 : d ≤ 9223372036854775807) : (cl64 (o - d) = o - d) ∨ (cl64 (o - d) = -9223372036854775808 ∧ o - cl64 (o - d) < d) := by
  obtain ⟨h3, h4⟩ := ho
  unfold cl64
  by_cases c : o - d < -9223372036854775808
  · rw [if_pos c]; right; omega
  · rw [if_neg c, if_neg (by omega)]; left; rfl
set_option maxRecDepth 20000 in
theorem cl64_high {o d : Int} (ho : Is64 o) (hd : 0 ≤ d) (h2 : d ≤ 9223372036854775807) : (cl64 (o + d) = o + d) ∨ (cl64 (o + d) = 9223372036854775807 ∧ cl64 (o + d) - o < d) := by
  obtain ⟨h3, h4⟩ := ho
  unfold cl64
  by_cases c : 9223372036854775807 < o + d
  · rw [if_neg (by omega), if_pos c]; right; omega
  · rw [if_neg (by omega), if_neg c]; left; rfl
set_option maxRecDepth 20000 in
theorem cl64_is (x : Int) : Is64 (cl64 x) := by
  unfold cl64 Is64
  split
  · omega
  · split <;> omega
end Go.Proofs.Ytdgmcgfkammioaa
