/- horologelaw01.known returns true. -/
import Derived.Test.YtaboiojabmbioaaDiv
import Derived.Test.YtaboiojabmbioaaMo
namespace Go.Proofs.Ytaboiojabmbioaa
open Go.RowKit

abbrev LW (h l : Int) : Value := .agg #[.int .i64 h, .int .u64 l]
theorem lw (x h l : Int) (e : x = h * 18446744073709551616 + l) (h1 : 0 ≤ l) (h2 : l < 18446744073709551616) : WV x = LW h l := by
  subst e; show Value.agg #[.int .i64 (hiW _), .int .u64 (loW _)] = _; rw [hi_mk _ _ h1 h2, lo_mk _ _ h1 h2]
theorem of_lit (n h l : Int) (h1 : -9223372036854775808 ≤ n) (h2 : n ≤ 9223372036854775807) (e : n = h * 18446744073709551616 + l) (h3 : 0 ≤ l) (h4 : l < 18446744073709551616) (w : World) :
    Calls Try.prog 23 #[.int .i64 n] w fun e w' => e = .returned (LW h l) ∧ Mo w w' := by
  rw [← lw n h l e h3 h4]; exact of_any n h1 h2 w
theorem k_root (a r : Int) (ha : InW a) (h : 0 ≤ a) (hr : IsRoot r a) (w : World) :
    Calls Try.prog 29 #[WV a] w fun e w' => e = .returned (.int .u64 r) ∧ Mo w w' :=
  (root_pos a ha h w).mono fun _ _ ⟨s, he, hs, hm⟩ => ⟨by rw [he, root_uniq hs hr], hm⟩
theorem k_d2 (w : World) : Calls Try.prog 18 #[LW (-1) 18446744073709551609, .int .u64 2] w fun e w' => e = .returned (.tuple #[LW (-1) 18446744073709551612, .int .u64 1, .bool true]) ∧ Mo w w' := by
  have h := div_any (-7) 2 (inW_i64 (by omega) (by omega)) (by omega) (by omega) w
  rw [show (-7 : Int) / 2 = -4 by decide, show (-7 : Int) % 2 = 1 by decide, lw (-7) (-1) 18446744073709551609 (by omega) (by omega) (by omega), lw (-4) (-1) 18446744073709551612 (by omega) (by omega) (by omega)] at h
  exact h
theorem k_d0 (w : World) : Calls Try.prog 18 #[LW 0 7, .int .u64 0] w fun e w' => e = .returned (.tuple #[LW 0 0, .int .u64 0, .bool false]) ∧ Mo w w' := by
  have h := div_none 7 w
  rw [lw 7 0 7 (by omega) (by omega) (by omega), lw 0 0 0 (by omega) (by omega) (by omega)] at h
  exact h
theorem k_a1 (w : World) : Calls Try.prog 24 #[LW 9223372036854775807 18446744073709551615, LW 0 1] w fun e w' => e = .returned (LW 9223372036854775807 18446744073709551615) ∧ Mo w w' := by
  have h := add_any maxW 1 (by unfold InW maxW; omega) (inW_i64 (by omega) (by omega)) w
  rw [show cl (maxW + 1) = maxW by decide, lw maxW 9223372036854775807 18446744073709551615 (by unfold maxW; omega) (by omega) (by omega), lw 1 0 1 (by omega) (by omega) (by omega)] at h
  exact h
theorem k_n1 (w : World) : Calls Try.prog 26 #[LW (-9223372036854775808) 0] w fun e w' => e = .returned (LW 9223372036854775807 18446744073709551615) ∧ Mo w w' := by
  have h := neg_any minW (by unfold InW minW; omega) w
  rw [show cl (-minW) = maxW by decide, lw maxW 9223372036854775807 18446744073709551615 (by unfold maxW; omega) (by omega) (by omega), lw minW (-9223372036854775808) 0 (by unfold minW; omega) (by omega) (by omega)] at h
  exact h
theorem k_h1 (w : World) : Calls Try.prog 16 #[LW (-1) 18446744073709551613] w fun e w' => e = .returned (LW (-1) 18446744073709551614) ∧ Mo w w' := by
  have h := half_any (-3) (inW_i64 (by omega) (by omega)) w
  rw [show (-3 : Int) / 2 = -2 by decide, lw (-3) (-1) 18446744073709551613 (by omega) (by omega) (by omega), lw (-2) (-1) 18446744073709551614 (by omega) (by omega) (by omega)] at h
  exact h
theorem k_u1 (w : World) : Calls Try.prog 10 #[.int .i64 (-9223372036854775808), .int .i64 (-9223372036854775808)] w fun e w' => e = .returned (LW 4611686018427387904 0) ∧ Mo w w' := by
  have h := mul_any (-9223372036854775808) (-9223372036854775808) (by omega) (by omega) (by omega) (by omega) w
  rw [lw ((-9223372036854775808) * (-9223372036854775808)) 4611686018427387904 0 (by omega) (by omega) (by omega)] at h
  exact h
theorem k_r24 (w : World) : Calls Try.prog 29 #[LW 0 24] w fun e w' => e = .returned (.int .u64 4) ∧ Mo w w' := by
  have h := k_root 24 4 (inW_i64 (by omega) (by omega)) (by omega) ⟨by omega, by omega, by omega⟩ w
  rw [lw 24 0 24 (by omega) (by omega) (by omega)] at h
  exact h
theorem k_r25 (w : World) : Calls Try.prog 29 #[LW 0 25] w fun e w' => e = .returned (.int .u64 5) ∧ Mo w w' := by
  have h := k_root 25 5 (inW_i64 (by omega) (by omega)) (by omega) ⟨by omega, by omega, by omega⟩ w
  rw [lw 25 0 25 (by omega) (by omega) (by omega)] at h
  exact h
theorem k_r4 (w : World) : Calls Try.prog 29 #[LW (-1) 18446744073709551612] w fun e w' => e = .returned (.int .u64 0) ∧ Mo w w' := by
  have h := root_neg (-4) (by decide) w
  rw [lw (-4) (-1) 18446744073709551612 (by omega) (by omega) (by omega)] at h
  exact h
set_option maxHeartbeats 1000000 in
theorem known_any (w : World) : Calls Try.prog 8 #[] w fun e w' => e = .returned (.bool true) ∧ Mo w w' := by
  go_enter Try.func8, Try.ntmps8
  go_wp2_with fail
  refine (of_lit (-7) (-1) 18446744073709551609 (by omega) (by omega) (by omega) (by omega) (by omega) _).mono ?_; rintro e w1 ⟨rfl, J, d, rfl⟩
  go_wp2_with fail
  refine (k_d2 _).mono ?_; rintro e w1 ⟨rfl, J, d, rfl⟩
  go_wp2_with fail
  refine (of_lit (7) (0) 7 (by omega) (by omega) (by omega) (by omega) (by omega) _).mono ?_; rintro e w1 ⟨rfl, J, d, rfl⟩
  go_wp2_with fail
  refine (k_d0 _).mono ?_; rintro e w1 ⟨rfl, J, d, rfl⟩
  go_wp2_with fail
  refine wp_region_mo (by kernel_rfl) (by kernel_rfl) ?_
  repeat (go_big_quiet_step (fail))
  go_big_quiet_step (exact quiet_mo (of_lit (1) (0) 1 (by omega) (by omega) (by omega) (by omega) (by omega) _))
  repeat (go_big_quiet_step (fail))
  go_big_quiet_step (exact quiet_mo (k_a1 _))
  repeat (go_big_quiet_step (fail))
  go_big_quiet_step (exact quiet_mo (k_n1 _))
  repeat (go_big_quiet_step (fail))
  go_big_quiet_step (exact quiet_mo (of_lit (-3) (-1) 18446744073709551613 (by omega) (by omega) (by omega) (by omega) (by omega) _))
  repeat (go_big_quiet_step (fail))
  go_big_quiet_step (exact quiet_mo (k_h1 _))
  repeat (go_big_quiet_step (fail))
  go_big_quiet_step (exact quiet_mo (of_lit (-2) (-1) 18446744073709551614 (by omega) (by omega) (by omega) (by omega) (by omega) _))
  repeat (go_big_quiet_step (fail))
  go_big_quiet_step (exact quiet_mo (of_lit (-4) (-1) 18446744073709551612 (by omega) (by omega) (by omega) (by omega) (by omega) _))
  repeat (go_big_quiet_step (fail))
  go_big_quiet_step (exact quiet_mo (k_u1 _))
  repeat (go_big_quiet_step (fail))
  go_big_quiet_step (exact quiet_mo (of_lit (24) (0) 24 (by omega) (by omega) (by omega) (by omega) (by omega) _))
  repeat (go_big_quiet_step (fail))
  go_big_quiet_step (exact quiet_mo (k_r24 _))
  repeat (go_big_quiet_step (fail))
  go_big_quiet_step (exact quiet_mo (of_lit (25) (0) 25 (by omega) (by omega) (by omega) (by omega) (by omega) _))
  repeat (go_big_quiet_step (fail))
  go_big_quiet_step (exact quiet_mo (k_r25 _))
  repeat (go_big_quiet_step (fail))
  go_big_quiet_step (exact quiet_mo (of_lit (-4) (-1) 18446744073709551612 (by omega) (by omega) (by omega) (by omega) (by omega) _))
  repeat (go_big_quiet_step (fail))
  go_big_quiet_step (exact quiet_mo (k_r4 _))
  repeat (go_big_quiet_step (fail))
  refine wpQuiet_nil ?_
  intro _ hw'
  obtain ⟨⟨J, d⟩, hw''⟩ := hw'
  subst hw''
  go_wp2_with fail
  go_ret
  exact ⟨rfl, Mor.out⟩
end Go.Proofs.Ytaboiojabmbioaa
