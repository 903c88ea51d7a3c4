/- era: Fold, Number, gap, Unfold, and fix.Moment: what they return, in integers. -/
import Derived.Test.YtpemhbblpedgeaaEraP
import Derived.Test.YtpemhbblpedgeaaWide3
namespace Go.Proofs.Ytpemhbblpedgeaa
open Go.RowKit

theorem fold_any (a : Int) (w : World) : Calls Try.prog 8 #[WV a] w fun e w' => e = .returned (.int .u64 (loW a)) ∧ Mo w w' := by
  go_enter Try.func8, Try.ntmps8
  go_wp2_with fail
  go_ret
  exact ⟨rfl, Mor.out⟩
theorem number_any (a : Int) (w : World) : Calls Try.prog 16 #[WV a] w fun e w' => e = .returned (.int .i64 (hiW a)) ∧ Mo w w' := by
  go_enter Try.func16, Try.ntmps16
  go_wp2_with fail
  go_ret
  exact ⟨rfl, Mor.out⟩
set_option maxHeartbeats 400000 in
theorem moment_any (s f : Int) (h1 : -9223372036854775808 ≤ s) (h2 : s ≤ 9223372036854775807) (f1 : 0 ≤ f) (f2 : f ≤ 4294967295) (w : World) :
    Calls Try.prog 25 #[.int .i64 s, .int .u32 f] w fun e w' => e = .returned (WV (s * 4294967296 + f)) ∧ Mo w w' := by
  obtain ⟨p, hp⟩ : ∃ p, p = s * 4294967296 := ⟨_, rfl⟩
  obtain ⟨q, hq⟩ : ∃ q, q = p + f := ⟨_, rfl⟩
  have ip : InW p := by unfold InW; omega
  have iq : InW q := by unfold InW; omega
  have M1 : Hid (∀ w, Calls Try.prog 39 #[.int .i64 s, .int .i64 4294967296] w fun e w' => e = .returned (WV p) ∧ Mo w w') := Lib.hid (by rw [hp]; exact mul_any s 4294967296 h1 h2 (by omega) (by omega))
  have O1 : Hid (∀ w, Calls Try.prog 40 #[.int .i64 f] w fun e w' => e = .returned (WV f) ∧ Mo w w') := Lib.hid (of_any f (by omega) (by omega))
  have A1 : Hid (∀ w, Calls Try.prog 33 #[WV p, WV f] w fun e w' => e = .returned (WV q) ∧ Mo w w') := Lib.hid (fun w => by
    have := add_any p f ip (inW_u64 f1 (by omega)) w
    rwa [← hq, cl_in iq] at this)
  rw [← hp, ← hq]
  clear hp hq ip iq
  go_enter Try.func25, Try.ntmps25
  go_wp2_with fail
  refine (M1.out _).mono ?_; rintro e w1 ⟨rfl, J1, d1, rfl⟩
  go_wp2_with fail
  refine (O1.out _).mono ?_; rintro e w1 ⟨rfl, J2, d2, rfl⟩
  go_wp2_with fail
  refine (A1.out _).mono ?_; rintro e w1 ⟨rfl, J3, d3, rfl⟩
  go_wp2_with fail
  exact bodyPost_ret (v := WV q) (by simp [results, Try.results25, go_sem]) rfl ⟨rfl, Mor.out⟩
set_option maxHeartbeats 400000 in
theorem gap_any (x y : Int) (hx : InW x) (hy : InW y) (w : World) :
    Calls Try.prog 18 #[WV x, WV y] w fun e w' => e = .returned (WV (cl (absI (x - y)))) ∧ Mo w w' := by
  obtain ⟨g, hg⟩ : ∃ g, g = cl (absI (x - y)) := ⟨_, rfl⟩
  obtain ⟨o, ho⟩ : ∃ o, cmpI x y = o := ⟨_, rfl⟩
  have C1 : Hid (∀ w, Calls Try.prog 11 #[WV x, WV y] w fun e w' => e = .returned (.int .i64 o) ∧ Mo w w') := Lib.hid (by rw [← ho]; exact cmp_any x y)
  rw [← hg]
  by_cases c : x < y
  · have D1 : Hid (∀ w, Calls Try.prog 10 #[WV y, WV x] w fun e w' => e = .returned (WV g) ∧ Mo w w') := Lib.hid (fun w => by
      have := sub_any y x hy hx w
      rwa [hg, show absI (x - y) = y - x by unfold absI; rw [if_pos (by omega)]; omega])
    obtain rfl : o = -1 := by rw [← ho]; exact if_pos c
    clear hg ho c
    go_enter Try.func18, Try.ntmps18
    go_wp2_with fail
    refine (C1.out _).mono ?_; rintro e w1 ⟨rfl, J1, d1, rfl⟩
    go_wp2_with fail
    refine (D1.out _).mono ?_; rintro e w1 ⟨rfl, J2, d2, rfl⟩
    go_wp2_with fail
    exact bodyPost_ret (v := WV g) (by simp [results, Try.results18, go_sem]) rfl ⟨rfl, Mor.out⟩
  · have D1 : Hid (∀ w, Calls Try.prog 10 #[WV x, WV y] w fun e w' => e = .returned (WV g) ∧ Mo w w') := Lib.hid (fun w => by
      have := sub_any x y hx hy w
      rwa [hg, show absI (x - y) = x - y by unfold absI; rw [if_neg (by omega)]])
    have o1 : ¬ o < 0 := by
      rw [← ho]; unfold cmpI; rw [if_neg c]; split <;> decide
    clear hg ho c
    go_enter Try.func18, Try.ntmps18
    go_wp2_with fail
    refine (C1.out _).mono ?_; rintro e w1 ⟨rfl, J1, d1, rfl⟩
    go_wp2_with fail
    refine (D1.out _).mono ?_; rintro e w1 ⟨rfl, J2, d2, rfl⟩
    go_wp2_with fail
    exact bodyPost_ret (v := WV g) (by simp [results, Try.results18, go_sem]) rfl ⟨rfl, Mor.out⟩
end Go.Proofs.Ytpemhbblpedgeaa
