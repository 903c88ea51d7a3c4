/- What each function of package wide returns, in integers: Scale, Root. -/
import Derived.Test.YtfojgjannhhbaaaWide3
namespace Go.Proofs.Ytfojgjannhhbaaa
open Go.RowKit

set_option maxRecDepth 20000 in
set_option maxHeartbeats 400000 in
theorem scale_any (a n : Int) (ha : InW a) (h3 : 0 ≤ n) (h4 : n ≤ 4294967295) (w : World) :
    Calls Try.prog 18 #[WV a, .int .u32 n] w fun e w' => e = .returned (WV (cl (a * n))) ∧ Mo w w' := by
  obtain ⟨m1, m2⟩ := absI_bd ha
  have L := scale_law (absI a) n m1 m2 h3 h4 (decide (hiW a < 0))
  have e : cl (if decide (hiW a < 0) = true then -(absI a * n) else absI a * n) = cl (a * n) := by
    by_cases c : hiW a < 0
    · have e : absI a = -a := if_pos (by unfold hiW at c; omega)
      simp only [c, decide_true, if_true, e, Int.neg_mul, Int.neg_neg]
    · have e : absI a = a := if_neg (by unfold hiW at c; omega)
      simp only [c, decide_false, e]; rfl
  rw [e] at L
  have H := fun w => signed_any ((loW (hiW (absI a) * n) + hiW (loW (absI a) * n)) % 18446744073709551616 * 18446744073709551616 + loW (loW (absI a) * n)) (decide (hiW a < 0)) (decide (0 < IntKind.u64.wrap (hiW (hiW (absI a) * n) + (loW (hiW (absI a) * n) + hiW (loW (absI a) * n)) / 18446744073709551616))) w
    (by have := lo1 (loW (absI a) * n); omega) (by have := lo2 (loW (absI a) * n); omega)
  rw [L, hi_mk _ _ (lo1 _) (lo2 _), lo_mk _ _ (lo1 _) (lo2 _)] at H
  have k1 : 0 ≤ hiW (absI a) := by unfold hiW; omega
  have k2 : hiW (absI a) < 18446744073709551616 := by unfold hiW; omega
  have k3 := lo1 (absI a)
  have k4 := lo2 (absI a)
  have k5 : 0 ≤ hiW (loW (absI a) * n) := by have := Int.mul_nonneg k3 h3; unfold hiW; omega
  have k6 := lo1 (hiW (absI a) * n)
  have n2 : n < 18446744073709551616 := by omega
  have HH := Lib.hid H
  clear H L e m1 m2
  go_enter Try.func18, Try.ntmps18
  go_wp2_with fail
  refine (size_any a ha _).mono ?_; rintro e w1 ⟨rfl, J, d, rfl⟩
  go_wp2_with fail
  refine (mul64_any _ _ k1 k2 h3 n2 _).mono ?_; rintro e w1 ⟨rfl, rfl⟩
  go_wp2_with fail
  refine (mul64_any _ _ k3 k4 h3 n2 _).mono ?_; rintro e w1 ⟨rfl, rfl⟩
  go_wp2_with (simp only [add64_0 _ _ k6 k5])
  refine (HH.out _).mono ?_; rintro e w1 ⟨rfl, J, d, rfl⟩
  go_wp2_with fail
  exact bodyPost_ret (v := WV (cl (a * n))) (by simp [results, Try.results18, go_sem]) rfl ⟨rfl, Mor.out⟩

/-! ### Root -/
/-- r is the root of a, cut off -/
def IsRoot (r a : Int) : Prop := 0 ≤ r ∧ r * r ≤ a ∧ a < (r + 1) * (r + 1)
set_option maxRecDepth 20000 in
theorem sq_mono {x y : Int} (h : 0 ≤ x) (h' : x ≤ y) : x * x ≤ y * y := Int.mul_le_mul h' h' h (by omega)
set_option maxRecDepth 20000 in
theorem sq_lt {x y : Int} (_ : 0 ≤ x) (h2 : 0 ≤ y) (h' : x * x < y * y) : x < y := by
  rcases Int.lt_or_le x y with c | c
  · exact c
  · have := sq_mono h2 c; omega
set_option maxRecDepth 20000 in
theorem root_uniq {r s a : Int} (h : IsRoot r a) (h' : IsRoot s a) : r = s := by
  obtain ⟨h1, h2, h3⟩ := h
  obtain ⟨g1, g2, g3⟩ := h'
  have := sq_lt h1 (by omega) (show r * r < (s + 1) * (s + 1) by omega)
  have := sq_lt g1 (by omega) (show s * s < (r + 1) * (r + 1) by omega)
  omega
/-- what the loop of Root holds: bt is the next bit, p what may still come -/
def RootRel (a bt rt : Int) : Prop :=
  ∃ p : Int, (bt = 0 ∧ p = 1 ∨ ∃ j : Nat, bt = 2 ^ j ∧ p = 2 ^ (j + 1)) ∧ rt % p = 0 ∧ 0 ≤ rt ∧ rt + p ≤ 18446744073709551616 ∧ rt * rt ≤ a ∧ a < (rt + p) * (rt + p)
set_option maxRecDepth 20000 in
theorem rootRel_start {a : Int} (ha : InW a) (h : 0 ≤ a) : RootRel a 9223372036854775808 0 :=
  ⟨18446744073709551616, .inr ⟨63, by decide, by decide⟩, by omega, by omega, by omega, by omega, by have := ha.2; omega⟩
set_option maxRecDepth 20000 in
theorem rootRel_or {a bt rt : Int} (h : RootRel a bt rt) (hb : bt ≠ 0) : bits .or .u64 rt bt = rt + bt ∧ 0 < bt ∧ 0 ≤ rt ∧ rt + bt < 18446744073709551616 := by
  obtain ⟨p, hp | ⟨j, hj, hp⟩, h1, h2, h3, _⟩ := h
  · exact absurd hp.1 hb
  · have hpos : (0 : Int) < 2 ^ j := Int.pow_pos (by decide)
    have h2p : (2 : Int) ^ (j + 1) = 2 ^ j * 2 := Int.pow_succ 2 j
    obtain ⟨r, rfl⟩ := Int.eq_ofNat_of_zero_le h2
    have hb' : bt = ((2 ^ j : Nat) : Int) := by rw [hj]; simp
    have hp' : p = ((2 ^ (j + 1) : Nat) : Int) := by rw [hp]; simp
    have hm : r % 2 ^ (j + 1) = 0 := by rw [hp'] at h1; exact_mod_cast h1
    refine ⟨?_, by omega, by omega, by omega⟩
    rw [hb', u64_or_nat _ _ (by omega) (by omega), nat_join (j + 1) _ _ hm (by rw [Nat.pow_succ]; have := Nat.pow_pos (n := j) (show 0 < 2 by decide); omega)]
    omega
set_option maxRecDepth 20000 in
theorem rootRel_next {a bt rt : Int} (h : RootRel a bt rt) (hb : bt ≠ 0) (rt' : Int) (hr : rt' = rt + bt ∧ (rt + bt) * (rt + bt) ≤ a ∨ rt' = rt ∧ a < (rt + bt) * (rt + bt)) : RootRel a (bt / 2) rt' ∧ bt / 2 < bt := by
  obtain ⟨p, hp | ⟨j, hj, hp⟩, h1, h2, h3, h4, h5⟩ := h
  · exact absurd hp.1 hb
  · have hpos : (0 : Int) < 2 ^ j := Int.pow_pos (by decide)
    have h2p : (2 : Int) ^ (j + 1) = 2 ^ j * 2 := Int.pow_succ 2 j
    have hd : rt % bt = 0 := by
      have hdv : (2 : Int) ^ j ∣ rt := Int.dvd_trans ⟨2, h2p⟩ (hp ▸ Int.dvd_of_emod_eq_zero h1)
      rw [hj]; exact Int.emod_eq_zero_of_dvd hdv
    refine ⟨⟨bt, ?_, ?_, by rcases hr with ⟨rfl, _⟩ | ⟨rfl, _⟩ <;> omega, ?_, ?_, ?_⟩, by omega⟩
    · cases j with
      | zero => left; simp at hj; omega
      | succ i =>
        right
        have h2i : (2 : Int) ^ (i + 1) = 2 ^ i * 2 := Int.pow_succ 2 i
        exact ⟨i, by rw [hj, h2i]; omega, hj⟩
    · rcases hr with ⟨rfl, _⟩ | ⟨rfl, _⟩
      · rw [Int.add_emod, hd]; simp
      · exact hd
    · rcases hr with ⟨rfl, _⟩ | ⟨rfl, _⟩ <;> omega
    · rcases hr with ⟨rfl, h⟩ | ⟨rfl, _⟩
      · exact h
      · exact h4
    · rcases hr with ⟨rfl, h⟩ | ⟨rfl, h⟩
      · have : rt + bt + bt = rt + p := by omega
        rw [this]; exact h5
      · exact h
set_option maxRecDepth 20000 in
theorem rootRel_end {a rt : Int} (h : RootRel a 0 rt) : IsRoot rt a := by
  obtain ⟨p, hp | ⟨j, hj, hp⟩, h1, h2, h3, h4, h5⟩ := h
  · rw [hp.2] at h5; exact ⟨h2, h4, h5⟩
  · have hpos : (0 : Int) < 2 ^ j := Int.pow_pos (by decide)
    omega
set_option maxRecDepth 20000 in
set_option maxHeartbeats 400000 in
theorem root_neg (a : Int) (h : hiW a < 0) (w : World) :
    Calls Try.prog 31 #[WV a] w fun e w' => e = .returned (.int .u64 0) ∧ Mo w w' := by
  go_enter Try.func31, Try.ntmps31
  go_wp2_with fail
  go_ret
  exact ⟨rfl, Mor.out⟩
def RootRet (a : Int) (w : World) (e : Ending) (w' : World) : Prop := ∃ r, e = .returned (.int .u64 r) ∧ IsRoot r a ∧ Mo w w'
set_option maxRecDepth 20000 in
set_option maxHeartbeats 1000000 in
theorem root_pos (a : Int) (ha : InW a) (h : 0 ≤ a) (w : World) :
    Calls Try.prog 31 #[WV a] w (RootRet a w) := by
  have hh : ¬ hiW a < 0 := by unfold hiW; omega
  have a1 : 0 ≤ hiW a := by omega
  have a2 := ha.h2
  go_enter Try.func31, Try.ntmps31
  go_wp2_with fail
  go_loop [3, 4] (fun r b => ∃ rt bt : Int, r = .int .u64 rt ∧ b = .int .u64 bt ∧ RootRel a bt rt) (fun _ b => (intOf b).toNat)
  case atStart => exact ⟨_, _, rfl, rfl, rootRel_start ha h⟩
  case round =>
    obtain ⟨rt, bt, rfl, rfl, hR⟩ := hrel
    by_cases hb : bt = 0
    · subst hb
      have hR' := Lib.hid (rootRel_end hR)
      clear hR
      go_wp2_with fail
      go_ret
      exact ⟨rt, rfl, hR'.out, Mor.out⟩
    · obtain ⟨o1, o2, o3, o4⟩ := rootRel_or hR hb
      have N := fun rt' => rootRel_next hR hb rt'
      have HN := Lib.hid N
      have s0 : 0 ≤ rt + bt := by omega
      have hd1 := hilo ((rt + bt) * (rt + bt))
      have hd2 := hilo a
      have l1 := lo1 ((rt + bt) * (rt + bt))
      have l2 := lo2 ((rt + bt) * (rt + bt))
      have l3 := lo1 a
      have l4 := lo2 a
      have HD1 := Lib.hid hd1
      have HD2 := Lib.hid hd2
      clear N hR hb hd1 hd2
      by_cases c1 : hiW ((rt + bt) * (rt + bt)) < hiW a
      · have hs : (rt + bt) * (rt + bt) ≤ a := by have := HD1.out; have := HD2.out; omega
        go_wp2_with (go_at_call 39; refine (mul64_any _ _ s0 o4 s0 o4 _).mono ?_; rintro e w1 ⟨rfl, rfl⟩)
        go_round
        case rel => exact ⟨rt + bt, bt / 2, rfl, rfl, (HN.out (rt + bt) (.inl ⟨rfl, hs⟩)).1⟩
        case measure => simp [intOf]; omega
      · by_cases c2 : hiW ((rt + bt) * (rt + bt)) = hiW a
        · by_cases c3 : loW ((rt + bt) * (rt + bt)) ≤ loW a
          · have hs : (rt + bt) * (rt + bt) ≤ a := by have := HD1.out; have := HD2.out; omega
            go_wp2_with (go_at_call 39; refine (mul64_any _ _ s0 o4 s0 o4 _).mono ?_; rintro e w1 ⟨rfl, rfl⟩)
            go_round
            case rel => exact ⟨rt + bt, bt / 2, rfl, rfl, (HN.out (rt + bt) (.inl ⟨rfl, hs⟩)).1⟩
            case measure => simp [intOf]; omega
          · have hs : a < (rt + bt) * (rt + bt) := by have := HD1.out; have := HD2.out; omega
            go_wp2_with (go_at_call 39; refine (mul64_any _ _ s0 o4 s0 o4 _).mono ?_; rintro e w1 ⟨rfl, rfl⟩)
            go_round
            case rel => exact ⟨rt, bt / 2, rfl, rfl, (HN.out rt (.inr ⟨rfl, hs⟩)).1⟩
            case measure => simp [intOf]; omega
        · have hs : a < (rt + bt) * (rt + bt) := by have := HD1.out; have := HD2.out; omega
          go_wp2_with (go_at_call 39; refine (mul64_any _ _ s0 o4 s0 o4 _).mono ?_; rintro e w1 ⟨rfl, rfl⟩)
          go_round
          case rel => exact ⟨rt, bt / 2, rfl, rfl, (HN.out rt (.inr ⟨rfl, hs⟩)).1⟩
          case measure => simp [intOf]; omega
end Go.Proofs.Ytfojgjannhhbaaa
