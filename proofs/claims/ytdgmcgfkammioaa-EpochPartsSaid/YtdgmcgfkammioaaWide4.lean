/- What each function of package wide returns, in integers: Scale, Root. -/
import Derived.Test.YtdgmcgfkammioaaWide3
namespace Go.Proofs.Ytdgmcgfkammioaa
open Go.RowKit

/-! ### Root -/
/-- r is the root of a, cut off -/
def IsRoot (r a : Int) : Prop := 0 ≤ r ∧ r * r ≤ a ∧ a < (r + 1) * (r + 1)
set_option maxRecDepth 20000 in
theorem sq_mono {x y : Int} (h : 0 ≤ x) (h' : x ≤ y) : x * x ≤ y * y := Int.mul_le_mul h' h' h (by omega)
set_option maxRecDepth 20000 in
theorem sq_lt {x y : Int} (_ : 0 ≤ x) (h2 : 0 ≤ y) (h' : x * x < y * y) : x < y := by
  rcases Int.lt_or_le x y with c | c
  · exact c
  · have := sq_mono h2 c; omega
set_option maxRecDepth 20000 in
theorem root_uniq {r s a : Int} (h : IsRoot r a) (h' : IsRoot s a) : r = s := by
  obtain ⟨h1, h2, h3⟩ := h
  obtain ⟨g1, g2, g3⟩ := h'
  have := sq_lt h1 (by omega) (show r * r < (s + 1) * (s + 1) by omega)
  have := sq_lt g1 (by omega) (show s * s < (r + 1) * (r + 1) by omega)
  omega
/-- what the loop of Root holds: bt is the next bit, p what may still come -/
def RootRel (a bt rt : Int) : Prop :=
  ∃ p : Int, (bt = 0 ∧ p = 1 ∨ ∃ j : Nat, bt = 2 ^ j ∧ p = 2 ^ (j + 1)) ∧ rt % p = 0 ∧ 0 ≤ rt ∧ rt + p ≤ 18446744073709551616 ∧ rt * rt ≤ a ∧ a < (rt + p) * (rt + p)
set_option maxRecDepth 20000 in
theorem rootRel_start {a : Int} (ha : InW a) (h : 0 ≤ a) : RootRel a 9223372036854775808 0 :=
  ⟨18446744073709551616, .inr ⟨63, by decide, by decide⟩, by omega, by omega, by omega, by omega, by have := ha.2; omega⟩
set_option maxRecDepth 20000 in
theorem rootRel_or {a bt rt : Int} (h : RootRel a bt rt) (hb : bt ≠ 0) : bits .or .u64 rt bt = rt + bt ∧ 0 < bt ∧ 0 ≤ rt ∧ rt + bt < 18446744073709551616 := by
  obtain ⟨p, hp | ⟨j, hj, hp⟩, h1, h2, h3, _⟩ := h
  · exact absurd hp.1 hb
  · have hpos : (0 : Int) < 2 ^ j := Int.pow_pos (by decide)
    have h2p : (2 : Int) ^ (j + 1) = 2 ^ j * 2 := Int.pow_succ 2 j
    obtain ⟨r, rfl⟩ := Int.eq_ofNat_of_zero_le h2
    have hb' : bt = ((2 ^ j : Nat) : Int) := by rw [hj]; simp
    have hp' : p = ((2 ^ (j + 1) : Nat) : Int) := by rw [hp]; simp
    have hm : r % 2 ^ (j + 1) = 0 := by rw [hp'] at h1; exact_mod_cast h1
    refine ⟨?_, by omega, by omega, by omega⟩
    rw [hb', u64_or_nat _ _ (by omega) (by omega), nat_join (j + 1) _ _ hm (by rw [Nat.pow_succ]; have := Nat.pow_pos (n := j) (show 0 < 2 by decide); omega)]
    omega
set_option maxRecDepth 20000 in
theorem rootRel_next {a bt rt : Int} (h : RootRel a bt rt) (hb : bt ≠ 0) (rt' : Int) (hr : rt' = rt + bt ∧ (rt + bt) * (rt + bt) ≤ a ∨ rt' = rt ∧ a < (rt + bt) * (rt + bt)) : RootRel a (bt / 2) rt' ∧ bt / 2 < bt := by
  obtain ⟨p, hp | ⟨j, hj, hp⟩, h1, h2, h3, h4, h5⟩ := h
  · exact absurd hp.1 hb
  · have hpos : (0 : Int) < 2 ^ j := Int.pow_pos (by decide)
    have h2p : (2 : Int) ^ (j + 1) = 2 ^ j * 2 := Int.pow_succ 2 j
    have hd : rt % bt = 0 := by
      have hdv : (2 : Int) ^ j ∣ rt := Int.dvd_trans ⟨2, h2p⟩ (hp ▸ Int.dvd_of_emod_eq_zero h1)
      rw [hj]; exact Int.emod_eq_zero_of_dvd hdv
    refine ⟨⟨bt, ?_, ?_, by rcases hr with ⟨rfl, _⟩ | ⟨rfl, _⟩ <;> omega, ?_, ?_, ?_⟩, by omega⟩
    · cases j with
      | zero => left; simp at hj; omega
      | succ i =>
        right
        have h2i : (2 : Int) ^ (i + 1) = 2 ^ i * 2 := Int.pow_succ 2 i
        exact ⟨i, by rw [hj, h2i]; omega, hj⟩
    · rcases hr with ⟨rfl, _⟩ | ⟨rfl, _⟩
      · rw [Int.add_emod, hd]; simp
      · exact hd
    · rcases hr with ⟨rfl, _⟩ | ⟨rfl, _⟩ <;> omega
    · rcases hr with ⟨rfl, h⟩ | ⟨rfl, _⟩
      · exact h
      · exact h4
    · rcases hr with ⟨rfl, h⟩ | ⟨rfl, h⟩
      · have : rt + bt + bt = rt + p := by omega
        rw [this]; exact h5
      · exact h
set_option maxRecDepth 20000 in
theorem rootRel_end {a rt : Int} (h : RootRel a 0 rt) : IsRoot rt a := by
  obtain ⟨p, hp | ⟨j, hj, hp⟩, h1, h2, h3, h4, h5⟩ := h
  · rw [hp.2] at h5; exact ⟨h2, h4, h5⟩
  · have hpos : (0 : Int) < 2 ^ j := Int.pow_pos (by decide)
    omega
def RootRet (a : Int) (w : World) (e : Ending) (w' : World) : Prop := ∃ r, e = .returned (.int .u64 r) ∧ IsRoot r a ∧ Mo w w'
end Go.Proofs.Ytdgmcgfkammioaa
