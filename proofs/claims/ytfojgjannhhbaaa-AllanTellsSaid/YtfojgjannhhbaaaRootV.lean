/- wide.Root as a function of integers. -/
import Derived.Test.YtfojgjannhhbaaaWide4
namespace Go.Proofs.Ytfojgjannhhbaaa
open Go.RowKit

set_option maxRecDepth 20000 in
theorem root_ex (n : Nat) : ∃ r : Int, IsRoot r n := by
  induction n with
  | zero => exact ⟨0, by omega, by decide, by decide⟩
  | succ n ih =>
    obtain ⟨r, h0, h1, h2⟩ := ih
    by_cases c : (r + 1) * (r + 1) ≤ ((n + 1 : Nat) : Int)
    · refine ⟨r + 1, by omega, c, ?_⟩
      have : (r + 1 + 1) * (r + 1 + 1) = (r + 1) * (r + 1) + (2 * r + 3) := by
        simp only [Int.mul_add, Int.add_mul]; omega
      omega
    · exact ⟨r, h0, by omega, by omega⟩
noncomputable def rootV (a : Int) : Int := if 0 ≤ a then Classical.choose (root_ex a.toNat) else 0
set_option maxRecDepth 20000 in
theorem rootV_is {a : Int} (h : 0 ≤ a) : IsRoot (rootV a) a := by
  have := Classical.choose_spec (root_ex a.toNat)
  have e : rootV a = Classical.choose (root_ex a.toNat) := by unfold rootV; rw [if_pos h]
  rw [← e] at this
  rwa [show ((a.toNat : Nat) : Int) = a by omega] at this
set_option maxRecDepth 20000 in
theorem rootV_neg {a : Int} (h : a < 0) : rootV a = 0 := by unfold rootV; rw [if_neg (by omega)]
set_option maxRecDepth 20000 in
theorem rootV_nonneg (a : Int) : 0 ≤ rootV a := by
  by_cases h : 0 ≤ a
  · exact (rootV_is h).1
  · rw [rootV_neg (by omega)]; omega
set_option maxRecDepth 20000 in
theorem root_any (a : Int) (ha : InW a) (w : World) : Calls Try.prog 31 #[WV a] w fun e w' => e = .returned (.int .u64 (rootV a)) ∧ Mo w w' := by
  by_cases h : 0 ≤ a
  · refine (root_pos a ha h w).mono ?_
    rintro e w' ⟨r, he, hr, hm⟩
    rw [root_uniq (rootV_is h) hr]
    exact ⟨he, hm⟩
  · rw [rootV_neg (by omega)]
    exact root_neg a (by unfold hiW; omega) w
set_option maxRecDepth 20000 in
theorem rootV_lt {a : Int} (ha : InW a) : rootV a < 18446744073709551616 := by
  by_cases h : 0 ≤ a
  · have := rootV_is h
    have h2 := ha.2
    exact sq_lt this.1 (by omega) (by have := this.2.1; omega)
  · rw [rootV_neg (by omega)]; omega
set_option maxRecDepth 20000 in
theorem rootV_mono {a b : Int} (h : a ≤ b) : rootV a ≤ rootV b := by
  by_cases c : 0 ≤ a
  · have p := rootV_is c
    have q := rootV_is (show 0 ≤ b by omega)
    have := sq_lt p.1 (show 0 ≤ rootV b + 1 by have := q.1; omega) (by have := p.2.1; have := q.2.2; omega)
    omega
  · rw [rootV_neg (by omega)]; exact rootV_nonneg b
end Go.Proofs.Ytfojgjannhhbaaa
