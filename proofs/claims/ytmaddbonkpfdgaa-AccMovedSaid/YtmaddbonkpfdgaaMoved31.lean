/- horologelaw31.AccMoved returns true. -/
import Derived.Test.YtmaddbonkpfdgaaWorks31
import Derived.Test.YtmaddbonkpfdgaaAcc3
namespace Go.Proofs.Ytmaddbonkpfdgaa
open Go.RowKit

/-- sums of numbers that are all as much greater -/
structure Moved (S T : St) (b : Int) : Prop where
  c : T.c = S.c
  w : S.w = 0
  w' : T.w = 0
  lo : S.c ≠ 0 → T.lo = S.lo + b
  hi : S.c ≠ 0 → T.hi = S.hi + b
  s : T.s = S.s + S.c * b
  q : T.q = S.q + 2 * (b * S.s) + S.c * (b * b)
theorem moved0 (b : Int) : Moved st0 st0 b := ⟨rfl, rfl, rfl, fun h => absurd rfl h, fun h => absurd rfl h, by show (0 : Int) = 0 + 0 * b; omega, by show (0 : Int) = 0 + 2 * (b * 0) + 0 * (b * b); simp⟩
theorem Moved.add {S T : St} {b n : Int} (h : Moved S T b) (h1 : -70368744177664 ≤ n) (h2 : n ≤ 70368744177664) (b1 : -70368744177664 ≤ b) (b2 : b ≤ 70368744177664) : Moved (addN S n) (addN T (n + b)) b := by
  obtain ⟨e1, e2, e3, e4, e5, e6, e7⟩ := h
  unfold addN
  rw [if_pos (show Tame n by unfold Tame; omega), if_pos (show Tame (n + b) by unfold Tame; omega)]
  unfold joinS single
  have ex : (n + b) * (n + b) = n * n + 2 * (b * n) + b * b := by
    simp only [Int.add_mul, Int.mul_add]
    rw [Int.mul_comm n b]; omega
  by_cases z : S.c = 0
  · rw [if_pos z, if_pos (by omega)]
    refine ⟨rfl, by simp; omega, by simp; omega, fun _ => rfl, fun _ => rfl, by simp, ?_⟩
    simp only
    rw [ex]; omega
  · rw [if_neg z, if_neg (by simp), if_neg (by omega), if_neg (by simp)]
    refine ⟨by simp; omega, by simp; omega, by simp; omega, fun _ => ?_, fun _ => ?_, ?_, ?_⟩
    · simp only
      rw [e4 z]; unfold minI; split <;> split <;> omega
    · simp only
      rw [e5 z]; unfold maxI; split <;> split <;> omega
    · simp only
      rw [e6, Int.add_mul]; omega
    · simp only
      rw [e7, ex, Int.add_mul, Int.mul_add b]; omega
theorem Moved.mean {S T : St} {b : Int} (h : Moved S T b) (hc : 0 < S.c) : meanS T = meanS S + b := by
  unfold meanS
  rw [h.c, h.s, Int.mul_comm, Int.add_mul_ediv_right _ _ (by omega)]
theorem Moved.far {S T : St} {b : Int} (h : Moved S T b) (hc : 0 < S.c) : farS T = farS S := by
  unfold farS
  rw [h.mean hc, h.c, h.s, h.q]
  generalize meanS S = m
  generalize S.c = c
  generalize S.s = s
  simp only [Int.mul_add, Int.add_mul, Int.mul_assoc]
  rw [Int.mul_left_comm m c b, Int.mul_left_comm b c b, Int.mul_comm b m]
  omega
theorem Moved.spread {S T : St} {b : Int} (h : Moved S T b) (hc : 0 < S.c) : spreadS T = spreadS S := by
  unfold spreadS
  rw [h.far hc, h.c]
theorem moved_all (l : List Int) (b : Int) (b1 : -70368744177664 ≤ b) (b2 : b ≤ 70368744177664) : ∀ (S T : St), Moved S T b → (∀ x ∈ l, -70368744177664 ≤ x ∧ x ≤ 70368744177664) → Moved (l.foldl addN S) ((l.map (· + b)).foldl addN T) b := by
  induction l with
  | nil => intro S T h _; exact h
  | cons x xs ih =>
    intro S T h hb
    have hx := hb x (by simp)
    exact ih _ _ (h.add hx.1 hx.2 b1 b2) (fun y hy => hb y (by simp [hy]))
end Go.Proofs.Ytmaddbonkpfdgaa
