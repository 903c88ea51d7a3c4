/- Sums of numbers (acc), in integers; plain. -/
import Derived.Test.YtfojgjannhhbaaaWide
namespace Go.Proofs.Ytfojgjannhhbaaa
open Go.RowKit

/-- how many, how many wild, the least, the greatest, the sum, that of the squares -/
structure St where
  c : Int
  w : Int
  lo : Int
  hi : Int
  s : Int
  q : Int
def st0 : St := ⟨0, 0, 0, 0, 0, 0⟩
def Tame (n : Int) : Prop := -140737488355328 ≤ n ∧ n ≤ 140737488355328
set_option maxRecDepth 20000 in
instance (n : Int) : Decidable (Tame n) := by unfold Tame; infer_instance
def single (n : Int) : St := ⟨1, 0, n, n, n, n * n⟩
def minI (x y : Int) : Int := if x < y then x else y
def maxI (x y : Int) : Int := if x < y then y else x
def joinS (a b : St) : St :=
  if a.c = 0 then ⟨b.c, b.w + a.w, b.lo, b.hi, b.s, b.q⟩
  else if b.c = 0 then ⟨a.c, a.w + b.w, a.lo, a.hi, a.s, a.q⟩
  else ⟨a.c + b.c, a.w + b.w, minI a.lo b.lo, maxI a.hi b.hi, a.s + b.s, a.q + b.q⟩
def addN (S : St) (n : Int) : St := if Tame n then joinS S (single n) else ⟨S.c, S.w + 1, S.lo, S.hi, S.s, S.q⟩
def sumL (l : List Int) : St := l.foldl addN st0

/-- what sums of at most m numbers keep to -/
structure Good (S : St) (m : Int) : Prop where
  c0 : 0 ≤ S.c
  w0 : 0 ≤ S.w
  cw : S.c + S.w = m
  z : S.c = 0 → S.lo = 0 ∧ S.hi = 0 ∧ S.s = 0 ∧ S.q = 0
  lo : -140737488355328 ≤ S.lo
  lh : S.lo ≤ S.hi
  hi : S.hi ≤ 140737488355328
  s1 : S.c * S.lo ≤ S.s
  s2 : S.s ≤ S.c * S.hi
  q0 : 0 ≤ S.q
  q1 : S.q ≤ S.c * 19807040628566084398385987584
  one : S.c = 1 → S.lo = S.hi ∧ S.s = S.lo ∧ S.q = S.lo * S.lo
  two : S.c = 2 → S.s = S.lo + S.hi ∧ S.q = S.lo * S.lo + S.hi * S.hi
  var : ∀ L H m : Int, L ≤ S.lo → S.hi ≤ H → L ≤ m → m ≤ H → 0 ≤ S.q - 2 * m * S.s + S.c * (m * m) ∧ S.q - 2 * m * S.s + S.c * (m * m) ≤ S.c * ((H - L) * (H - L))
set_option maxRecDepth 20000 in
theorem sq_bd {x B : Int} (h1 : -B ≤ x) (h2 : x ≤ B) : x * x ≤ B * B := by
  rcases Int.le_total 0 x with c | c
  · exact Int.mul_le_mul h2 h2 c (by omega)
  · rw [← Int.neg_mul_neg x x]; exact Int.mul_le_mul (by omega) (by omega) (by omega) (by omega)
set_option maxRecDepth 20000 in
theorem sq_nn (x : Int) : 0 ≤ x * x := by
  rcases Int.le_total 0 x with c | c
  · exact Int.mul_nonneg c c
  · rw [← Int.neg_mul_neg x x]; exact Int.mul_nonneg (by omega) (by omega)
set_option maxRecDepth 20000 in
theorem good0 : Good st0 0 := by
  refine ⟨by decide, by decide, by decide, fun _ => ⟨rfl, rfl, rfl, rfl⟩, by decide, by decide, by decide, by decide, by decide, by decide, by decide, fun h => (by cases h), fun h => (by cases h), fun L H m _ _ _ _ => ?_⟩
  show (0 : Int) ≤ 0 - 2 * m * 0 + 0 * (m * m) ∧ 0 - 2 * m * 0 + 0 * (m * m) ≤ 0 * ((H - L) * (H - L))
  simp
set_option maxRecDepth 20000 in
theorem Good.add {S : St} {m : Int} (h : Good S m) (n : Int) : Good (addN S n) (m + 1) := by
  unfold addN
  by_cases t : Tame n
  · rw [if_pos t]
    obtain ⟨t1, t2⟩ := t
    have nn := sq_bd t1 t2
    have n0 := sq_nn n
    unfold joinS single
    by_cases c : S.c = 0
    · rw [if_pos c]
      have := h.cw
      have := h.w0
      refine ⟨by simp, by simp; omega, by simp; omega, fun e => (by simp at e), t1, by simp, t2, by simp, by simp, n0, by simp; omega, fun _ => ⟨rfl, rfl, rfl⟩, fun e => (by simp at e), fun L H k h1 h2 h3 h4 => ?_⟩
      simp only at h1 h2 ⊢
      have e : n * n - 2 * k * n + 1 * (k * k) = (n - k) * (n - k) := by
        rw [Int.sub_mul, Int.mul_sub, Int.mul_sub, Int.mul_comm n k, Int.mul_assoc 2]; omega
      rw [e, Int.one_mul]
      exact ⟨sq_nn _, sq_bd (by omega) (by omega)⟩
    · rw [if_neg c, if_neg (by simp)]
      have c1 := h.c0
      have a1 := h.lo
      have a2 := h.lh
      have a3 := h.hi
      have b1 := h.s1
      have b2 := h.s2
      have b3 := h.q0
      have b4 := h.q1
      have lo' : minI S.lo n ≤ S.lo ∧ minI S.lo n ≤ n ∧ (minI S.lo n = S.lo ∨ minI S.lo n = n) := by unfold minI; split <;> omega
      have hi' : S.hi ≤ maxI S.hi n ∧ n ≤ maxI S.hi n ∧ (maxI S.hi n = S.hi ∨ maxI S.hi n = n) := by unfold maxI; split <;> omega
      have p1 : S.c * minI S.lo n ≤ S.c * S.lo := Int.mul_le_mul_of_nonneg_left lo'.1 c1
      have p2 : S.c * S.hi ≤ S.c * maxI S.hi n := Int.mul_le_mul_of_nonneg_left hi'.1 c1
      refine ⟨by simp; omega, by have := h.w0; simp; omega, by have := h.cw; simp; omega, fun e => (by simp at e; omega), ?_, ?_, ?_, ?_, ?_, ?_, ?_, fun e => (by simp at e; omega), fun e => ?_, fun L H k h1 h2 h3 h4 => ?_⟩
      · simp; omega
      · simp; omega
      · simp; omega
      · simp only [Int.add_mul, Int.one_mul]; omega
      · simp only [Int.add_mul, Int.one_mul]; omega
      · simp; omega
      · simp only [Int.add_mul, Int.one_mul]; omega
      · simp only at e ⊢
        obtain ⟨o1, o2, o3⟩ := h.one (by omega)
        rw [o2, o3, ← o1]
        unfold minI maxI
        by_cases d : S.lo < n
        · rw [if_pos d, if_pos d]; exact ⟨rfl, rfl⟩
        · rw [if_neg d, if_neg d]; exact ⟨by omega, by omega⟩
      · simp only at h1 h2 ⊢
        obtain ⟨v1, v2⟩ := h.var L H k (by omega) (by omega) h3 h4
        have e : (n - k) * (n - k) = n * n - 2 * (k * n) + k * k := by
          rw [Int.sub_mul, Int.mul_sub, Int.mul_sub, Int.mul_comm n k]; omega
        have f1 := sq_nn (n - k)
        have f2 : (n - k) * (n - k) ≤ (H - L) * (H - L) := sq_bd (by omega) (by omega)
        have g : 2 * k * (S.s + n) = 2 * k * S.s + 2 * (k * n) := by rw [Int.mul_add, Int.mul_assoc 2 k n]
        rw [g, Int.add_mul, Int.add_mul, Int.one_mul, Int.one_mul]
        omega
  · rw [if_neg t]
    exact ⟨h.c0, by have := h.w0; simp; omega, by have := h.cw; simp; omega, h.z, h.lo, h.lh, h.hi, h.s1, h.s2, h.q0, h.q1, h.one, h.two, h.var⟩
set_option maxRecDepth 20000 in
theorem good_fold (l : List Int) : ∀ (S : St) (m : Int), Good S m → Good (l.foldl addN S) (m + l.length) := by
  induction l with
  | nil => intro S m h; simpa using h
  | cons x xs ih =>
    intro S m h
    have := ih _ _ (h.add x)
    rw [show m + ((x :: xs).length : Int) = m + 1 + (xs.length : Int) by simp; omega]
    exact this
set_option maxRecDepth 20000 in
theorem good_sum (l : List Int) : Good (sumL l) l.length := by
  have := good_fold l st0 0 good0
  rwa [Int.zero_add] at this
end Go.Proofs.Ytfojgjannhhbaaa
