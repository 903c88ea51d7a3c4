/- ext.next: what stands at the beginning of a tail. -/
import Derived.Test.YtofbhkodnijkjaaByteA
namespace Go.Proofs.Ytofbhkodnijkjaa
open Go.RowKit

def sizeM (bs : List Int) : Int := bs.getD 2 0 * 256 + bs.getD 3 0
def nextM (bs : List Int) : Int × Int :=
  if bs.length = 0 then (0, 0)
  else if bs.length = 4 ∨ bs.length = 20 ∨ bs.length = 24 then (1, bs.length)
  else if bs.length < 28 then (3, 0)
  else if sizeM bs < 16 ∨ sizeM bs % 4 ≠ 0 ∨ (bs.length : Int) < sizeM bs then (3, 0)
  else (2, sizeM bs)
set_option maxRecDepth 20000 in
set_option maxHeartbeats 1000000 in
theorem next_any (A : Option Addr) (cap : Nat) (bs : List Int) (n : Nat) (W : World) (hn : bs.length = n) (h : ByteS W A cap bs) :
    Calls Try.prog 33 #[.slice A n cap] W fun e w' => e = .returned (.tuple #[.int .i64 (nextM bs).1, .int .i64 (nextM bs).2]) ∧ Mo W w' := by
  have hlim := h.lim
  have hle := h.le
  unfold nextM
  rw [hn] at hle hlim ⊢
  by_cases c0 : n = 0
  · rw [if_pos c0]
    subst c0
    go_enter Try.func33, Try.ntmps33
    go_wp2_with fail
    go_ret2
    exact ⟨rfl, Mor.out⟩
  rw [if_neg c0]
  by_cases c1 : n = 4 ∨ n = 20 ∨ n = 24
  · rw [if_pos c1]
    clear h c0
    rcases c1 with c1 | c1 | c1
    all_goals
      subst c1
      clear hn
      go_enter Try.func33, Try.ntmps33
      go_wp2_with fail
      go_ret2
      exact ⟨rfl, Mor.out⟩
  rw [if_neg c1]
  by_cases c2 : n < 28
  · rw [if_pos c2]
    clear h hn
    have d0 : ((n : Int) == 0) = false := by simp; omega
    have d1 : ((n : Int) == 4) = false := by simp; omega
    have d2 : ((n : Int) == 20) = false := by simp; omega
    have d3 : ((n : Int) == 24) = false := by simp; omega
    go_enter Try.func33, Try.ntmps33
    go_wp2_with fail
    go_ret2
    exact ⟨rfl, Mor.out⟩
  rw [if_neg c2]
  obtain ⟨g, off, rfl, LG, hc⟩ := h.get (by omega)
  obtain ⟨a2, b2, l2⟩ := hc 2 (by omega)
  obtain ⟨a3, b3, l3⟩ := hc 3 (by omega)
  have e2 : bs.getD 2 0 = bs[2]'(by omega) := by simp [List.getD, show 2 < bs.length by omega]
  have e3 : bs.getD 3 0 = bs[3]'(by omega) := by simp [List.getD, show 3 < bs.length by omega]
  unfold sizeM
  rw [e2, e3]
  clear e2 e3 hc h
  generalize bs[2]'_ = x at *
  generalize bs[3]'_ = y at *
  clear hn
  have ho := or_shift x y b2 l2 b3 l3
  obtain ⟨r, hr⟩ : ∃ r : Int × Int, (if x * 256 + y < 16 ∨ (x * 256 + y) % 4 ≠ 0 ∨ (n : Int) < x * 256 + y then (3, 0) else (2, x * 256 + y)) = r := ⟨_, rfl⟩
  rw [hr]
  have HR := Lib.hid hr
  clear hr
  have d0 : ((n : Int) == 0) = false := by simp; omega
  have d1 : ((n : Int) == 4) = false := by simp; omega
  have d2 : ((n : Int) == 20) = false := by simp; omega
  have d3 : ((n : Int) == 24) = false := by simp; omega
  have i2 : (2 : Int) < n := by omega
  have i3 : (3 : Int) < n := by omega
  have sh : IntKind.i64.wrap (x * 256) = x * 256 := by rw [IntKind.wrap_i64]; omega
  go_enter Try.func33, Try.ntmps33
  go_upto_region 11 with (fail)
  go_quiet (fail)
  have hz : 0 ≤ x * 256 + y := by omega
  by_cases s1 : x * 256 + y < 16
  · have HR' := HR.out; rw [if_pos (Or.inl s1)] at HR'; subst HR'; clear HR
    go_wp2_with fail
    go_ret2
    exact ⟨rfl, Mor.out⟩
  by_cases s2 : (x * 256 + y) % 4 = 0
  · have m2 : ((x * 256 + y) % 4 != 0) = false := by simp [s2]
    have m3 := s2
    clear s2
    by_cases s3 : (n : Int) < x * 256 + y
    · have HR' := HR.out; rw [if_pos (Or.inr (Or.inr s3))] at HR'; subst HR'; clear HR
      clear m3
      go_wp2_with fail
      go_ret2
      exact ⟨rfl, Mor.out⟩
    · have HR' := HR.out; rw [if_neg (show ¬ (x * 256 + y < 16 ∨ (x * 256 + y) % 4 ≠ 0 ∨ (n : Int) < x * 256 + y) by omega)] at HR'; subst HR'; clear HR
      clear m3
      go_wp2_with fail
      go_ret2
      exact ⟨rfl, Mor.out⟩
  · have HR' := HR.out; rw [if_pos (Or.inr (Or.inl s2))] at HR'; subst HR'; clear HR
    have m2 : ((x * 256 + y) % 4 != 0) = true := by simp [s2]
    clear s2
    go_wp2_with fail
    go_ret2
    exact ⟨rfl, Mor.out⟩
end Go.Proofs.Ytofbhkodnijkjaa
