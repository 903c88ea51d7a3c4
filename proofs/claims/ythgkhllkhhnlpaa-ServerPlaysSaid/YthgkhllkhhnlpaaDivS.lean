/- Written by gen/bundle36.py: Div64, Div in one text. -/
import Derived.Test.YthgkhllkhhnlpaaWideS
/- bits.Div64 gives quotient and rest. -/
namespace Go.Proofs.Ythgkhllkhhnlpaa
open Go.RowKit

/-! ### how many bits -/
set_option maxRecDepth 20000 in
theorem bitLen_lo (y : Nat) (h : 0 < y) (h2 : y < 18446744073709551616) : 0 < Lib.bitLen y ∧ Lib.bitLen y ≤ 64 ∧ 2 ^ (Lib.bitLen y - 1) ≤ y ∧ y < 2 ^ Lib.bitLen y := by
  have b1 : 0 < Lib.bitLen y := by rw [Lib.bitLen_half y (by omega) h2]; omega
  have b2 : Lib.bitLen y ≤ 64 := Lib.bitLen_le y 64 (by omega) h2
  refine ⟨b1, b2, ?_, ?_⟩
  · rcases Nat.lt_or_ge y (2 ^ (Lib.bitLen y - 1)) with c | c
    · have := Lib.bitLen_le y (Lib.bitLen y - 1) (by omega) c; omega
    · exact c
  · rcases Nat.lt_or_ge y (2 ^ Lib.bitLen y) with c | c
    · exact c
    · have e := Lib.bitLen_shift (Lib.bitLen y) y c h2
      have hp : 0 < 2 ^ Lib.bitLen y := Nat.pow_pos (by decide)
      have hq : 0 < y / 2 ^ Lib.bitLen y := Nat.div_pos c hp
      have hr : y / 2 ^ Lib.bitLen y < 18446744073709551616 := Nat.lt_of_le_of_lt (Nat.div_le_self _ _) h2
      have := Lib.bitLen_half (y / 2 ^ Lib.bitLen y) (by omega) hr
      omega

/-! ### one half of the quotient: U below Y, v the next 32 bits, n1, n0 the halves of Y -/
structure Half64 (U v Y n1 n0 : Int) : Prop where
  u0 : 0 ≤ U
  u1 : U < Y
  v0 : 0 ≤ v
  v1 : v < 4294967296
  y0 : 9223372036854775808 ≤ Y
  y1 : Y < 18446744073709551616
  hY : Y = n1 * 4294967296 + n0
  m0 : 0 ≤ n0
  m1 : n0 < 4294967296
  k0 : 2147483648 ≤ n1
  k1 : n1 < 4294967296
/-- what the loop holds -/
structure DRel (U v Y n1 q r : Int) : Prop where
  eq : q * n1 + r = U
  r0 : 0 ≤ r
  r1 : r < 4294967296
  q0 : 0 ≤ q
  le : (U * 4294967296 + v) / Y ≤ q
  q1 : q < 8589934592
set_option maxRecDepth 20000 in
theorem Half64.q {U v Y n1 n0 : Int} (H : Half64 U v Y n1 n0) : 0 ≤ (U * 4294967296 + v) / Y ∧ (U * 4294967296 + v) / Y < 4294967296 := by
  obtain ⟨a, b, c, d, e, f, _, _, _, _, _⟩ := H
  constructor
  · exact Int.ediv_nonneg (by omega) (by omega)
  · rw [Int.ediv_lt_iff_lt_mul (by omega)]; omega
set_option maxRecDepth 20000 in
theorem mulY (q n1 n0 : Int) : q * (n1 * 4294967296 + n0) = q * n1 * 4294967296 + q * n0 := by rw [Int.mul_add, Int.mul_assoc]
set_option maxRecDepth 20000 in
theorem DRel.start {U v Y n1 n0 : Int} (H : Half64 U v Y n1 n0) : DRel U v Y n1 (U / n1) (U % n1) := by
  obtain ⟨a, b, c, d, e, f, hY, m0, m1, k0, k1⟩ := H
  have e1 := Int.mul_ediv_add_emod U n1
  rw [Int.mul_comm] at e1
  have e2 := Int.emod_nonneg U (show n1 ≠ 0 by omega)
  have e3 := Int.emod_lt_of_pos U (show 0 < n1 by omega)
  refine ⟨e1, e2, by omega, Int.ediv_nonneg a (by omega), ?_, ?_⟩
  · rw [Int.le_ediv_iff_mul_le (by omega)]
    have hQ := Int.ediv_mul_le (U * 4294967296 + v) (show Y ≠ 0 by omega)
    have hQ0 : 0 ≤ (U * 4294967296 + v) / Y := Int.ediv_nonneg (by omega) (by omega)
    generalize (U * 4294967296 + v) / Y = Q at *
    rw [hY, mulY] at hQ
    have := Int.mul_nonneg hQ0 m0
    omega
  · rw [Int.ediv_lt_iff_lt_mul (by omega)]; omega
set_option maxRecDepth 20000 in
theorem DRel.step {U v Y n1 n0 q r : Int} (H : Half64 U v Y n1 n0) (h : DRel U v Y n1 q r) (ht : 4294967296 ≤ q ∨ 4294967296 * r + v < q * n0) :
    (q - 1) * n1 + (r + n1) = U ∧ 0 ≤ q - 1 ∧ (U * 4294967296 + v) / Y ≤ q - 1 ∧ 1 ≤ q := by
  have hq := H.q
  obtain ⟨a, b, c, d, e, f, hY, m0, m1, k0, k1⟩ := H
  obtain ⟨g1, g2, g3, g4, g5, g6⟩ := h
  have hlt : (U * 4294967296 + v) / Y < q := by
    rcases ht with ht | ht
    · omega
    · rw [Int.ediv_lt_iff_lt_mul (by omega), hY, mulY]; omega
  have : (q - 1) * n1 = q * n1 - n1 := by rw [Int.sub_mul]; omega
  omega
set_option maxRecDepth 20000 in
theorem DRel.done {U v Y n1 n0 q r : Int} (H : Half64 U v Y n1 n0) (h : DRel U v Y n1 q r) (_ : q < 4294967296) (h2 : q * n0 ≤ 4294967296 * r + v) : q = (U * 4294967296 + v) / Y := by
  obtain ⟨a, b, c, d, e, f, hY, m0, m1, k0, k1⟩ := H
  obtain ⟨g1, g2, g3, g4, g5, g6⟩ := h
  have : q ≤ (U * 4294967296 + v) / Y := by
    rw [Int.le_ediv_iff_mul_le (by omega), hY, mulY]; omega
  omega
set_option maxRecDepth 20000 in
theorem DRel.brk {U v Y n1 n0 q r : Int} (H : Half64 U v Y n1 n0) (eq : q * n1 + r = U) (q0 : 0 ≤ q) (hr : 4294967296 ≤ r) (le : (U * 4294967296 + v) / Y ≤ q) : q = (U * 4294967296 + v) / Y := by
  obtain ⟨a, b, c, d, e, f, hY, m0, m1, k0, k1⟩ := H
  have hq : q < 4294967296 := by
    rcases Int.lt_or_le q 4294967296 with c | c
    · exact c
    · have := Int.mul_le_mul_of_nonneg_right c (show 0 ≤ n1 by omega); omega
  have hp : q * n0 ≤ 4294967296 * 4294967296 := Int.mul_le_mul (by omega) (by omega) m0 (by omega)
  have : q ≤ (U * 4294967296 + v) / Y := by
    rw [Int.le_ediv_iff_mul_le (by omega), hY, mulY]; omega
  omega
set_option maxRecDepth 20000 in
theorem half_rest {U v Y n1 n0 : Int} (H : Half64 U v Y n1 n0) :
    IntKind.u64.wrap (IntKind.u64.wrap (IntKind.u64.wrap (U * 4294967296) + v) - IntKind.u64.wrap ((U * 4294967296 + v) / Y * Y)) = (U * 4294967296 + v) % Y := by
  obtain ⟨a, b, c, d, e, f, hY, m0, m1, k0, k1⟩ := H
  have e1 := Int.mul_ediv_add_emod (U * 4294967296 + v) Y
  rw [Int.mul_comm] at e1
  have e2 := Int.emod_nonneg (U * 4294967296 + v) (show Y ≠ 0 by omega)
  have e3 := Int.emod_lt_of_pos (U * 4294967296 + v) (show 0 < Y by omega)
  generalize (U * 4294967296 + v) / Y * Y = P at *
  generalize (U * 4294967296 + v) % Y = R at *
  simp only [IntKind.wrap_u64]
  omega

set_option maxRecDepth 20000 in
theorem mask32 (x : Int) (h : 0 ≤ x) (h' : x < 18446744073709551616) : bits .and .u64 x 4294967295 = x % 4294967296 := by
  obtain ⟨x, rfl⟩ := Int.eq_ofNat_of_zero_le h
  have e := u64_and_nat x 4294967295 (by omega) (by omega)
  rw [Nat.and_two_pow_sub_one_eq_mod x 32] at e
  exact e
set_option maxRecDepth 20000 in
/-- the arithmetic of the two halves, in natural numbers: D is the dividend times 2^s -/
theorem halves (D Y : Nat) (hY : 0 < Y) : D / Y = (D / 4294967296 / Y) * 4294967296 + ((D / 4294967296 % Y) * 4294967296 + D % 4294967296) / Y ∧
    D % Y = ((D / 4294967296 % Y) * 4294967296 + D % 4294967296) % Y := by
  have e1 := Nat.div_add_mod D 4294967296
  have e2 := Nat.div_add_mod (D / 4294967296) Y
  have e : D = ((D / 4294967296 % Y) * 4294967296 + D % 4294967296) + (D / 4294967296 / Y * 4294967296) * Y := by
    have h3 : D / 4294967296 / Y * 4294967296 * Y = Y * (D / 4294967296 / Y) * 4294967296 := by
      rw [Nat.mul_right_comm, Nat.mul_comm (D / 4294967296 / Y) Y]
    rw [h3]; omega
  constructor
  · conv => lhs; rw [e]
    rw [Nat.add_mul_div_right _ _ hY, Nat.add_comm]
  · conv => lhs; rw [e]
    rw [Nat.add_mul_mod_self_right]
set_option maxRecDepth 20000 in
theorem div64_facts (hi lo y : Nat) (h1 : 0 < hi) (h2 : hi < y) (h4 : lo < 18446744073709551616) (h5 : y < 18446744073709551616) :
    ∃ s : Nat, s ≤ 63 ∧ (64 - (Lib.bitLen (y : Int).toNat : Int)) = (s : Int) ∧ ∃ Y V U : Int, IntKind.u64.wrap ((y : Int) * 2 ^ s) = Y ∧ IntKind.u64.wrap ((lo : Int) * 2 ^ s) = V ∧
      bits .or .u64 (IntKind.u64.wrap ((hi : Int) * 2 ^ s)) ((lo : Int) / 2 ^ (64 - s)) = U ∧ Hid (0 ≤ U ∧ U < Y ∧ 0 ≤ V ∧ V < 18446744073709551616 ∧ 9223372036854775808 ≤ Y ∧ Y < 18446744073709551616 ∧
        ((hi : Int) * 18446744073709551616 + lo) / y = (U * 4294967296 + V / 4294967296) / Y * 4294967296 + (((U * 4294967296 + V / 4294967296) % Y) * 4294967296 + V % 4294967296) / Y ∧
        ((hi : Int) * 18446744073709551616 + lo) % y = ((((U * 4294967296 + V / 4294967296) % Y) * 4294967296 + V % 4294967296) % Y) / 2 ^ s) := by
  obtain ⟨b1, b2, b3, b4⟩ := bitLen_lo y (by omega) h5
  refine ⟨64 - Lib.bitLen y, by omega, by rw [Int.toNat_natCast]; omega, ?_⟩
  obtain ⟨s, hs⟩ : ∃ s, 64 - Lib.bitLen y = s := ⟨_, rfl⟩
  have hb : Lib.bitLen y = 64 - s := by omega
  rw [hs]
  rw [hb] at b3 b4
  have hs63 : s ≤ 63 := by omega
  clear hs hb b1 b2
  have hp : 0 < 2 ^ s := Nat.pow_pos (by decide)
  have hp2 : 0 < 2 ^ (64 - s) := Nat.pow_pos (by decide)
  have e64 : 2 ^ s * 2 ^ (64 - s) = 18446744073709551616 := by rw [← Nat.pow_add, show s + (64 - s) = 64 by omega]
  have e63 : 2 ^ s * 2 ^ (64 - s - 1) = 9223372036854775808 := by rw [← Nat.pow_add, show s + (64 - s - 1) = 63 by omega]
  have y1 : 9223372036854775808 ≤ y * 2 ^ s := by rw [← e63, Nat.mul_comm (2 ^ s)]; exact Nat.mul_le_mul_right _ b3
  have y2 : y * 2 ^ s < 18446744073709551616 := by rw [← e64, Nat.mul_comm (2 ^ s)]; exact Nat.mul_lt_mul_of_pos_right b4 hp
  have i2 : (hi + 1) * 2 ^ s ≤ y * 2 ^ s := Nat.mul_le_mul_right _ (by omega)
  have i3 : (hi + 1) * 2 ^ s = hi * 2 ^ s + 2 ^ s := by rw [Nat.add_mul, Nat.one_mul]
  have l1 : lo / 2 ^ (64 - s) < 2 ^ s := by rw [Nat.div_lt_iff_lt_mul hp2, e64]; exact h4
  -- lo times 2^s, parted
  have l2 : lo * 2 ^ s = lo / 2 ^ (64 - s) * 18446744073709551616 + lo * 2 ^ s % 18446744073709551616 := by
    have : lo * 2 ^ s / 18446744073709551616 = lo / 2 ^ (64 - s) := by
      rw [← e64, Nat.mul_comm (2 ^ s) (2 ^ (64 - s)), Nat.mul_div_mul_right _ _ hp]
    have := Nat.div_add_mod (lo * 2 ^ s) 18446744073709551616
    omega
  have hor : (hi * 2 ^ s) ||| (lo / 2 ^ (64 - s)) = hi * 2 ^ s + lo / 2 ^ (64 - s) := nat_join s _ _ (Nat.mul_mod_left _ _) l1
  have c1 : ((y : Int) * 2 ^ s) = ((y * 2 ^ s : Nat) : Int) := by push_cast; rfl
  have c2 : ((lo : Int) * 2 ^ s) = ((lo * 2 ^ s : Nat) : Int) := by push_cast; rfl
  have c3 : ((hi : Int) * 2 ^ s) = ((hi * 2 ^ s : Nat) : Int) := by push_cast; rfl
  have c4 : ((lo : Int) / 2 ^ (64 - s)) = ((lo / 2 ^ (64 - s) : Nat) : Int) := by push_cast; rfl
  have c5 : (2 : Int) ^ s = ((2 ^ s : Nat) : Int) := by push_cast; rfl
  have w1 : IntKind.u64.wrap ((y * 2 ^ s : Nat) : Int) = ((y * 2 ^ s : Nat) : Int) := by rw [IntKind.wrap_u64]; omega
  have w2 : IntKind.u64.wrap ((lo * 2 ^ s : Nat) : Int) = ((lo * 2 ^ s % 18446744073709551616 : Nat) : Int) := by rw [IntKind.wrap_u64]; omega
  have w3 : IntKind.u64.wrap ((hi * 2 ^ s : Nat) : Int) = ((hi * 2 ^ s : Nat) : Int) := by rw [IntKind.wrap_u64]; omega
  refine ⟨((y * 2 ^ s : Nat) : Int), ((lo * 2 ^ s % 18446744073709551616 : Nat) : Int), ((hi * 2 ^ s + lo / 2 ^ (64 - s) : Nat) : Int), by rw [c1, w1], by rw [c2, w2], ?_, ?_⟩
  · rw [c3, c4, w3, u64_or_nat _ _ (by omega) (by omega), hor]
  have hD : (hi * 18446744073709551616 + lo) * 2 ^ s = (hi * 2 ^ s + lo / 2 ^ (64 - s)) * 18446744073709551616 + lo * 2 ^ s % 18446744073709551616 := by
    have : hi * 18446744073709551616 * 2 ^ s = hi * 2 ^ s * 18446744073709551616 := Nat.mul_right_comm _ _ _
    rw [Nat.add_mul, this]; omega
  obtain ⟨hq, hr⟩ := halves ((hi * 18446744073709551616 + lo) * 2 ^ s) (y * 2 ^ s) (by omega)
  rw [Nat.mul_div_mul_right _ _ hp] at hq
  rw [Nat.mul_mod_mul_right] at hr
  have hr' : (hi * 18446744073709551616 + lo) % y = (hi * 18446744073709551616 + lo) % y * 2 ^ s / 2 ^ s := (Nat.mul_div_cancel _ hp).symm
  rw [hr] at hr'
  have hU1 : hi * 2 ^ s + lo / 2 ^ (64 - s) < y * 2 ^ s := by omega
  have hV1 : lo * 2 ^ s % 18446744073709551616 < 18446744073709551616 := Nat.mod_lt _ (by decide)
  clear c1 c2 c3 c4 w1 w2 w3 hor l2
  generalize hi * 2 ^ s + lo / 2 ^ (64 - s) = U at *
  generalize lo * 2 ^ s % 18446744073709551616 = V at *
  generalize y * 2 ^ s = Y at *
  have d1 : (hi * 18446744073709551616 + lo) * 2 ^ s / 4294967296 = U * 4294967296 + V / 4294967296 := by omega
  have d2 : (hi * 18446744073709551616 + lo) * 2 ^ s % 4294967296 = V % 4294967296 := by omega
  rw [d1, d2] at hq hr'
  refine Lib.hid ⟨by omega, by omega, by omega, by omega, by omega, by omega, ?_, ?_⟩
  · have h := congrArg (fun n : Nat => (n : Int)) hq
    simp only [Int.natCast_add, Int.natCast_mul, Int.natCast_ediv, Int.natCast_emod] at h
    exact h
  · have h := congrArg (fun n : Nat => (n : Int)) hr'
    simp only [Int.natCast_add, Int.natCast_mul, Int.natCast_ediv, Int.natCast_emod] at h
    rw [c5]; exact h
set_option maxRecDepth 20000 in
theorem start_wrap {U v Y n1 n0 : Int} (H : Half64 U v Y n1 n0) : DRel U v Y n1 (U / n1) (IntKind.u64.wrap (U - IntKind.u64.wrap (U / n1 * n1))) := by
  have h := DRel.start H
  have e : IntKind.u64.wrap (U - IntKind.u64.wrap (U / n1 * n1)) = U % n1 := by
    have e1 := h.eq
    have := h.r0; have := h.r1; have := H.u0; have := H.u1; have := H.y1
    generalize U / n1 * n1 = P at *
    simp only [IntKind.wrap_u64]
    omega
  rw [e]; exact h
set_option maxRecDepth 20000 in
set_option maxHeartbeats 1000000 in
theorem div64_zero (lo y : Int) (h2 : 0 < y) (h3 : 0 ≤ lo) (h4 : lo < 18446744073709551616) (h5 : y < 18446744073709551616) (w : World) :
    Calls Try.prog 82 #[.int .u64 0, .int .u64 lo, .int .u64 y] w fun e w' => e = .returned (.tuple #[.int .u64 (lo / y), .int .u64 (lo % y)]) ∧ Mo w w' := by
  have y0 : (y == 0) = false := by simp; omega
  have y1 : ¬ y ≤ 0 := by omega
  go_enter Try.func82, Try.ntmps82
  go_wp2_with fail
  go_quiet (fail)
  go_wp2_with fail
  go_ret2
  exact ⟨rfl, Mor.out⟩
set_option maxRecDepth 20000 in
set_option maxHeartbeats 2000000 in
theorem div64_pos (hi lo y : Int) (h1 : 0 < hi) (h2 : hi < y) (h3 : 0 ≤ lo) (h4 : lo < 18446744073709551616) (h5 : y < 18446744073709551616) (w : World) :
    Calls Try.prog 82 #[.int .u64 hi, .int .u64 lo, .int .u64 y] w fun e w' => e = .returned (.tuple #[.int .u64 ((hi * 18446744073709551616 + lo) / y), .int .u64 ((hi * 18446744073709551616 + lo) % y)]) ∧ Mo w w' := by
  have y0 : (y == 0) = false := by simp; omega
  have y1 : ¬ y ≤ hi := by omega
  have y2 : (hi == 0) = false := by simp; omega
  obtain ⟨s, hs1, hs2, Y, V, U, hY, hV, hU, hfin⟩ : ∃ s : Nat, s ≤ 63 ∧ (64 - (Lib.bitLen y.toNat : Int)) = (s : Int) ∧ ∃ Y V U : Int, IntKind.u64.wrap (y * 2 ^ s) = Y ∧ IntKind.u64.wrap (lo * 2 ^ s) = V ∧
      bits .or .u64 (IntKind.u64.wrap (hi * 2 ^ s)) (lo / 2 ^ (64 - s)) = U ∧ Hid (0 ≤ U ∧ U < Y ∧ 0 ≤ V ∧ V < 18446744073709551616 ∧ 9223372036854775808 ≤ Y ∧ Y < 18446744073709551616 ∧
        (hi * 18446744073709551616 + lo) / y = (U * 4294967296 + V / 4294967296) / Y * 4294967296 + (((U * 4294967296 + V / 4294967296) % Y) * 4294967296 + V % 4294967296) / Y ∧
        (hi * 18446744073709551616 + lo) % y = ((((U * 4294967296 + V / 4294967296) % Y) * 4294967296 + V % 4294967296) % Y) / 2 ^ s) := by
    obtain ⟨hi, rfl⟩ := Int.eq_ofNat_of_zero_le (show 0 ≤ hi by omega)
    obtain ⟨lo, rfl⟩ := Int.eq_ofNat_of_zero_le h3
    obtain ⟨y, rfl⟩ := Int.eq_ofNat_of_zero_le (show 0 ≤ y by omega)
    exact div64_facts hi lo y (by omega) (by omega) (by omega) (by omega)
  obtain ⟨U0, U1, V0, V1, Y0, Y1, fq, fr⟩ := hfin.out
  have aY : bits .and .u64 Y 4294967295 = Y % 4294967296 := mask32 Y (by omega) Y1
  have aV : bits .and .u64 V 4294967295 = V % 4294967296 := mask32 V V0 V1
  clear hfin
  rw [fq, fr]
  clear fq fr
  obtain ⟨n1, hn1⟩ : ∃ n1, Y / 4294967296 = n1 := ⟨_, rfl⟩
  obtain ⟨n0, hn0⟩ : ∃ n0, Y % 4294967296 = n0 := ⟨_, rfl⟩
  obtain ⟨v1, hv1⟩ : ∃ v1, V / 4294967296 = v1 := ⟨_, rfl⟩
  obtain ⟨v0, hv0⟩ : ∃ v0, V % 4294967296 = v0 := ⟨_, rfl⟩
  rw [hn0] at aY
  rw [hv0] at aV
  have HA : Half64 U v1 Y n1 n0 := ⟨U0, U1, by omega, by omega, Y0, Y1, by omega, by omega, by omega, by omega, by omega⟩
  rw [hv1, hv0]
  obtain ⟨Q, hQ⟩ : ∃ Q, (U * 4294967296 + v1) / Y = Q := ⟨_, rfl⟩
  obtain ⟨R, hR⟩ : ∃ R, (U * 4294967296 + v1) % Y = R := ⟨_, rfl⟩
  have hR0 : 0 ≤ R := by rw [← hR]; exact Int.emod_nonneg _ (by omega)
  have hR1 : R < Y := by rw [← hR]; exact Int.emod_lt_of_pos _ (by omega)
  have HB : Half64 R v0 Y n1 n0 := ⟨hR0, hR1, by omega, by omega, Y0, Y1, by omega, by omega, by omega, by omega, by omega⟩
  have hrest := half_rest HA
  have hQb := HA.q
  rw [hQ, hR] at hrest
  rw [hQ] at hQb
  rw [hQ, hR]
  obtain ⟨Q0, hQ0⟩ : ∃ Q0, (R * 4294967296 + v0) / Y = Q0 := ⟨_, rfl⟩
  obtain ⟨R0, hRR⟩ : ∃ R0, (R * 4294967296 + v0) % Y = R0 := ⟨_, rfl⟩
  have hrest0 := half_rest HB
  have hQb0 := HB.q
  rw [hQ0, hRR] at hrest0
  rw [hQ0] at hQb0
  rw [hQ0, hRR]
  have k0 := HA.k0
  have k1 := HA.k1
  obtain ⟨qs, hqs⟩ : ∃ q, U / n1 = q := ⟨_, rfl⟩
  obtain ⟨rs, hrs⟩ : ∃ r, IntKind.u64.wrap (U - IntKind.u64.wrap (qs * n1)) = r := ⟨_, rfl⟩
  have HD1 : Hid (DRel U v1 Y n1 qs rs) := by
    rw [← hrs, ← hqs]; exact start_wrap HA
  obtain ⟨qt, hqt⟩ : ∃ q, R / n1 = q := ⟨_, rfl⟩
  obtain ⟨rt, hrt⟩ : ∃ r, IntKind.u64.wrap (R - IntKind.u64.wrap (qt * n1)) = r := ⟨_, rfl⟩
  have HD2 : Hid (DRel R v0 Y n1 qt rt) := by
    rw [← hrt, ← hqt]; exact start_wrap HB
  have HHA := Lib.hid HA
  have HHB := Lib.hid HB
  have HQ := Lib.hid hQ
  have HR := Lib.hid hR
  have HQ0 := Lib.hid hQ0
  have HRR := Lib.hid hRR
  have hm0 := HA.m0
  have hm1 := HA.m1
  have hv10 := HA.v0
  have hv11 := HA.v1
  have hv00 := HB.v0
  have hv01 := HB.v1
  obtain ⟨hQb1, hQb2⟩ := hQb
  obtain ⟨hQb3, hQb4⟩ := hQb0
  clear HA HB hQ hR hQ0 hRR
  go_enter Try.func82, Try.ntmps82
  go_wp2_with fail
  refine (Try.bits_LeadingZeros64 y _ (by omega) (by omega)).mono ?_; rintro e w1 ⟨rfl, rfl⟩
  rw [hs2]
  clear hs2
  go_wp2_with fail
  go_loop [15, 16] (fun a b => ∃ q r : Int, a = .int .u64 q ∧ b = .int .u64 r ∧ DRel U v1 Y n1 q r) (fun a _ => (intOf a).toNat)
  case atStart => exact ⟨_, _, rfl, rfl, by first | exact HD1.out | (rw [hqs]; exact HD1.out)⟩
  case round =>
    obtain ⟨q, r, rfl, rfl, hD⟩ := hrel
    obtain ⟨hr0, hr1, hq0, hq1⟩ : 0 ≤ r ∧ r < 4294967296 ∧ 0 ≤ q ∧ q < 8589934592 := ⟨hD.r0, hD.r1, hD.q0, hD.q1⟩
    have HS := Lib.hid (DRel.step HHA.out hD)
    have HDn := Lib.hid (DRel.done HHA.out hD)
    have HR1 := Lib.hid hD
    clear hD
    by_cases c1 : 4294967296 ≤ q
    · obtain ⟨s1, s2, s3, s4⟩ := HS.out (.inl c1)
      have HS1 := Lib.hid s1
      have HS3 := Lib.hid s3
      clear s1 s3
      by_cases c3 : 4294967296 ≤ r + n1
      · have hE : q - 1 = Q := by rw [← HQ.out]; exact DRel.brk HHA.out HS1.out s2 c3 HS3.out
        go_wp2_with fail
        go_loop [18, 16] (fun a b => ∃ q r : Int, a = .int .u64 q ∧ b = .int .u64 r ∧ DRel R v0 Y n1 q r) (fun a _ => (intOf a).toNat)
        case atStart => exact ⟨_, _, rfl, rfl, by first | exact HD2.out | (rw [hqt]; exact HD2.out)⟩
        case round =>
          obtain ⟨q, r, rfl, rfl, hD⟩ := hrel
          obtain ⟨hr0, hr1, hq0, hq1⟩ : 0 ≤ r ∧ r < 4294967296 ∧ 0 ≤ q ∧ q < 8589934592 := ⟨hD.r0, hD.r1, hD.q0, hD.q1⟩
          have HS := Lib.hid (DRel.step HHB.out hD)
          have HDn := Lib.hid (DRel.done HHB.out hD)
          have HR1 := Lib.hid hD
          clear hD
          by_cases c1 : 4294967296 ≤ q
          · obtain ⟨s1, s2, s3, s4⟩ := HS.out (.inl c1)
            have HS1 := Lib.hid s1
            have HS3 := Lib.hid s3
            clear s1 s3
            by_cases c3 : 4294967296 ≤ r + n1
            · have hE : q - 1 = Q0 := by rw [← HQ0.out]; exact DRel.brk HHB.out HS1.out s2 c3 HS3.out
              go_wp2_with fail
              go_ret2
              exact ⟨rfl, Mor.out⟩
            · go_wp2_with fail
              go_round
              case rel => exact ⟨q - 1, r + n1, rfl, rfl, ⟨HS1.out, by omega, by omega, by omega, HS3.out, by omega⟩⟩
              case measure => simp [intOf]; omega
          · have p1 : 0 ≤ q * n0 := Int.mul_nonneg hq0 hm0
            have p2 : q * n0 < 18446744073709551616 := Int.lt_of_le_of_lt (Int.mul_le_mul (show q ≤ 4294967295 by omega) (show n0 ≤ 4294967295 by omega) hm0 (by omega)) (by decide)
            by_cases c2 : 4294967296 * r + v0 < q * n0
            · obtain ⟨s1, s2, s3, s4⟩ := HS.out (.inr c2)
              have HS1 := Lib.hid s1
              have HS3 := Lib.hid s3
              clear s1 s3
              by_cases c3 : 4294967296 ≤ r + n1
              · have hE : q - 1 = Q0 := by rw [← HQ0.out]; exact DRel.brk HHB.out HS1.out s2 c3 HS3.out
                go_wp2_with fail
                go_ret2
                exact ⟨rfl, Mor.out⟩
              · go_wp2_with fail
                go_round
                case rel => exact ⟨q - 1, r + n1, rfl, rfl, ⟨HS1.out, by omega, by omega, by omega, HS3.out, by omega⟩⟩
                case measure => simp [intOf]; omega
            · have hE : q = Q0 := by rw [← HQ0.out]; exact HDn.out (by omega) (by omega)
              subst hE
              go_wp2_with fail
              go_ret2
              exact ⟨rfl, Mor.out⟩
      · go_wp2_with fail
        go_round
        case rel => exact ⟨q - 1, r + n1, rfl, rfl, ⟨HS1.out, by omega, by omega, by omega, HS3.out, by omega⟩⟩
        case measure => simp [intOf]; omega
    · have p1 : 0 ≤ q * n0 := Int.mul_nonneg hq0 hm0
      have p2 : q * n0 < 18446744073709551616 := Int.lt_of_le_of_lt (Int.mul_le_mul (show q ≤ 4294967295 by omega) (show n0 ≤ 4294967295 by omega) hm0 (by omega)) (by decide)
      by_cases c2 : 4294967296 * r + v1 < q * n0
      · obtain ⟨s1, s2, s3, s4⟩ := HS.out (.inr c2)
        have HS1 := Lib.hid s1
        have HS3 := Lib.hid s3
        clear s1 s3
        by_cases c3 : 4294967296 ≤ r + n1
        · have hE : q - 1 = Q := by rw [← HQ.out]; exact DRel.brk HHA.out HS1.out s2 c3 HS3.out
          go_wp2_with fail
          go_loop [18, 16] (fun a b => ∃ q r : Int, a = .int .u64 q ∧ b = .int .u64 r ∧ DRel R v0 Y n1 q r) (fun a _ => (intOf a).toNat)
          case atStart => exact ⟨_, _, rfl, rfl, by first | exact HD2.out | (rw [hqt]; exact HD2.out)⟩
          case round =>
            obtain ⟨q, r, rfl, rfl, hD⟩ := hrel
            obtain ⟨hr0, hr1, hq0, hq1⟩ : 0 ≤ r ∧ r < 4294967296 ∧ 0 ≤ q ∧ q < 8589934592 := ⟨hD.r0, hD.r1, hD.q0, hD.q1⟩
            have HS := Lib.hid (DRel.step HHB.out hD)
            have HDn := Lib.hid (DRel.done HHB.out hD)
            have HR1 := Lib.hid hD
            clear hD
            by_cases c1 : 4294967296 ≤ q
            · obtain ⟨s1, s2, s3, s4⟩ := HS.out (.inl c1)
              have HS1 := Lib.hid s1
              have HS3 := Lib.hid s3
              clear s1 s3
              by_cases c3 : 4294967296 ≤ r + n1
              · have hE : q - 1 = Q0 := by rw [← HQ0.out]; exact DRel.brk HHB.out HS1.out s2 c3 HS3.out
                go_wp2_with fail
                go_ret2
                exact ⟨rfl, Mor.out⟩
              · go_wp2_with fail
                go_round
                case rel => exact ⟨q - 1, r + n1, rfl, rfl, ⟨HS1.out, by omega, by omega, by omega, HS3.out, by omega⟩⟩
                case measure => simp [intOf]; omega
            · have p1 : 0 ≤ q * n0 := Int.mul_nonneg hq0 hm0
              have p2 : q * n0 < 18446744073709551616 := Int.lt_of_le_of_lt (Int.mul_le_mul (show q ≤ 4294967295 by omega) (show n0 ≤ 4294967295 by omega) hm0 (by omega)) (by decide)
              by_cases c2 : 4294967296 * r + v0 < q * n0
              · obtain ⟨s1, s2, s3, s4⟩ := HS.out (.inr c2)
                have HS1 := Lib.hid s1
                have HS3 := Lib.hid s3
                clear s1 s3
                by_cases c3 : 4294967296 ≤ r + n1
                · have hE : q - 1 = Q0 := by rw [← HQ0.out]; exact DRel.brk HHB.out HS1.out s2 c3 HS3.out
                  go_wp2_with fail
                  go_ret2
                  exact ⟨rfl, Mor.out⟩
                · go_wp2_with fail
                  go_round
                  case rel => exact ⟨q - 1, r + n1, rfl, rfl, ⟨HS1.out, by omega, by omega, by omega, HS3.out, by omega⟩⟩
                  case measure => simp [intOf]; omega
              · have hE : q = Q0 := by rw [← HQ0.out]; exact HDn.out (by omega) (by omega)
                subst hE
                go_wp2_with fail
                go_ret2
                exact ⟨rfl, Mor.out⟩
        · go_wp2_with fail
          go_round
          case rel => exact ⟨q - 1, r + n1, rfl, rfl, ⟨HS1.out, by omega, by omega, by omega, HS3.out, by omega⟩⟩
          case measure => simp [intOf]; omega
      · have hE : q = Q := by rw [← HQ.out]; exact HDn.out (by omega) (by omega)
        subst hE
        go_wp2_with fail
        go_loop [18, 16] (fun a b => ∃ q r : Int, a = .int .u64 q ∧ b = .int .u64 r ∧ DRel R v0 Y n1 q r) (fun a _ => (intOf a).toNat)
        case atStart => exact ⟨_, _, rfl, rfl, by first | exact HD2.out | (rw [hqt]; exact HD2.out)⟩
        case round =>
          obtain ⟨q, r, rfl, rfl, hD⟩ := hrel
          obtain ⟨hr0, hr1, hq0, hq1⟩ : 0 ≤ r ∧ r < 4294967296 ∧ 0 ≤ q ∧ q < 8589934592 := ⟨hD.r0, hD.r1, hD.q0, hD.q1⟩
          have HS := Lib.hid (DRel.step HHB.out hD)
          have HDn := Lib.hid (DRel.done HHB.out hD)
          have HR1 := Lib.hid hD
          clear hD
          by_cases c1 : 4294967296 ≤ q
          · obtain ⟨s1, s2, s3, s4⟩ := HS.out (.inl c1)
            have HS1 := Lib.hid s1
            have HS3 := Lib.hid s3
            clear s1 s3
            by_cases c3 : 4294967296 ≤ r + n1
            · have hE : q - 1 = Q0 := by rw [← HQ0.out]; exact DRel.brk HHB.out HS1.out s2 c3 HS3.out
              go_wp2_with fail
              go_ret2
              exact ⟨rfl, Mor.out⟩
            · go_wp2_with fail
              go_round
              case rel => exact ⟨q - 1, r + n1, rfl, rfl, ⟨HS1.out, by omega, by omega, by omega, HS3.out, by omega⟩⟩
              case measure => simp [intOf]; omega
          · have p1 : 0 ≤ q * n0 := Int.mul_nonneg hq0 hm0
            have p2 : q * n0 < 18446744073709551616 := Int.lt_of_le_of_lt (Int.mul_le_mul (show q ≤ 4294967295 by omega) (show n0 ≤ 4294967295 by omega) hm0 (by omega)) (by decide)
            by_cases c2 : 4294967296 * r + v0 < q * n0
            · obtain ⟨s1, s2, s3, s4⟩ := HS.out (.inr c2)
              have HS1 := Lib.hid s1
              have HS3 := Lib.hid s3
              clear s1 s3
              by_cases c3 : 4294967296 ≤ r + n1
              · have hE : q - 1 = Q0 := by rw [← HQ0.out]; exact DRel.brk HHB.out HS1.out s2 c3 HS3.out
                go_wp2_with fail
                go_ret2
                exact ⟨rfl, Mor.out⟩
              · go_wp2_with fail
                go_round
                case rel => exact ⟨q - 1, r + n1, rfl, rfl, ⟨HS1.out, by omega, by omega, by omega, HS3.out, by omega⟩⟩
                case measure => simp [intOf]; omega
            · have hE : q = Q0 := by rw [← HQ0.out]; exact HDn.out (by omega) (by omega)
              subst hE
              go_wp2_with fail
              go_ret2
              exact ⟨rfl, Mor.out⟩
set_option maxRecDepth 20000 in
theorem div64_any (hi lo y : Int) (h1 : 0 ≤ hi) (h2 : hi < y) (h3 : 0 ≤ lo) (h4 : lo < 18446744073709551616) (h5 : y < 18446744073709551616) (w : World) :
    Calls Try.prog 82 #[.int .u64 hi, .int .u64 lo, .int .u64 y] w fun e w' => e = .returned (.tuple #[.int .u64 ((hi * 18446744073709551616 + lo) / y), .int .u64 ((hi * 18446744073709551616 + lo) % y)]) ∧ Mo w w' := by
  by_cases c : hi = 0
  · subst c
    rw [Int.zero_mul, Int.zero_add]
    exact div64_zero lo y h2 h3 h4 h5 w
  · exact div64_pos hi lo y (by omega) h2 h3 h4 h5 w
end Go.Proofs.Ythgkhllkhhnlpaa
/- wide.Div gives quotient and rest, downwards. -/
namespace Go.Proofs.Ythgkhllkhhnlpaa
open Go.RowKit

set_option maxRecDepth 20000 in
theorem div_parts (m n : Int) (h1 : 0 ≤ m) (h2 : m ≤ 170141183460469231731687303715884105728) (h3 : 0 < n) (_h4 : n < 18446744073709551616) :
    hiW m / n = hiW (m / n) ∧ (hiW m % n * 18446744073709551616 + loW m) / n = loW (m / n) ∧ (hiW m % n * 18446744073709551616 + loW m) % n = m % n ∧ 0 ≤ m / n ∧ m / n ≤ 170141183460469231731687303715884105728 := by
  have e := hilo m
  have l1 := lo1 m
  have l2 := lo2 m
  have d1 := Int.mul_ediv_add_emod (hiW m) n
  have d2 := Int.emod_nonneg (hiW m) (show n ≠ 0 by omega)
  have d3 := Int.emod_lt_of_pos (hiW m) h3
  have e2 : m = (hiW m % n * 18446744073709551616 + loW m) + hiW m / n * 18446744073709551616 * n := by
    have : hiW m / n * 18446744073709551616 * n = n * (hiW m / n) * 18446744073709551616 := by
      rw [Int.mul_right_comm, Int.mul_comm (hiW m / n) n]
    omega
  have q0 : 0 ≤ (hiW m % n * 18446744073709551616 + loW m) / n := Int.ediv_nonneg (by omega) (by omega)
  have q1 : (hiW m % n * 18446744073709551616 + loW m) / n < 18446744073709551616 := by rw [Int.ediv_lt_iff_lt_mul h3]; omega
  have e3 : m / n = hiW m / n * 18446744073709551616 + (hiW m % n * 18446744073709551616 + loW m) / n := by
    conv => lhs; rw [e2]
    rw [Int.add_mul_ediv_right _ _ (by omega), Int.add_comm]
  have e4 : (hiW m % n * 18446744073709551616 + loW m) % n = m % n := by
    conv => rhs; rw [e2]
    rw [Int.add_mul_emod_self_right]
  have hh : 0 ≤ hiW m := by unfold hiW; omega
  refine ⟨by rw [e3, hi_mk _ _ q0 q1], by rw [e3, lo_mk _ _ q0 q1], e4, Int.ediv_nonneg h1 (by omega), ?_⟩
  exact Int.le_trans (Int.ediv_le_self _ h1) h2

set_option maxRecDepth 20000 in
set_option maxHeartbeats 400000 in
theorem div_none (a : Int) (w : World) :
    Calls Try.prog 52 #[WV a, .int .u64 0] w fun e w' => e = .returned (.tuple #[WV 0, .int .u64 0, .bool false]) ∧ Mo w w' := by
  have e1 : hiW 0 = 0 := by decide
  have e2 : loW 0 = 0 := by decide
  go_enter Try.func52, Try.ntmps52
  go_wp2_with fail
  exact bodyPost_ret (v := .tuple #[WV 0, .int .u64 0, .bool false]) (by simp [results, Try.results52, go_sem, e1, e2]) rfl ⟨rfl, Mor.out⟩
set_option maxRecDepth 20000 in
theorem div_neg_floor (a n : Int) (_ : a < 0) (h3 : 0 < n) : 
    (-a % n = 0 → a / n = -(-a / n) ∧ a % n = 0) ∧ (0 < -a % n → a / n = -(-a / n) - 1 ∧ a % n = n - -a % n) := by
  have e := Int.mul_ediv_add_emod (-a) n
  have d2 := Int.emod_nonneg (-a) (show n ≠ 0 by omega)
  have d3 := Int.emod_lt_of_pos (-a) h3
  generalize hq : -a / n = q at *
  generalize hr : -a % n = r at *
  constructor
  · intro h0
    have ea : a = 0 + (-q) * n := by rw [Int.neg_mul, Int.mul_comm q n]; omega
    rw [ea, Int.add_mul_ediv_right _ _ (by omega), Int.add_mul_emod_self_right]
    simp
  · intro h0
    have ea : a = (n - r) + (-q - 1) * n := by rw [Int.sub_mul, Int.neg_mul, Int.mul_comm q n]; omega
    rw [ea, Int.add_mul_ediv_right _ _ (by omega), Int.add_mul_emod_self_right, Int.ediv_eq_zero_of_lt (by omega) (by omega), Int.emod_eq_of_lt (by omega) (by omega)]
    omega
set_option maxRecDepth 20000 in
set_option maxHeartbeats 400000 in
theorem div_plus (a n : Int) (ha : InW a) (h : 0 ≤ a) (h3 : 0 < n) (h4 : n < 18446744073709551616) (w : World) :
    Calls Try.prog 52 #[WV a, .int .u64 n] w fun e w' => e = .returned (.tuple #[WV (a / n), .int .u64 (a % n), .bool true]) ∧ Mo w w' := by
  have e : absI a = a := if_neg (by omega)
  obtain ⟨p1, p2, p3, p4, p5⟩ := div_parts a n h (by have := ha.2; omega) h3 h4
  have hn : ¬ hiW a < 0 := by unfold hiW; omega
  have hn' : decide (hiW a < 0) = false := by simp; unfold hiW; omega
  have hin : InW (a / n) := ⟨by omega, by have := Int.ediv_le_self n h; have := ha.2; omega⟩
  have H := fun w => signed_any (a / n) false false w p4 (by omega)
  have es : (if false = true then endW false else sgn (a / n) false) = a / n := by unfold sgn; simp [cl_in hin]
  rw [es] at H
  have HH := Lib.hid H
  have q1 := Int.emod_nonneg (hiW a) (show n ≠ 0 by omega)
  have q2 := Int.emod_lt_of_pos (hiW a) h3
  have q3 := lo1 a
  have q4 := lo2 a
  have hz : (n == 0) = false := by simp; omega
  have hh : 0 ≤ hiW a := by omega
  have hh2 := ha.h2
  have P1 := Lib.hid p1
  have P2 := Lib.hid p2
  have P3 := Lib.hid p3
  have hs := size_any a ha
  rw [e] at hs
  have HS := Lib.hid hs
  clear H es p1 p2 p3 p5 e hs
  go_enter Try.func52, Try.ntmps52
  go_wp2_with fail
  refine (HS.out _).mono ?_; rintro e w1 ⟨rfl, J, d, rfl⟩
  go_wp2_with fail
  refine (div64_any _ _ _ q1 q2 q3 q4 h4 _).mono ?_; rintro e w1 ⟨rfl, J, d, rfl⟩
  rw [P2.out, P3.out]
  go_wp2_with fail
  rw [P1.out]
  refine (HH.out _).mono ?_; rintro e w1 ⟨rfl, J, d, rfl⟩
  go_wp2_with fail
  exact bodyPost_ret (v := .tuple #[WV (a / n), .int .u64 (a % n), .bool true]) (by simp [results, Try.results52, go_sem]) rfl ⟨rfl, Mor.out⟩
set_option maxRecDepth 20000 in
set_option maxHeartbeats 1000000 in
theorem div_minus0 (a n : Int) (ha : InW a) (h : a < 0) (h3 : 0 < n) (h4 : n < 18446744073709551616) (hr : -a % n = 0) (w : World) :
    Calls Try.prog 52 #[WV a, .int .u64 n] w fun e w' => e = .returned (.tuple #[WV (a / n), .int .u64 (a % n), .bool true]) ∧ Mo w w' := by
  have e : absI a = -a := if_pos h
  have ha1 := ha.1
  obtain ⟨p1, p2, p3, p4, p5⟩ := div_parts (-a) n (by omega) (by omega) h3 h4
  obtain ⟨f1, f2⟩ := (div_neg_floor a n h h3).1 hr
  have hn : hiW a < 0 := by unfold hiW; omega
  have hin : InW (-(-a / n)) := ⟨by omega, by omega⟩
  have H := fun w => signed_any (-a / n) true false w p4 (by omega)
  have es : (if false = true then endW true else sgn (-a / n) true) = a / n := by
    rw [f1]; unfold sgn; simp [cl_in hin]
  rw [es] at H
  have HH := Lib.hid H
  have q1 := Int.emod_nonneg (hiW (-a)) (show n ≠ 0 by omega)
  have q2 := Int.emod_lt_of_pos (hiW (-a)) h3
  have q3 := lo1 (-a)
  have q4 := lo2 (-a)
  have hz : (n == 0) = false := by simp; omega
  have hh : 0 ≤ hiW (-a) := by unfold hiW; omega
  have hh2 : hiW (-a) ≤ 9223372036854775808 := by unfold hiW; omega
  have P1 := Lib.hid p1
  have P2 := Lib.hid p2
  have P3 := Lib.hid p3
  have HF := Lib.hid f2
  have HR := Lib.hid hr
  have hs := size_any a ha
  rw [e] at hs
  have HS := Lib.hid hs
  clear H es p1 p2 p3 p5 e hs f1 f2 hr
  go_enter Try.func52, Try.ntmps52
  go_wp2_with fail
  refine (HS.out _).mono ?_; rintro e w1 ⟨rfl, J, d, rfl⟩
  go_wp2_with fail
  refine (div64_any _ _ _ q1 q2 q3 q4 h4 _).mono ?_; rintro e w1 ⟨rfl, J, d, rfl⟩
  rw [P2.out, P3.out, HR.out]
  go_wp2_with fail
  rw [P1.out]
  refine (HH.out _).mono ?_; rintro e w1 ⟨rfl, J, d, rfl⟩
  go_wp2_with fail
  rw [HF.out]
  exact bodyPost_ret (v := .tuple #[WV (a / n), .int .u64 0, .bool true]) (by simp [results, Try.results52, go_sem]) rfl ⟨rfl, Mor.out⟩
set_option maxRecDepth 20000 in
set_option maxHeartbeats 1000000 in
theorem div_minus (a n : Int) (ha : InW a) (h : a < 0) (h3 : 0 < n) (h4 : n < 18446744073709551616) (hr : 0 < -a % n) (w : World) :
    Calls Try.prog 52 #[WV a, .int .u64 n] w fun e w' => e = .returned (.tuple #[WV (a / n), .int .u64 (a % n), .bool true]) ∧ Mo w w' := by
  have e : absI a = -a := if_pos h
  have ha1 := ha.1
  obtain ⟨p1, p2, p3, p4, p5⟩ := div_parts (-a) n (by omega) (by omega) h3 h4
  obtain ⟨f1, f2⟩ := (div_neg_floor a n h h3).2 hr
  have hn : hiW a < 0 := by unfold hiW; omega
  have hin : InW (-(-a / n)) := ⟨by omega, by omega⟩
  have hin2 : InW (a / n) := by
    have := Int.ediv_le_self n (show 0 ≤ -a by omega)
    have hne : -a / n ≠ 170141183460469231731687303715884105728 := by
      intro hc
      have k1 := Int.mul_ediv_add_emod (-a) n
      rw [hc] at k1
      have : n * 170141183460469231731687303715884105728 ≥ 170141183460469231731687303715884105728 := by omega
      omega
    exact ⟨by omega, by omega⟩
  have H := fun w => signed_any (-a / n) true false w p4 (by omega)
  have es : (if false = true then endW true else sgn (-a / n) true) = -(-a / n) := by
    unfold sgn; simp [cl_in hin]
  rw [es] at H
  have HH := Lib.hid H
  have G := fun w => sub_any (-(-a / n)) 1 hin (inW_i64 (by omega) (by omega)) w
  rw [← f1, cl_in hin2] at G
  have HG := Lib.hid G
  have q1 := Int.emod_nonneg (hiW (-a)) (show n ≠ 0 by omega)
  have q2 := Int.emod_lt_of_pos (hiW (-a)) h3
  have q3 := lo1 (-a)
  have q4 := lo2 (-a)
  have hz : (n == 0) = false := by simp; omega
  have hh : 0 ≤ hiW (-a) := by unfold hiW; omega
  have hh2 : hiW (-a) ≤ 9223372036854775808 := by unfold hiW; omega
  have hr2 := Int.emod_lt_of_pos (-a) h3
  have P1 := Lib.hid p1
  have P2 := Lib.hid p2
  have P3 := Lib.hid p3
  have hs := size_any a ha
  rw [e] at hs
  have HS := Lib.hid hs
  obtain ⟨r, hrr⟩ : ∃ r, -a % n = r := ⟨_, rfl⟩
  rw [hrr] at hr hr2 P3 f2
  have HF := Lib.hid f2
  have hwr : IntKind.u64.wrap (n - r) = n - r := by rw [IntKind.wrap_u64]; omega
  clear H es p1 p2 p3 p5 e hs f1 f2 G hrr
  go_enter Try.func52, Try.ntmps52
  go_wp2_with fail
  refine (HS.out _).mono ?_; rintro e w1 ⟨rfl, J, d, rfl⟩
  go_wp2_with fail
  refine (div64_any _ _ _ q1 q2 q3 q4 h4 _).mono ?_; rintro e w1 ⟨rfl, J, d, rfl⟩
  rw [P2.out, P3.out]
  go_wp2_with fail
  rw [P1.out]
  refine (HH.out _).mono ?_; rintro e w1 ⟨rfl, J, d, rfl⟩
  go_wp2_with fail
  go_region_with (first
    | (go_at_call 48; refine (of_any 1 (by omega) (by omega) _).mono ?_; rintro e w1 ⟨rfl, J2, d2, rfl⟩)
    | (go_at_call 60; refine (HG.out _).mono ?_; rintro e w1 ⟨rfl, J3, d3, rfl⟩))
  all_goals go_wp2_with fail
  all_goals rw [HF.out]
  all_goals exact bodyPost_ret (v := .tuple #[WV (a / n), .int .u64 (n - r), .bool true]) (by simp [results, Try.results52, go_sem]) rfl ⟨rfl, Mor.out⟩
set_option maxRecDepth 20000 in
theorem div_any (a n : Int) (ha : InW a) (h3 : 0 < n) (h4 : n < 18446744073709551616) (w : World) :
    Calls Try.prog 52 #[WV a, .int .u64 n] w fun e w' => e = .returned (.tuple #[WV (a / n), .int .u64 (a % n), .bool true]) ∧ Mo w w' := by
  by_cases h : 0 ≤ a
  · exact div_plus a n ha h h3 h4 w
  · have := Int.emod_nonneg (-a) (show n ≠ 0 by omega)
    by_cases hr : -a % n = 0
    · exact div_minus0 a n ha (by omega) h3 h4 hr w
    · exact div_minus a n ha (by omega) h3 h4 (by omega) w
end Go.Proofs.Ythgkhllkhhnlpaa
