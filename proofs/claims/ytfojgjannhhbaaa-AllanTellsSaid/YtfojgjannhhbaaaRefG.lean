/- horologeref01: Mul, walked. -/
import Derived.Test.YtfojgjannhhbaaaRefF
namespace Go.Proofs.Ytfojgjannhhbaaa
open Go.RowKit

set_option maxRecDepth 20000 in
theorem lim_0 : lim 0 = fun _ => 0 := by funext i; simp [lim]

set_option maxRecDepth 20000 in
set_option maxHeartbeats 2000000 in
theorem rmul_any (b c : Bool) (m n : Int) (m0 : 0 ≤ m) (m1 : m < 65536 ^ 20) (n0 : 0 ≤ n) (hmn : m * n < 65536 ^ 20) (w : World) :
    Calls Try.prog 34 #[NN b m, NN c n] w fun e w' => e = .returned (NN (b != c) (m * n)) ∧ Mo w w' := by
  have FP := Lib.hid (fun i => full_pre m n i m0 n0 hmn)
  have bm := lim_bd m
  have bn := lim_bd n
  have HE : Hid (m % 65536 ^ 20 * n = m * n) := Lib.hid (by rw [Int.emod_eq_of_lt m0 m1])
  unfold NN
  generalize hl : lim m = l at *
  generalize hk : lim n = q at *
  clear hl hk m0 m1 n0 hmn
  go_enter Try.func34, Try.ntmps34
  go_wp2_with fail
  go_loopw [6, 7, 8] (fun i _ _ wr => ∃ (k : Nat), k ≤ 20 ∧ i = .int .i64 k ∧ ∃ d, wr = ((((w.alloc (.cells (numC b l) 73)).alloc (.cells (numC c q) 73)).alloc (.cells (numC false (fun _ => 0)) 73)).alloc (.cells (numC (b != c) (lim (m % 65536 ^ k * n))) 73)).drewN d) (fun i _ _ _ => 20 - (intOf i).toNat)
  case atStart => exact ⟨0, by omega, rfl, 0, by rw [show m % 65536 ^ 0 * n = 0 by simp [Int.emod_one], lim_0]; rfl⟩
  case round =>
    obtain ⟨i, hk, rfl, d, rfl⟩ := hrel
    by_cases cc : i < 20
    · have FI := Lib.hid (FP.out i)
      have b1 := bm i
      clear FP HE bm
      generalize m % 65536 ^ i * n = T at *
      generalize hT0 : m % 65536 ^ (i + 1) * n = T' at *
      have hT := Lib.hid hT0
      clear hT0
      generalize hli : l i = a at *
      go_wp2_with fail
      go_loopw [7] (fun x wr => ∃ (j : Nat), j ≤ 20 - i ∧ x = .int .i64 j ∧ ∃ d, wr = ((((w.alloc (.cells (numC b l) 73)).alloc (.cells (numC c q) 73)).alloc (.cells (numC false (fun _ => 0)) 73)).alloc (.cells (numC (b != c) (row T a i q j)) 73)).drewN d) (fun x _ => 20 - (intOf x).toNat)
      case atStart => exact ⟨0, by omega, rfl, d, by rw [row_0]⟩
      case round =>
        clear d
        obtain ⟨j, hj, rfl, d, rfl⟩ := hrel
        by_cases ce : i + j < 20
        · have c20 : j < 20 := by omega
          have c21 : ((i : Int) + (j : Int)) < 20 := by omega
          have H1 := Lib.hid (row_succ T a i q j)
          have H2 := Lib.hid (row_here T a i q j)
          have b2 := bn j
          have b3 := lim_bd T (i + j)
          have b4 := Int.mul_nonneg b1.1 b2.1
          have b5 := Int.mul_le_mul (show a ≤ 65535 by omega) (show q j ≤ 65535 by omega) b2.1 (by decide)
          clear bn FI
          generalize row T a i q j = L at *
          generalize lim T (i + j) = y at *
          have b6 := H2.out
          clear H2
          go_upto_region 8 with (fail)
          go_region
          go_wp2_with fail
          go_roundw
          case rel => exact ⟨j + 1, by omega, by go_num, _, by rw [H1.out]⟩
          case measure => simp [intOf]; omega
        · obtain rfl : j = 20 - i := by omega
          have c21 : ¬ ((i : Int) + ((20 - i : Nat) : Int)) < 20 := by omega
          have z1 : 0 ≤ ((20 - i : Nat) : Int) := by omega
          have z2 : ((20 - i : Nat) : Int) ≤ 20 := by omega
          have FB := full_bd T a i q b1.1 b1.2 bn
          have CB := pre_bd FB
          have CE := Lib.hid (car_end (full T a i q) (full T a i q) rfl (fun t => (FB t).1) (by rw [(FI.out cc).1]; exact (FI.out cc).2) (b != c))
          rw [(FI.out cc).1] at CE
          rw [row_end T a i q (b != c) hk]
          clear bn FI b1 hli
          generalize full T a i q = s at *
          generalize ((20 - i : Nat) : Int) = z at *
          go_wp2_with fail
          go_loopw [8] (fun x wr => ∃ (k : Nat), k ≤ 19 ∧ x = .int .i64 k ∧ ∃ d, wr = ((((w.alloc (.cells (numC b l) 73)).alloc (.cells (numC c q) 73)).alloc (.cells (numC false (fun _ => 0)) 73)).alloc (.cells (numC (b != c) (car s s k)) 73)).drewN d) (fun x _ => 19 - (intOf x).toNat)
          case atStart => exact ⟨0, by omega, rfl, d, by rw [car_0]⟩
          case round =>
            clear d
            obtain ⟨k, hk, rfl, d, rfl⟩ := hrel
            by_cases cg : k < 19
            · have c20 : k < 20 := by omega
              have c21 : k + 1 < 20 := by omega
              have C := Lib.hid (car_succ s s k)
              have C1 := Lib.hid (car_here s s k)
              have C2 := Lib.hid (car_next s s k)
              have b1 := FB k
              have b3 := FB (k + 1)
              have b4 := CB k
              clear CE FB CB
              generalize car s s k = L at *
              generalize pre s k / 65536 ^ k = p at *
              have b6 := C1.out
              have b7 := C2.out
              have C' := Lib.hid (C.out (s k + p) rfl)
              clear C C1 C2
              go_upto_region 12 with (fail)
              go_region
              go_wp2_with fail
              go_roundw
              case rel => exact ⟨k + 1, by omega, by go_num, _, by rw [C'.out]⟩
              case measure => simp [intOf]; omega
            · obtain rfl : k = 19 := by omega
              rw [CE.out]
              clear CE FB CB
              go_wp2_with fail
              go_roundw
              case rel => exact ⟨i + 1, by omega, by go_num, _, by rw [hT.out]⟩
              case measure => simp [intOf]; omega
    · obtain rfl : i = 20 := by omega
      rw [HE.out]
      clear bm bn FP HE
      go_wp2_with fail
      exact ret_num (w.heap.size + 2) 73 (numC (b != c) (lim (m * n))) Try.results34 rfl rfl ⟨rfl, Mor.out⟩

set_option maxRecDepth 20000 in
theorem Sg.mul {b c : Bool} {x y : Int} (hx : Sg b x) (hy : Sg c y) : Sg (b != c) (x * y) := by
  have P : ∀ u v : Int, 0 < u → 0 < v → 0 < u * v := fun u v hu hv => Int.mul_pos hu hv
  rcases Int.lt_trichotomy x 0 with h | h | h <;> rcases Int.lt_trichotomy y 0 with k | k | k
  · have := P (-x) (-y) (by omega) (by omega)
    rw [Int.neg_mul_neg] at this
    rw [hx.1 h, hy.1 k]; exact ⟨fun _ => by omega, fun _ => rfl⟩
  · subst k; exact ⟨fun c => by simp at c, fun c => by simp at c⟩
  · have := P (-x) y (by omega) k
    rw [Int.neg_mul] at this
    rw [hx.1 h, hy.2 k]; exact ⟨fun _ => rfl, fun _ => by omega⟩
  · subst h; exact ⟨fun c => by simp at c, fun c => by simp at c⟩
  · subst h; exact ⟨fun c => by simp at c, fun c => by simp at c⟩
  · subst h; exact ⟨fun c => by simp at c, fun c => by simp at c⟩
  · have := P x (-y) h (by omega)
    rw [Int.mul_neg] at this
    rw [hx.2 h, hy.1 k]; exact ⟨fun _ => rfl, fun _ => by omega⟩
  · subst k; exact ⟨fun c => by simp at c, fun c => by simp at c⟩
  · have := P x y h k
    rw [hx.2 h, hy.2 k]; exact ⟨fun _ => by omega, fun _ => rfl⟩
set_option maxRecDepth 20000 in
theorem absI_mul (x y : Int) : absI (x * y) = absI x * absI y := by
  have e : ∀ z : Int, absI z = z.natAbs := fun z => by unfold absI; split <;> omega
  rw [e, e, e, Int.natAbs_mul]; exact Int.natCast_mul _ _
set_option maxRecDepth 20000 in
theorem rmul_sg (b c : Bool) (x y : Int) (x1 : absI x < 65536 ^ 20) (h : absI x * absI y < 65536 ^ 20) (w : World) :
    Calls Try.prog 34 #[NN b (absI x), NN c (absI y)] w fun e w' => e = .returned (NN (b != c) (absI (x * y))) ∧ Mo w w' := by
  rw [absI_mul]
  exact rmul_any b c _ _ (absI_nonneg x) x1 (absI_nonneg y) h w
end Go.Proofs.Ytfojgjannhhbaaa
