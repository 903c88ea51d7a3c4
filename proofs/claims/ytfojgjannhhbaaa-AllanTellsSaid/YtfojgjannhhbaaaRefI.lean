/- horologeref01: Wide: what it returns, in integers. -/
import Derived.Test.YtfojgjannhhbaaaRefH
namespace Go.Proofs.Ytfojgjannhhbaaa
open Go.RowKit

set_option maxRecDepth 20000 in
theorem fromS_sg (a : Int) : Sg (fromS a) a := by
  have h := addS_sg (b := decide (hiW a < 0)) (c := false) (x := hiW a * 18446744073709551616) (y := loW a) ⟨fun c => decide_eq_true (by omega), fun c => decide_eq_false (by omega)⟩ (Sg.pos (by unfold loW; omega))
  have e : hiW a * 18446744073709551616 + loW a = a := by unfold hiW loW; omega
  rwa [e] at h
def fil (k : Nat) : Nat → Int := fun t => if t < k then 65535 else 0
set_option maxRecDepth 20000 in
theorem fil_0 : fil 0 = fun _ => 0 := by funext t; simp [fil]
set_option maxRecDepth 20000 in
theorem fil_succ (k : Nat) : upd (fil k) k 65535 = fil (k + 1) := by
  funext t
  unfold upd fil
  by_cases c : t = k
  · subst c; rw [if_pos rfl, if_pos (by omega)]
  · by_cases e : t < k
    · rw [if_neg c, if_pos e, if_pos (by omega)]
    · rw [if_neg c, if_neg e, if_neg (by omega)]
set_option maxRecDepth 20000 in
theorem lim_most : upd (fil 8) 7 32767 = lim 170141183460469231731687303715884105727 := by
  funext i
  unfold upd fil
  by_cases c : i = 7
  · subst c; rfl
  · rw [if_neg c]
    by_cases d : i < 7
    · have : i = 0 ∨ i = 1 ∨ i = 2 ∨ i = 3 ∨ i = 4 ∨ i = 5 ∨ i = 6 := by omega
      rcases this with rfl | rfl | rfl | rfl | rfl | rfl | rfl <;> rfl
    · rw [lim_great (k := 8) (by decide) (by decide) (by omega), if_neg (by omega)]
set_option maxRecDepth 20000 in
theorem lim_least : upd (fun _ => 0) 7 32768 = lim 170141183460469231731687303715884105728 := by
  funext i
  unfold upd
  by_cases c : i = 7
  · subst c; rfl
  · rw [if_neg c]
    by_cases d : i < 7
    · have : i = 0 ∨ i = 1 ∨ i = 2 ∨ i = 3 ∨ i = 4 ∨ i = 5 ∨ i = 6 := by omega
      rcases this with rfl | rfl | rfl | rfl | rfl | rfl | rfl <;> rfl
    · rw [lim_great (k := 8) (by decide) (by decide) (by omega)]

/-- the top loop's two numbers, by the number of places left -/
def hiL (n : Int) (j : Nat) : Int := n / 65536 ^ (4 + j)
def loL (n : Int) (j : Nat) : Int := n % 18446744073709551616 / 65536 ^ j
set_option maxRecDepth 20000 in
theorem hiL_succ (n : Int) (j : Nat) : hiL n j = 65536 * hiL n (j + 1) + lim n (j + 4) := by
  have := div_step n (4 + j)
  unfold hiL
  rw [show j + 4 = 4 + j by omega, show 4 + (j + 1) = 4 + j + 1 by omega]; exact this
set_option maxRecDepth 20000 in
theorem loL_succ (n : Int) (j : Nat) (h : j < 4) : loL n j = 65536 * loL n (j + 1) + lim n j := by
  have := div_step (n % 18446744073709551616) j
  have e : lim (n % 18446744073709551616) j = lim n j := by
    have : j = 0 ∨ j = 1 ∨ j = 2 ∨ j = 3 := by omega
    unfold lim
    rcases this with rfl | rfl | rfl | rfl <;> simp <;> omega
  unfold loL
  rw [← e]; exact this
set_option maxRecDepth 20000 in
theorem hiL_bd {n : Int} (h0 : 0 ≤ n) (h1 : n ≤ 170141183460469231731687303715884105728) (j : Nat) : 0 ≤ hiL n j ∧ hiL n j ≤ 9223372036854775808 := by
  unfold hiL
  have p := pow_pos' j
  have e : n / 65536 ^ (4 + j) = n / 18446744073709551616 / 65536 ^ j := by
    rw [Int.pow_add, Int.ediv_ediv_of_nonneg (by decide)]; rfl
  rw [e]
  constructor
  · exact Int.ediv_nonneg (by omega) (by omega)
  · have := Int.ediv_le_self (65536 ^ j) (show 0 ≤ n / 18446744073709551616 by omega); omega
set_option maxRecDepth 20000 in
theorem loL_bd (n : Int) (j : Nat) : 0 ≤ loL n j ∧ loL n j < 18446744073709551616 := by
  unfold loL
  have p := pow_pos' j
  constructor
  · exact Int.ediv_nonneg (by omega) (by omega)
  · have := Int.ediv_le_self (65536 ^ j) (show 0 ≤ n % 18446744073709551616 by omega); omega

set_option maxRecDepth 20000 in
set_option maxHeartbeats 2000000 in
theorem rwide_in (s : Bool) (m o1 o2 : Int) (g1 : ¬ 0 < o1) (g2 : ¬ o2 < 0)
    (C1 : Hid (∀ w, Calls Try.prog 46 #[NN s m, NN false 170141183460469231731687303715884105727] w fun e w' => e = .returned (.int .i64 o1) ∧ Mo w w'))
    (C2 : Hid (∀ w, Calls Try.prog 46 #[NN s m, NN true 170141183460469231731687303715884105728] w fun e w' => e = .returned (.int .i64 o2) ∧ Mo w w'))
    (n0 : (0 : Int) ≤ m) (n1 : (m : Int) ≤ 170141183460469231731687303715884105728) (w : World) (H L : Int)
    (hH : H = wrap64 (if s then (if 0 < loL m 0 then IntKind.u64.wrap (IntKind.u64.wrap (-(hiL m 0)) - 1) else IntKind.u64.wrap (-(hiL m 0))) else hiL m 0))
    (hL : L = if s then IntKind.u64.wrap (-(loL m 0)) else loL m 0) :
    Calls Try.prog 27 #[NN s m] w fun e w' => e = .returned (.agg #[.int .i64 H, .int .u64 L]) ∧ Mo w w' := by
  have LM := lim_most
  have LL := lim_least
  go_enter Try.func27, Try.ntmps27
  go_wp2_with fail
  go_loopw [4] (fun i wr => ∃ k : Nat, k ≤ 8 ∧ i = .int .i64 k ∧ wr = ((w.alloc (.cells (numC s (lim m)) 73)).alloc (.cells #[.int .i64 0, .int .u64 0] 34)).alloc (.cells (numC false (fil k)) 73)) (fun i _ => 8 - (intOf i).toNat)
  case atStart => exact ⟨0, by omega, rfl, by rw [fil_0]⟩
  case round =>
    obtain ⟨k, hk, rfl, rfl⟩ := hrel
    by_cases c : k < 8
    · have c20 : k < 20 := by omega
      have F := Lib.hid (fil_succ k)
      clear LM LL
      go_wp2_with fail
      go_roundw
      case rel => exact ⟨k + 1, by omega, by go_num, by rw [F.out]⟩
      case measure => simp [intOf]; omega
    · obtain rfl : k = 8 := by omega
      go_wp2_with fail
      refine (C1.out _).mono ?_
      rintro e w1 ⟨rfl, J1, d1, rfl⟩
      go_wp2_with fail
      refine (C2.out _).mono ?_
      rintro e w1 ⟨rfl, J2, d2, rfl⟩
      go_wp2_with fail
      have h4 := Lib.hid (show hiL m 4 = 0 by unfold hiL; rw [show (65536 : Int) ^ (4 + 4) = 340282366920938463463374607431768211456 by decide]; omega)
      have l4 := Lib.hid (show loL m 4 = 0 by unfold loL; rw [show (65536 : Int) ^ 4 = 18446744073709551616 by decide]; omega)
      have BH := hiL_bd (n := m) n0 n1
      have BL := loL_bd m
      have SH := hiL_succ m
      have SL := loL_succ m
      have BM := lim_bd m
      clear n0 n1 C1 C2 g1 g2
      go_loop [6, 7, 8] (fun h l i => ∃ (j : Nat) (y : Int), j ≤ 4 ∧ y = (j : Int) - 1 ∧ i = .int .i64 y ∧ h = .int .u64 (hiL m j) ∧ l = .int .u64 (loL m j)) (fun _ _ i => (intOf i + 1).toNat)
      case atStart => exact ⟨4, 3, by omega, by omega, rfl, by rw [h4.out], by rw [l4.out]⟩
      case round =>
        clear h4 l4
        obtain ⟨j, y, hj, hy, rfl, rfl, rfl⟩ := hrel
        cases j with
        | zero =>
          obtain rfl : y = -1 := by omega
          clear hy SH SL BM
          have b0 := BH 0
          have b1 := BL 0
          clear BH BL
          generalize hiL m 0 = hi at *
          generalize loL m 0 = lo at *
          have hHo := Lib.hid hH
          have hLo := Lib.hid hL
          clear hH hL
          cases s
          · go_wp2_with fail
            exact bodyPost_ret (v := .agg #[.int .i64 H, .int .u64 L]) (by simp [results, Try.results27, go_sem, hHo.out, hLo.out]) rfl ⟨rfl, Mor.out⟩
          · by_cases z : 0 < lo
            · go_wp2_with fail
              exact bodyPost_ret (v := .agg #[.int .i64 H, .int .u64 L]) (by simp [results, Try.results27, go_sem, hHo.out, hLo.out, z]) rfl ⟨rfl, Mor.out⟩
            · obtain rfl : lo = 0 := by omega
              go_wp2_with fail
              exact bodyPost_ret (v := .agg #[.int .i64 H, .int .u64 L]) (by simp [results, Try.results27, go_sem, hHo.out, hLo.out]; rfl) rfl ⟨rfl, Mor.out⟩
        | succ j =>
          obtain rfl : y = (j : Int) := by omega
          clear hy
          have j20 : j < 20 := by omega
          have j24 : j + 4 < 20 := by omega
          have a1 := Lib.hid (SH j)
          have a2 := Lib.hid (SL j (by omega))
          have a3 := BH j
          have a4 := BL j
          have a5 := BH (j + 1)
          have a6 := BL (j + 1)
          have a7 := BM j
          have a8 := BM (j + 4)
          have a9 : 65536 * hiL m (j + 1) + lim m (j + 4) ≤ 9223372036854775808 := by rw [← SH j]; exact a3.2
          have a10 : 65536 * loL m (j + 1) + lim m j < 18446744073709551616 := by rw [← SL j (by omega)]; exact a4.2
          clear SH SL BH BL BM
          go_wp2_with fail
          go_round
          case rel => exact ⟨j, _, by omega, rfl, by go_num, by rw [a1.out], by rw [a2.out]⟩
          case measure => simp [intOf]

set_option maxRecDepth 20000 in
set_option maxHeartbeats 2000000 in
theorem rwide_hi (s : Bool) (m o1 o2 : Int) (g1 : 0 < o1) (g2 : ¬ o2 < 0)
    (C1 : Hid (∀ w, Calls Try.prog 46 #[NN s m, NN false 170141183460469231731687303715884105727] w fun e w' => e = .returned (.int .i64 o1) ∧ Mo w w'))
    (C2 : Hid (∀ w, Calls Try.prog 46 #[NN false 170141183460469231731687303715884105727, NN true 170141183460469231731687303715884105728] w fun e w' => e = .returned (.int .i64 o2) ∧ Mo w w'))
    (n0 : (0 : Int) ≤ 170141183460469231731687303715884105727) (n1 : (170141183460469231731687303715884105727 : Int) ≤ 170141183460469231731687303715884105728) (w : World) (H L : Int)
    (hH : H = wrap64 (if false then (if 0 < loL 170141183460469231731687303715884105727 0 then IntKind.u64.wrap (IntKind.u64.wrap (-(hiL 170141183460469231731687303715884105727 0)) - 1) else IntKind.u64.wrap (-(hiL 170141183460469231731687303715884105727 0))) else hiL 170141183460469231731687303715884105727 0))
    (hL : L = if false then IntKind.u64.wrap (-(loL 170141183460469231731687303715884105727 0)) else loL 170141183460469231731687303715884105727 0) :
    Calls Try.prog 27 #[NN s m] w fun e w' => e = .returned (.agg #[.int .i64 H, .int .u64 L]) ∧ Mo w w' := by
  have LM := lim_most
  have LL := lim_least
  go_enter Try.func27, Try.ntmps27
  go_wp2_with fail
  go_loopw [4] (fun i wr => ∃ k : Nat, k ≤ 8 ∧ i = .int .i64 k ∧ wr = ((w.alloc (.cells (numC s (lim m)) 73)).alloc (.cells #[.int .i64 0, .int .u64 0] 34)).alloc (.cells (numC false (fil k)) 73)) (fun i _ => 8 - (intOf i).toNat)
  case atStart => exact ⟨0, by omega, rfl, by rw [fil_0]⟩
  case round =>
    obtain ⟨k, hk, rfl, rfl⟩ := hrel
    by_cases c : k < 8
    · have c20 : k < 20 := by omega
      have F := Lib.hid (fil_succ k)
      clear LM LL
      go_wp2_with fail
      go_roundw
      case rel => exact ⟨k + 1, by omega, by go_num, by rw [F.out]⟩
      case measure => simp [intOf]; omega
    · obtain rfl : k = 8 := by omega
      go_wp2_with fail
      refine (C1.out _).mono ?_
      rintro e w1 ⟨rfl, J1, d1, rfl⟩
      go_wp2_with fail
      refine (C2.out _).mono ?_
      rintro e w1 ⟨rfl, J2, d2, rfl⟩
      go_wp2_with fail
      have h4 := Lib.hid (show hiL 170141183460469231731687303715884105727 4 = 0 by unfold hiL; rw [show (65536 : Int) ^ (4 + 4) = 340282366920938463463374607431768211456 by decide]; omega)
      have l4 := Lib.hid (show loL 170141183460469231731687303715884105727 4 = 0 by unfold loL; rw [show (65536 : Int) ^ 4 = 18446744073709551616 by decide]; omega)
      have BH := hiL_bd (n := 170141183460469231731687303715884105727) n0 n1
      have BL := loL_bd 170141183460469231731687303715884105727
      have SH := hiL_succ 170141183460469231731687303715884105727
      have SL := loL_succ 170141183460469231731687303715884105727
      have BM := lim_bd 170141183460469231731687303715884105727
      clear n0 n1 C1 C2 g1 g2
      go_loop [6, 7, 8] (fun h l i => ∃ (j : Nat) (y : Int), j ≤ 4 ∧ y = (j : Int) - 1 ∧ i = .int .i64 y ∧ h = .int .u64 (hiL 170141183460469231731687303715884105727 j) ∧ l = .int .u64 (loL 170141183460469231731687303715884105727 j)) (fun _ _ i => (intOf i + 1).toNat)
      case atStart => exact ⟨4, 3, by omega, by omega, rfl, by rw [h4.out], by rw [l4.out]⟩
      case round =>
        clear h4 l4
        obtain ⟨j, y, hj, hy, rfl, rfl, rfl⟩ := hrel
        cases j with
        | zero =>
          obtain rfl : y = -1 := by omega
          clear hy SH SL BM
          have b0 := BH 0
          have b1 := BL 0
          clear BH BL
          generalize hiL 170141183460469231731687303715884105727 0 = hi at *
          generalize loL 170141183460469231731687303715884105727 0 = lo at *
          have hHo := Lib.hid hH
          have hLo := Lib.hid hL
          clear hH hL
          go_wp2_with fail
          exact bodyPost_ret (v := .agg #[.int .i64 H, .int .u64 L]) (by simp [results, Try.results27, go_sem, hHo.out, hLo.out]) rfl ⟨rfl, Mor.out⟩
        | succ j =>
          obtain rfl : y = (j : Int) := by omega
          clear hy
          have j20 : j < 20 := by omega
          have j24 : j + 4 < 20 := by omega
          have a1 := Lib.hid (SH j)
          have a2 := Lib.hid (SL j (by omega))
          have a3 := BH j
          have a4 := BL j
          have a5 := BH (j + 1)
          have a6 := BL (j + 1)
          have a7 := BM j
          have a8 := BM (j + 4)
          have a9 : 65536 * hiL 170141183460469231731687303715884105727 (j + 1) + lim 170141183460469231731687303715884105727 (j + 4) ≤ 9223372036854775808 := by rw [← SH j]; exact a3.2
          have a10 : 65536 * loL 170141183460469231731687303715884105727 (j + 1) + lim 170141183460469231731687303715884105727 j < 18446744073709551616 := by rw [← SL j (by omega)]; exact a4.2
          clear SH SL BH BL BM
          go_wp2_with fail
          go_round
          case rel => exact ⟨j, _, by omega, rfl, by go_num, by rw [a1.out], by rw [a2.out]⟩
          case measure => simp [intOf]

set_option maxRecDepth 20000 in
set_option maxHeartbeats 2000000 in
theorem rwide_lo (s : Bool) (m o1 o2 : Int) (g1 : ¬ 0 < o1) (g2 : o2 < 0)
    (C1 : Hid (∀ w, Calls Try.prog 46 #[NN s m, NN false 170141183460469231731687303715884105727] w fun e w' => e = .returned (.int .i64 o1) ∧ Mo w w'))
    (C2 : Hid (∀ w, Calls Try.prog 46 #[NN s m, NN true 170141183460469231731687303715884105728] w fun e w' => e = .returned (.int .i64 o2) ∧ Mo w w'))
    (n0 : (0 : Int) ≤ 170141183460469231731687303715884105728) (n1 : (170141183460469231731687303715884105728 : Int) ≤ 170141183460469231731687303715884105728) (w : World) (H L : Int)
    (hH : H = wrap64 (if true then (if 0 < loL 170141183460469231731687303715884105728 0 then IntKind.u64.wrap (IntKind.u64.wrap (-(hiL 170141183460469231731687303715884105728 0)) - 1) else IntKind.u64.wrap (-(hiL 170141183460469231731687303715884105728 0))) else hiL 170141183460469231731687303715884105728 0))
    (hL : L = if true then IntKind.u64.wrap (-(loL 170141183460469231731687303715884105728 0)) else loL 170141183460469231731687303715884105728 0) :
    Calls Try.prog 27 #[NN s m] w fun e w' => e = .returned (.agg #[.int .i64 H, .int .u64 L]) ∧ Mo w w' := by
  have LM := lim_most
  have LL := lim_least
  go_enter Try.func27, Try.ntmps27
  go_wp2_with fail
  go_loopw [4] (fun i wr => ∃ k : Nat, k ≤ 8 ∧ i = .int .i64 k ∧ wr = ((w.alloc (.cells (numC s (lim m)) 73)).alloc (.cells #[.int .i64 0, .int .u64 0] 34)).alloc (.cells (numC false (fil k)) 73)) (fun i _ => 8 - (intOf i).toNat)
  case atStart => exact ⟨0, by omega, rfl, by rw [fil_0]⟩
  case round =>
    obtain ⟨k, hk, rfl, rfl⟩ := hrel
    by_cases c : k < 8
    · have c20 : k < 20 := by omega
      have F := Lib.hid (fil_succ k)
      clear LM LL
      go_wp2_with fail
      go_roundw
      case rel => exact ⟨k + 1, by omega, by go_num, by rw [F.out]⟩
      case measure => simp [intOf]; omega
    · obtain rfl : k = 8 := by omega
      go_wp2_with fail
      refine (C1.out _).mono ?_
      rintro e w1 ⟨rfl, J1, d1, rfl⟩
      go_wp2_with fail
      refine (C2.out _).mono ?_
      rintro e w1 ⟨rfl, J2, d2, rfl⟩
      go_wp2_with fail
      have h4 := Lib.hid (show hiL 170141183460469231731687303715884105728 4 = 0 by unfold hiL; rw [show (65536 : Int) ^ (4 + 4) = 340282366920938463463374607431768211456 by decide]; omega)
      have l4 := Lib.hid (show loL 170141183460469231731687303715884105728 4 = 0 by unfold loL; rw [show (65536 : Int) ^ 4 = 18446744073709551616 by decide]; omega)
      have BH := hiL_bd (n := 170141183460469231731687303715884105728) n0 n1
      have BL := loL_bd 170141183460469231731687303715884105728
      have SH := hiL_succ 170141183460469231731687303715884105728
      have SL := loL_succ 170141183460469231731687303715884105728
      have BM := lim_bd 170141183460469231731687303715884105728
      clear n0 n1 C1 C2 g1 g2
      go_loop [6, 7, 8] (fun h l i => ∃ (j : Nat) (y : Int), j ≤ 4 ∧ y = (j : Int) - 1 ∧ i = .int .i64 y ∧ h = .int .u64 (hiL 170141183460469231731687303715884105728 j) ∧ l = .int .u64 (loL 170141183460469231731687303715884105728 j)) (fun _ _ i => (intOf i + 1).toNat)
      case atStart => exact ⟨4, 3, by omega, by omega, rfl, by rw [h4.out], by rw [l4.out]⟩
      case round =>
        clear h4 l4
        obtain ⟨j, y, hj, hy, rfl, rfl, rfl⟩ := hrel
        cases j with
        | zero =>
          obtain rfl : y = -1 := by omega
          clear hy SH SL BM
          have b0 := BH 0
          have b1 := BL 0
          clear BH BL
          generalize hiL 170141183460469231731687303715884105728 0 = hi at *
          generalize loL 170141183460469231731687303715884105728 0 = lo at *
          have hHo := Lib.hid hH
          have hLo := Lib.hid hL
          clear hH hL
          by_cases z : 0 < lo
          · go_wp2_with fail
            exact bodyPost_ret (v := .agg #[.int .i64 H, .int .u64 L]) (by simp [results, Try.results27, go_sem, hHo.out, hLo.out, z]) rfl ⟨rfl, Mor.out⟩
          · obtain rfl : lo = 0 := by omega
            go_wp2_with fail
            exact bodyPost_ret (v := .agg #[.int .i64 H, .int .u64 L]) (by simp [results, Try.results27, go_sem, hHo.out, hLo.out]; rfl) rfl ⟨rfl, Mor.out⟩
        | succ j =>
          obtain rfl : y = (j : Int) := by omega
          clear hy
          have j20 : j < 20 := by omega
          have j24 : j + 4 < 20 := by omega
          have a1 := Lib.hid (SH j)
          have a2 := Lib.hid (SL j (by omega))
          have a3 := BH j
          have a4 := BL j
          have a5 := BH (j + 1)
          have a6 := BL (j + 1)
          have a7 := BM j
          have a8 := BM (j + 4)
          have a9 : 65536 * hiL 170141183460469231731687303715884105728 (j + 1) + lim 170141183460469231731687303715884105728 (j + 4) ≤ 9223372036854775808 := by rw [← SH j]; exact a3.2
          have a10 : 65536 * loL 170141183460469231731687303715884105728 (j + 1) + lim 170141183460469231731687303715884105728 j < 18446744073709551616 := by rw [← SL j (by omega)]; exact a4.2
          clear SH SL BH BL BM
          go_wp2_with fail
          go_round
          case rel => exact ⟨j, _, by omega, rfl, by go_num, by rw [a1.out], by rw [a2.out]⟩
          case measure => simp [intOf]

set_option maxRecDepth 20000 in
theorem hiL_0 (n : Int) : hiL n 0 = n / 18446744073709551616 := by unfold hiL; rw [show (65536 : Int) ^ (4 + 0) = 18446744073709551616 by decide]
set_option maxRecDepth 20000 in
theorem loL_0 (n : Int) : loL n 0 = n % 18446744073709551616 := by unfold loL; rw [show (65536 : Int) ^ 0 = 1 by decide, Int.ediv_one]
set_option maxRecDepth 20000 in
theorem rwide_any (s : Bool) (x : Int) (hs : Sg s x) (hx : absI x < 65536 ^ 20) (w : World) :
    Calls Try.prog 27 #[NN s (absI x)] w fun e w' => e = .returned (WV (cl x)) ∧ Mo w w' := by
  have M0 : absI 170141183460469231731687303715884105727 < 65536 ^ 20 := by decide
  have M1 : absI (-170141183460469231731687303715884105728) < 65536 ^ 20 := by decide
  have T : Sg true (-170141183460469231731687303715884105728) := ⟨fun _ => rfl, fun c => by omega⟩
  have P : Sg false 170141183460469231731687303715884105727 := Sg.pos (by decide)
  have aT : absI (-170141183460469231731687303715884105728) = 170141183460469231731687303715884105728 := by decide
  have aP : absI 170141183460469231731687303715884105727 = 170141183460469231731687303715884105727 := by decide
  have C1 := fun w => rcmp_sg s false x _ hs P hx M0 w
  rw [aP] at C1
  by_cases c1 : 170141183460469231731687303715884105727 < x
  · have e : cl x = maxW := by unfold cl; rw [if_neg (by omega), if_pos (by omega)]
    have C2 := fun w => rcmp_sg false true _ _ P T M0 M1 w
    rw [aP, aT] at C2
    rw [e]
    exact rwide_hi s (absI x) _ _ (by unfold cmpI; rw [if_neg (by omega), if_pos c1]; decide) (by decide) (Lib.hid C1) (Lib.hid C2) (by decide) (by decide) w _ _ (by simp only [hiL_0, loL_0, IntKind.wrap_u64]; unfold wrap64; decide) (by simp only [loL_0, IntKind.wrap_u64]; decide)
  · have g1 : ¬ 0 < cmpI x 170141183460469231731687303715884105727 := by
      unfold cmpI
      split <;> (first | decide | (rw [if_neg c1]; decide))
    have C2 := fun w => rcmp_sg s true x _ hs T hx M1 w
    rw [aT] at C2
    by_cases c2 : x < -170141183460469231731687303715884105728
    · have e : cl x = minW := by unfold cl; rw [if_pos c2]
      rw [e]
      exact rwide_lo s (absI x) _ _ g1 (by unfold cmpI; rw [if_pos c2]; decide) (Lib.hid C1) (Lib.hid C2) (by decide) (by decide) w _ _ (by simp only [hiL_0, loL_0, IntKind.wrap_u64]; unfold wrap64; decide) (by simp only [loL_0, IntKind.wrap_u64]; decide)
    · have e : cl x = x := cl_in ⟨by omega, by omega⟩
      rw [e]
      refine rwide_in s (absI x) _ _ g1 ?_ (Lib.hid C1) (Lib.hid C2) (absI_nonneg x) (by unfold absI; split <;> omega) w _ _ ?_ ?_
      · unfold cmpI
        rw [if_neg c2]
        split <;> decide
      · rw [hiL_0, loL_0, IntKind.wrap_u64, IntKind.wrap_u64]
        unfold hiW wrap64 absI
        obtain ⟨s1, s2⟩ := hs
        cases s
        · have : ¬ x < 0 := fun c => by have := s1 c; cases this
          rw [if_neg (by decide), if_neg this]; omega
        · have : ¬ 0 < x := fun c => by have := s2 c; cases this
          rw [if_pos rfl]
          by_cases z : x < 0
          · rw [if_pos z]; split <;> omega
          · obtain rfl : x = 0 := by omega
            rfl
      · rw [loL_0, IntKind.wrap_u64]
        unfold loW absI
        obtain ⟨s1, s2⟩ := hs
        cases s
        · have : ¬ x < 0 := fun c => by have := s1 c; cases this
          rw [if_neg (by decide), if_neg this]
        · have : ¬ 0 < x := fun c => by have := s2 c; cases this
          rw [if_pos rfl]
          by_cases z : x < 0
          · rw [if_pos z]; omega
          · obtain rfl : x = 0 := by omega
            rfl
end Go.Proofs.Ytfojgjannhhbaaa
