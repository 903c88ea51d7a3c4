/- horologeref01: Add: what it returns, in integers. -/
import Derived.Test.YtfojgjannhhbaaaRefC
import Derived.Test.YtfojgjannhhbaaaRefD
import Derived.BigRegion
namespace Go.Proofs.Ytfojgjannhhbaaa
open Go.RowKit

set_option maxRecDepth 20000 in
theorem upd_here (l : Nat → Int) (k : Nat) (x : Int) : upd l k x k = x := by simp [upd]
set_option maxRecDepth 20000 in
theorem upd_next (l : Nat → Int) (k : Nat) (x : Int) : upd l k x (k + 1) = l (k + 1) := by unfold upd; rw [if_neg (by omega)]
set_option maxRecDepth 20000 in
theorem upd_back (l : Nat → Int) (k : Nat) (x : Int) : upd l (k + 1) x k = l k := by unfold upd; rw [if_neg (by omega)]
attribute [go_sem] upd_here upd_next upd_back
set_option maxRecDepth 10000 in
set_option maxHeartbeats 1000000 in
theorem add_same (b : Bool) (m n : Int) (m0 : 0 ≤ m) (m1 : m < 65536 ^ 19) (n0 : 0 ≤ n) (n1 : n < 65536 ^ 19) (w : World) :
    Calls Try.prog 33 #[NN b m, NN b n] w fun e w' => e = .returned (NN b (m + n)) ∧ Mo w w' := by
  have bm := lim_bd m
  have bn := lim_bd n
  have HE : Hid (numC b (car (fun i => lim m i + lim n i) (lim m) 19) = numC b (lim (m + n))) := Lib.hid (by
    have e : pre (fun i => lim m i + lim n i) 20 = m + n := by
      have p : (65536 : Int) ^ 19 ≤ 65536 ^ 20 := by decide
      rw [pre_add, pre_lim_end m0 (by omega), pre_lim_end n0 (by omega)]
    rw [car_end, e]
    · have := lim_great (i := 19) n0 n1 (by omega)
      simp only [this]; omega
    · intro i; have := (bm i).1; have := (bn i).1; omega
    · have p : (65536 : Int) ^ 19 + 65536 ^ 19 ≤ 65536 ^ 20 := by decide
      rw [e]; omega)
  have CB : ∀ k, 0 ≤ pre (fun i => lim m i + lim n i) k / 65536 ^ k ∧ pre (fun i => lim m i + lim n i) k / 65536 ^ k ≤ 1 := by
    intro k
    rw [pre_add, pre_lim, pre_lim]
    have p := pow_pos' k
    have h1 := Int.emod_nonneg m (show (65536 : Int) ^ k ≠ 0 by omega)
    have h2 := Int.emod_lt_of_pos m p
    have h3 := Int.emod_nonneg n (show (65536 : Int) ^ k ≠ 0 by omega)
    have h4 := Int.emod_lt_of_pos n p
    generalize (65536 : Int) ^ k = P at *
    constructor
    · exact Int.ediv_nonneg (by omega) (by omega)
    · have := Int.ediv_lt_of_lt_mul p (show m % P + n % P < 2 * P by omega); omega
  generalize hs : (fun i => lim m i + lim n i) = s at *
  have Hs : ∀ k, s k = lim m k + lim n k := fun k => by rw [← hs]
  unfold NN
  generalize hl : lim m = l at *
  generalize hk : lim n = q at *
  generalize lim (m + n) = r at *
  clear hs hl hk m0 m1 n0 n1
  go_enter Try.func33, Try.ntmps33
  go_wp2_with fail
  go_loopw [5] (fun i wr => ∃ (k : Nat), k ≤ 19 ∧ i = .int .i64 k ∧ ∃ d, wr = (((w.alloc (.cells (numC b (car s l k)) 73)).alloc (.cells (numC b q) 73)).alloc (.cells (numC false (fun _ => 0)) 73)).drewN d) (fun i _ => 19 - (intOf i).toNat)
  case atStart => exact ⟨0, by omega, rfl, 0, by rw [car_0]; rfl⟩
  case round =>
    obtain ⟨k, hk, rfl, d, rfl⟩ := hrel
    by_cases c : k < 19
    · have c20 : k < 20 := by omega
      have c21 : k + 1 < 20 := by omega
      have C := Lib.hid (car_succ s l k)
      have C1 := Lib.hid (car_here s l k)
      have C2 := Lib.hid (car_next s l k)
      have b1 := bm k
      have b2 := bn k
      have b3 := bm (k + 1)
      have b4 := CB k
      have b5 := Hs k
      clear HE bm bn CB Hs
      generalize car s l k = L at *
      generalize pre s k / 65536 ^ k = p at *
      have b6 := C1.out
      have b7 := C2.out
      have C' := Lib.hid (C.out (l k + p + q k) (by omega))
      have C3 := Lib.hid (fun y z u => upd_upd L k (k + 1) y z u (by omega))
      clear C C1 C2 b5
      go_upto_region 5 with (fail)
      go_region
      go_upto_region 6 with (fail)
      go_region
      go_wp2_with fail
      go_roundw
      case rel => exact ⟨k + 1, by omega, by go_num, _, by rw [C3.out, C'.out]⟩
      case measure => simp [intOf]; omega
    · obtain rfl : k = 19 := by omega
      rw [HE.out]
      clear bm bn CB Hs HE
      go_wp2_with fail
      exact ret_num (w.heap.size + 2) 73 (numC b r) Try.results33 rfl rfl ⟨rfl, Mor.out⟩

set_option maxRecDepth 10000 in
set_option maxHeartbeats 1000000 in
theorem add_lt (b c : Bool) (hb : (b == c) = false) (m n : Int) (m0 : 0 ≤ m) (m1 : m < 65536 ^ 20) (n0 : 0 ≤ n) (n1 : n < 65536 ^ 20) (z : m < n) (w : World) :
    Calls Try.prog 33 #[NN b m, NN c n] w fun e w' => e = .returned (NN c (n - m)) ∧ Mo w w' := by
  have S := Lib.hid (fun w => rsize_any b c m n m0 m1 n0 n1 w)
  have e1 : cmpI m n < 0 := by rw [cmpI, if_pos z]; decide
  generalize cmpI m n = o at *
  clear z m0 m1 n0 n1
  go_enter Try.func33, Try.ntmps33
  go_wp2_with fail
  refine (S.out _).mono ?_
  rintro e w1 ⟨rfl, J, d, rfl⟩
  clear S
  go_wp2_with fail
  have bm := lim_bd n
  have bn := lim_bd m
  have B := brw_bd n m
  have BS := brw_succ n m
  have HD := Lib.hid (dif_succ (n - m) (lim n))
  have HH := Lib.hid (dif_here (n - m) (lim n))
  have HE := Lib.hid (dif_end (n - m) (lim n) c)
  have bd := lim_bd (n - m)
  go_loopw [6, 7, 8] (fun o i _ wr => ∃ (k : Nat), k ≤ 20 ∧ i = .int .i64 k ∧ o = .int .u64 (brw n m k) ∧ ∃ J d, wr = more (((w.alloc (.cells (numC c (dif (n - m) (lim n) k)) 73)).alloc (.cells (numC b (lim m)) 73)).alloc (.cells (numC false (fun _ => 0)) 73)) J d) (fun _ i _ _ => 20 - (intOf i).toNat)
  case atStart => exact ⟨0, by omega, rfl, by rw [brw_0], by rw [dif_0]; exact Mor.out⟩
  case round =>
    obtain ⟨k, hk, rfl, rfl, J, d, rfl⟩ := hrel
    by_cases cc : k < 20
    · have b1 := bm k
      have b2 := bn k
      have b3 := bd k
      have b4 := B k
      have b6 := BS k
      have b7 := B (k + 1)
      have H1 := Lib.hid (HD.out k)
      have H2 := Lib.hid (HH.out k)
      clear bm bn bd B BS HD HH HE
      generalize dif (n - m) (lim n) k = L at *
      generalize hx : lim n k = x at *
      generalize hy : lim m k = y at *
      generalize brw n m k = o at *
      generalize hp : brw n m (k + 1) = o2 at *
      have b8 := H2.out
      have b9 : (x + 65536 - y - o) % 65536 = lim (n - m) k := by omega
      have b10 := Lib.hid (show 1 - (x + 65536 - y - o) / 65536 = o2 by omega)
      have b11 : (x + 65536 - y - o) / 65536 ≤ 1 := by omega
      have hy' := Lib.hid hy
      have hp' := Lib.hid hp
      clear b6 b7 b3 H2 hx hp
      go_upto_region 15 with (fail)
      refine wp_region_mo' (by kernel_rfl) (by kernel_rfl) ?_
      repeat (go_big_quiet_step (fail))
      refine wpQuiet_nil ?_
      intro _ hw'
      obtain ⟨⟨J2, d2⟩, hw''⟩ := hw'
      subst hw''
      go_wp2_with fail
      go_roundw
      case rel => exact ⟨k + 1, by omega, by go_num, by rw [hp'.out, ← b10.out], _, _, by rw [← H1.out]⟩
      case measure => simp [intOf]; omega
    · obtain rfl : k = 20 := by omega
      rw [HE.out]
      clear bm bn bd B BS HD HH HE
      go_wp2_with fail
      exact ret_num (w.heap.size + 2) 73 (numC c (lim (n - m))) Try.results33 rfl rfl ⟨rfl, Mor.out⟩

set_option maxRecDepth 10000 in
set_option maxHeartbeats 1000000 in
theorem add_ge (b c : Bool) (hb : (b == c) = false) (m n : Int) (m0 : 0 ≤ m) (m1 : m < 65536 ^ 20) (n0 : 0 ≤ n) (n1 : n < 65536 ^ 20) (z : ¬ m < n) (w : World) :
    Calls Try.prog 33 #[NN b m, NN c n] w fun e w' => e = .returned (NN b (m - n)) ∧ Mo w w' := by
  have S := Lib.hid (fun w => rsize_any b c m n m0 m1 n0 n1 w)
  have e1 : ¬ cmpI m n < 0 := by unfold cmpI; rw [if_neg z]; split <;> omega
  generalize cmpI m n = o at *
  clear z m0 m1 n0 n1
  go_enter Try.func33, Try.ntmps33
  go_wp2_with fail
  refine (S.out _).mono ?_
  rintro e w1 ⟨rfl, J, d, rfl⟩
  clear S
  go_wp2_with fail
  have bm := lim_bd m
  have bn := lim_bd n
  have B := brw_bd m n
  have BS := brw_succ m n
  have HD := Lib.hid (dif_succ (m - n) (lim m))
  have HH := Lib.hid (dif_here (m - n) (lim m))
  have HE := Lib.hid (dif_end (m - n) (lim m) b)
  have bd := lim_bd (m - n)
  go_loopw [6, 7, 8] (fun o i _ wr => ∃ (k : Nat), k ≤ 20 ∧ i = .int .i64 k ∧ o = .int .u64 (brw m n k) ∧ ∃ J d, wr = more (((w.alloc (.cells (numC b (dif (m - n) (lim m) k)) 73)).alloc (.cells (numC c (lim n)) 73)).alloc (.cells (numC false (fun _ => 0)) 73)) J d) (fun _ i _ _ => 20 - (intOf i).toNat)
  case atStart => exact ⟨0, by omega, rfl, by rw [brw_0], by rw [dif_0]; exact Mor.out⟩
  case round =>
    obtain ⟨k, hk, rfl, rfl, J, d, rfl⟩ := hrel
    by_cases cc : k < 20
    · have b1 := bm k
      have b2 := bn k
      have b3 := bd k
      have b4 := B k
      have b6 := BS k
      have b7 := B (k + 1)
      have H1 := Lib.hid (HD.out k)
      have H2 := Lib.hid (HH.out k)
      clear bm bn bd B BS HD HH HE
      generalize dif (m - n) (lim m) k = L at *
      generalize hx : lim m k = x at *
      generalize hy : lim n k = y at *
      generalize brw m n k = o at *
      generalize hp : brw m n (k + 1) = o2 at *
      have b8 := H2.out
      have b9 : (x + 65536 - y - o) % 65536 = lim (m - n) k := by omega
      have b10 := Lib.hid (show 1 - (x + 65536 - y - o) / 65536 = o2 by omega)
      have b11 : (x + 65536 - y - o) / 65536 ≤ 1 := by omega
      have hy' := Lib.hid hy
      have hp' := Lib.hid hp
      clear b6 b7 b3 H2 hx hp
      go_upto_region 15 with (fail)
      refine wp_region_mo' (by kernel_rfl) (by kernel_rfl) ?_
      repeat (go_big_quiet_step (fail))
      refine wpQuiet_nil ?_
      intro _ hw'
      obtain ⟨⟨J2, d2⟩, hw''⟩ := hw'
      subst hw''
      go_wp2_with fail
      go_roundw
      case rel => exact ⟨k + 1, by omega, by go_num, by rw [hp'.out, ← b10.out], _, _, by rw [← H1.out]⟩
      case measure => simp [intOf]; omega
    · obtain rfl : k = 20 := by omega
      rw [HE.out]
      clear bm bn bd B BS HD HH HE
      go_wp2_with fail
      exact ret_num (w.heap.size + 2) 73 (numC b (lim (m - n))) Try.results33 rfl rfl ⟨rfl, Mor.out⟩

/-- the sign fits the number (nought may have either) -/
def Sg (b : Bool) (x : Int) : Prop := (x < 0 → b = true) ∧ (0 < x → b = false)
set_option maxRecDepth 20000 in
theorem Sg.val {b : Bool} {x : Int} (h : Sg b x) : val b (absI x) = x := by
  obtain ⟨h1, h2⟩ := h
  unfold Go.Proofs.Ytfojgjannhhbaaa.val absI
  cases b
  · have : ¬ x < 0 := fun c => by have := h1 c; cases this
    simp [this]
  · have : ¬ 0 < x := fun c => by have := h2 c; cases this
    by_cases c : x < 0
    · simp [c]
    · simp [c]; omega
set_option maxRecDepth 20000 in
theorem Sg.dec (x : Int) : Sg (decide (x < 0)) x := ⟨fun h => decide_eq_true h, fun h => decide_eq_false (by omega)⟩
set_option maxRecDepth 20000 in
theorem Sg.pos {x : Int} (h : 0 ≤ x) : Sg false x := ⟨fun c => by omega, fun _ => rfl⟩
set_option maxRecDepth 20000 in
theorem Sg.neg {b : Bool} {x : Int} (h : Sg b x) : Sg (!b) (-x) := ⟨fun c => by rw [h.2 (by omega)]; rfl, fun c => by rw [h.1 (by omega)]; rfl⟩
set_option maxRecDepth 20000 in
theorem absI_nonneg (x : Int) : 0 ≤ absI x := by unfold absI; split <;> omega
set_option maxRecDepth 20000 in
theorem absI_lt {x P : Int} (h1 : -P < x) (h2 : x < P) : absI x < P := by unfold absI; split <;> omega
set_option maxRecDepth 20000 in
theorem absI_neg (x : Int) : absI (-x) = absI x := by unfold absI; split <;> split <;> omega
set_option maxRecDepth 20000 in
theorem absI_pos {x : Int} (h : 0 ≤ x) : absI x = x := by unfold absI; split <;> omega

/-- the sign that a sum gets -/
def addS (b c : Bool) (x y : Int) : Bool := if b = c then b else if absI x < absI y then c else b
set_option maxRecDepth 20000 in
theorem addS_sg {b c : Bool} {x y : Int} (hx : Sg b x) (hy : Sg c y) : Sg (addS b c x y) (x + y) := by
  have vx := hx.val
  have vy := hy.val
  unfold addS
  by_cases e : b = c
  · subst e
    rw [if_pos rfl]
    refine ⟨fun k => ?_, fun k => ?_⟩ <;> cases b <;> simp [Go.Proofs.Ytfojgjannhhbaaa.val] at vx vy ⊢ <;> unfold absI at * <;> split at vx <;> split at vy <;> omega
  · rw [if_neg e]
    by_cases z : absI x < absI y
    · rw [if_pos z]
      refine ⟨fun k => ?_, fun k => ?_⟩ <;> cases b <;> cases c <;> simp [Go.Proofs.Ytfojgjannhhbaaa.val] at vx vy e ⊢ <;> unfold absI at * <;> split at vx <;> split at vy <;> omega
    · rw [if_neg z]
      refine ⟨fun k => ?_, fun k => ?_⟩ <;> cases b <;> cases c <;> simp [Go.Proofs.Ytfojgjannhhbaaa.val] at vx vy e ⊢ <;> unfold absI at * <;> split at vx <;> split at vy <;> omega
set_option maxRecDepth 20000 in
theorem radd_any (b c : Bool) (x y : Int) (hx : Sg b x) (hy : Sg c y) (x1 : absI x < 65536 ^ 19) (y1 : absI y < 65536 ^ 19) (w : World) :
    Calls Try.prog 33 #[NN b (absI x), NN c (absI y)] w fun e w' => e = .returned (NN (addS b c x y) (absI (x + y))) ∧ Mo w w' := by
  have p : (65536 : Int) ^ 19 ≤ 65536 ^ 20 := by decide
  have x0 := absI_nonneg x
  have y0 := absI_nonneg y
  have vx := hx.val
  have vy := hy.val
  unfold addS
  by_cases e : b = c
  · subst e
    have a1 : absI (x + y) = absI x + absI y := by
      cases b <;> simp [Go.Proofs.Ytfojgjannhhbaaa.val] at vx vy <;> unfold absI at * <;> split <;> split <;> split <;> omega
    rw [a1, if_pos rfl]
    exact add_same b _ _ x0 x1 y0 y1 w
  · have e' : (b == c) = false := by simpa using e
    rw [if_neg e]
    by_cases z : absI x < absI y
    · have a1 : absI (x + y) = absI y - absI x := by
        cases b <;> cases c <;> simp [Go.Proofs.Ytfojgjannhhbaaa.val] at vx vy e <;> unfold absI at * <;> split <;> split <;> split <;> omega
      rw [a1, if_pos z]
      exact add_lt b c e' _ _ x0 (by omega) y0 (by omega) z w
    · have a1 : absI (x + y) = absI x - absI y := by
        cases b <;> cases c <;> simp [Go.Proofs.Ytfojgjannhhbaaa.val] at vx vy e <;> unfold absI at * <;> split <;> split <;> split <;> omega
      rw [a1, if_neg z]
      exact add_ge b c e' _ _ x0 (by omega) y0 (by omega) z w
set_option maxRecDepth 20000 in
theorem rcmp_sg (b c : Bool) (x y : Int) (hx : Sg b x) (hy : Sg c y) (x1 : absI x < 65536 ^ 20) (y1 : absI y < 65536 ^ 20) (w : World) :
    Calls Try.prog 46 #[NN b (absI x), NN c (absI y)] w fun e w' => e = .returned (.int .i64 (cmpI x y)) ∧ Mo w w' := by
  have := rcmp_any b c _ _ (absI_nonneg x) x1 (absI_nonneg y) y1 w
  rwa [hx.val, hy.val] at this
end Go.Proofs.Ytfojgjannhhbaaa
