/- allan: Live. -/
import Derived.Test.YtfojgjannhhbaaaGrid3
namespace Go.Proofs.Ytfojgjannhhbaaa
open Go.RowKit

/-- is a slot held that is at most so far behind? -/
def nigh (a : Int) (o : Nat) (s : Slot) : Bool := s.some && decide ((a - s.num) % 18446744073709551616 ≤ 2 ^ o)
def liveN (f : Nat → Slot) (a : Int) (o : Nat) : Nat → Nat
  | 0 => 0
  | i + 1 => liveN f a o i + (if nigh a o (f i) then 1 else 0)
set_option maxRecDepth 20000 in
theorem liveN_le (f : Nat → Slot) (a : Int) (o n : Nat) : liveN f a o n ≤ n := by
  induction n with
  | zero => exact Nat.le_refl _
  | succ n ih => unfold liveN; split <;> omega
set_option maxRecDepth 20000 in
theorem u64_sub (a b : Int) : IntKind.u64.wrap (wrap64 (a - b)) = (a - b) % 18446744073709551616 := by rw [IntKind.wrap_u64]; unfold wrap64; omega

set_option maxRecDepth 20000 in
theorem u64_pow {o : Nat} (h : o ≤ 10) : IntKind.u64.wrap (2 ^ o) = 2 ^ o := by
  rcases (show o = 0 ∨ o = 1 ∨ o = 2 ∨ o = 3 ∨ o = 4 ∨ o = 5 ∨ o = 6 ∨ o = 7 ∨ o = 8 ∨ o = 9 ∨ o = 10 by omega) with rfl | rfl | rfl | rfl | rfl | rfl | rfl | rfl | rfl | rfl | rfl <;> decide
set_option maxRecDepth 20000 in
set_option maxHeartbeats 4000000 in
theorem live_grid (p r R C o : Nat) (x : Int) (nw : Slot) (t : Tot) (ty : TypeId) (f : Nat → Slot) (W : World) (hR : 0 < R) (hR2 : R ≤ 1025) (ho : o ≤ 10) (hnw : nw.some = true)
    (hB : Blk W p ty (gridC x o r R C nw t)) (hB' : RingAt W r R f) :
    Calls Try.prog 12 #[.pointer (some ⟨p, 0, none⟩)] W fun e w' => e = .returned (.int .i64 (liveN f nw.num o R + 1)) ∧ Mo W w' := by
  have c1 : W.cell? ⟨p, 1, none⟩ = some (.int .i64 o) := by rw [blk_cell hB, gridC_lo _ _ _ _ _ _ _ _ (by omega)]; rfl
  have c2 : W.cell? ⟨p, 2, none⟩ = some (.slice (some ⟨r, 0, none⟩) R C) := by rw [blk_cell hB, gridC_lo _ _ _ _ _ _ _ _ (by omega)]; rfl
  have c3 : W.cell? ⟨p, 3, none⟩ = some (.bool true) := by rw [blk_cell hB, gridC_lo _ _ _ _ _ _ _ _ (by omega), ← hnw]; rfl
  have c4 : W.cell? ⟨p, 4, none⟩ = some (.int .i64 nw.num) := by rw [blk_cell hB, gridC_lo _ _ _ _ _ _ _ _ (by omega)]; rfl
  have LP : LtW p W := LtW.of_cell c1
  have LR : LtW r W := ⟨hB'.lt⟩
  have RA := Lib.hid (fun i (hi : i < R) => ring_at hB' i hi)
  have LL := Lib.hid (liveN_le f nw.num o)
  clear hB hB' hnw
  generalize nw.num = a at *
  clear nw
  go_enter Try.func12, Try.ntmps12
  go_wp2_with fail
  go_loopw [3, 21] (fun n i wr => ∃ k : Nat, k ≤ R ∧ i = .int .i64 k ∧ n = .int .i64 (liveN f a o k + 1) ∧ Mo W wr) (fun _ i _ => R - (intOf i).toNat)
  case atStart => exact ⟨0, by omega, rfl, rfl, Mor.out⟩
  case round =>
    obtain ⟨k, hk, rfl, rfl, J, d, rfl⟩ := hrel
    by_cases ck : k < R
    · obtain ⟨e0, e1, e2, e3⟩ := RA.out k ck
      have hn : liveN f a o (k + 1) = liveN f a o k + (if nigh a o (f k) then 1 else 0) := rfl
      have hl := LL.out k
      unfold nigh at hn
      generalize f k = s at *
      obtain ⟨sm, nm, of, dl⟩ := s
      simp only at e0 e1 e2 e3 hn
      have us := u64_sub a nm
      obtain ⟨l', hl'⟩ : ∃ l', liveN f a o (k + 1) = l' := ⟨_, rfl⟩
      rw [hl'] at hn
      have HL := Lib.hid hl'
      clear hl'
      generalize liveN f a o k = l at *
      have i1 : (k : Int) < R := by omega
      cases sm
      · have hn' : l' = l := by simpa using hn
        subst hn'
        clear hn RA LL
        go_wp2_with fail
        refine wp_region_mo (by kernel_rfl) (by kernel_rfl) ?_
        repeat (go_big_quiet_step (fail))
        refine wpQuiet_nil ?_
        intro _ hw'
        obtain ⟨⟨J9, d9⟩, hw''⟩ := hw'
        subst hw''
        go_wp2_with fail
        go_roundw
        case rel => exact ⟨k + 1, by omega, by go_num, by rw [HL.out], Mor.out⟩
        case measure => simp [intOf]; omega
      · by_cases near : (a - nm) % 18446744073709551616 ≤ 2 ^ o
        · have ht : decide ((a - nm) % 18446744073709551616 ≤ IntKind.u64.wrap (2 ^ o)) = true := by rw [u64_pow ho]; exact decide_eq_true near
          have hn' := Lib.hid (show l' = l + 1 by simpa [near] using hn)
          clear hn
          clear RA LL near
          go_wp2_with fail
          refine wp_region_mo (by kernel_rfl) (by kernel_rfl) ?_
          repeat (go_big_quiet_step (fail))
          refine wpQuiet_nil ?_
          intro _ hw'
          obtain ⟨⟨J9, d9⟩, hw''⟩ := hw'
          subst hw''
          go_wp2_with fail
          go_roundw
          case rel => exact ⟨k + 1, by omega, by go_num, by rw [HL.out, hn'.out]; go_num, Mor.out⟩
          case measure => simp [intOf]; omega
        · have ht : decide ((a - nm) % 18446744073709551616 ≤ IntKind.u64.wrap (2 ^ o)) = false := by rw [u64_pow ho]; exact decide_eq_false near
          have hn' := Lib.hid (show l' = l by simpa [near] using hn)
          clear hn
          clear RA LL near
          go_wp2_with fail
          refine wp_region_mo (by kernel_rfl) (by kernel_rfl) ?_
          repeat (go_big_quiet_step (fail))
          refine wpQuiet_nil ?_
          intro _ hw'
          obtain ⟨⟨J9, d9⟩, hw''⟩ := hw'
          subst hw''
          go_wp2_with fail
          go_roundw
          case rel => exact ⟨k + 1, by omega, by go_num, by rw [HL.out, hn'.out], Mor.out⟩
          case measure => simp [intOf]; omega
    · obtain rfl : k = R := by omega
      clear RA LL
      go_wp2_with fail
      go_ret
      exact ⟨rfl, Mor.out⟩
set_option maxRecDepth 20000 in
theorem live_none (p r R C o : Nat) (x : Int) (nw : Slot) (t : Tot) (ty : TypeId) (W : World) (hnw : nw.some = false) (hB : Blk W p ty (gridC x o r R C nw t)) :
    Calls Try.prog 12 #[.pointer (some ⟨p, 0, none⟩)] W fun e w' => e = .returned (.int .i64 0) ∧ Mo W w' := by
  have c3 : W.cell? ⟨p, 3, none⟩ = some (.bool false) := by rw [blk_cell hB, gridC_lo _ _ _ _ _ _ _ _ (by omega), ← hnw]; rfl
  clear hB
  go_enter Try.func12, Try.ntmps12
  go_wp2_with fail
  go_ret
  exact ⟨rfl, Mor.out⟩
set_option maxRecDepth 20000 in
theorem live_nil (W : World) : Calls Try.prog 12 #[.pointer none] W fun e w' => e = .returned (.int .i64 0) ∧ Mo W w' := by
  go_enter Try.func12, Try.ntmps12
  go_wp2_with fail
  go_ret
  exact ⟨rfl, Mor.out⟩
set_option maxRecDepth 20000 in
theorem told_gnil (W : World) : Calls Try.prog 15 #[.pointer none] W fun e w' => e = .returned (.slice none 0 0) ∧ Mo W w' := by
  go_enter Try.func15, Try.ntmps15
  go_wp2_with fail
  go_ret
  exact ⟨rfl, Mor.out⟩
set_option maxRecDepth 20000 in
theorem copy_nil (W : World) : Calls Try.prog 20 #[.pointer none] W fun e w' => e = .returned (.pointer none) ∧ Mo W w' := by
  go_enter Try.func20, Try.ntmps20
  go_wp2_with fail
  go_ret
  exact ⟨rfl, Mor.out⟩
end Go.Proofs.Ytfojgjannhhbaaa
