/- allan: New. -/
import Derived.Test.YtfojgjannhhbaaaGrid3
import Derived.Laws.MakeOwn
namespace Go.Proofs.Ytfojgjannhhbaaa
open Go.RowKit

set_option maxRecDepth 20000 in
theorem infoSlot : (Try.prog.info? 57).map (fun i => (i.zero, i.size, i.bytes)) = some (some (.agg (slotC slot0)), 4, 32) := by kernel_rfl
set_option maxRecDepth 20000 in
theorem made_ring (R : Nat) : madeCells (Value.agg (slotC slot0)).cells (R * 4) = ringC R (fun _ => slot0) := by
  refine Array.ext_getElem? fun k => ?_
  by_cases h : k < R * 4
  · have e : k = k / 4 * 4 + k % 4 := by omega
    have hk : k / 4 < R := by omega
    have h2 : (ringC R (fun _ => slot0))[k]? = (slotL slot0)[k % 4]? := by
      conv => lhs; rw [e]
      exact ringC_get R (fun _ => slot0) (k / 4) (k % 4) hk (by omega)
    rw [h2]
    unfold madeCells
    rcases (show k % 4 = 0 ∨ k % 4 = 1 ∨ k % 4 = 2 ∨ k % 4 = 3 by omega) with c | c | c | c <;> simp [h, c, Value.cells, slot0]
  · rw [Array.getElem?_eq_none (by rw [size_madeCells]; omega), Array.getElem?_eq_none (by rw [ringC_size]; omega)]
set_option maxRecDepth 20000 in
set_option maxHeartbeats 1000000 in
theorem grid0 (x o : Int) (r R C : Nat) : #[Value.int .i64 x, .int .i64 o, .slice (some ⟨r, 0, none⟩) R C, .bool false, .int .i64 0, .int .i64 0, .int .i64 0, .int .i64 0, .int .i64 0, .int .u64 0, .int .i64 0, .int .i64 0, .int .u64 0, .int .i64 0, .int .i64 0, .int .u64 0, .int .i64 0, .int .i64 0, .int .u64 0, .int .i64 0, .int .i64 0, .int .u64 0, .int .i64 0, .int .i64 0, .int .u64 0, .int .i64 0, .int .i64 0, .int .u64 0, .int .i64 0, .int .i64 0, .int .u64 0, .int .i64 0, .int .i64 0, .int .u64 0, .int .i64 0, .int .i64 0, .int .u64 0] = gridC x o r R C slot0 tot0 := by
  unfold gridC
  rw [← foldTot]
  simp only [List.append_toArray, List.cons_append, List.nil_append, slot0]
set_option maxRecDepth 20000 in
set_option maxHeartbeats 1000000 in
theorem new_any (x : Int) (o : Nat) (W : World) (x1 : 1 ≤ x) (x2 : x ≤ 1152921504606846976) (o1 : 1 ≤ o) (o2 : o ≤ 10) :
    Calls Try.prog 9 #[.int .i64 x, .int .i64 o] W fun e w' => ∃ r p, e = .returned (.tuple #[.pointer (some ⟨p, 0, none⟩), .int .i64 0]) ∧ Blk w' p 62 (gridC x o r (2 ^ o + 1) (2 ^ o + 1) slot0 tot0) ∧ Blk w' r 57 (ringC (2 ^ o + 1) (fun _ => slot0)) ∧ W.heap.size ≤ p ∧ W.heap.size ≤ r ∧ r ≠ p ∧ Mo W w' := by
  obtain ⟨q, hq⟩ : ∃ q : Nat, 2 ^ o = q := ⟨_, rfl⟩
  have hb : q ≤ 1024 ∧ 1 ≤ q := by
    have h1 : (2 : Nat) ^ o ≤ 2 ^ 10 := Nat.pow_le_pow_right (by decide) o2
    have h2 : 0 < (2 : Nat) ^ o := Nat.pow_pos (by decide)
    omega
  have hw : wrap64 (2 ^ o) = (q : Int) := by
    rw [show (2 : Int) ^ o = ((2 ^ o : Nat) : Int) by simp, hq]; unfold wrap64; omega
  rw [hq]
  clear hq
  obtain ⟨i0, hi, hz0, hz1, hz2⟩ := info_parts infoSlot
  have hmk : ∀ w, (Instr.makeSlice 55 (.int .i64 ((q : Int) + 1)) (.int .i64 ((q : Int) + 1))).run Try.prog w = .ok (.slice (some ⟨w.heap.size, 0, none⟩) (q + 1) (q + 1)) (w.alloc (.cells (ringC (q + 1) (fun _ => slot0)) 57)) := fun w => by
    have := run_make w 55 57 i0 _ Try.underlying55 hi hz0 .i64 .i64 ((q : Int) + 1) ((q : Int) + 1) (by omega) (Int.le_refl _) (by rw [hz2]; omega) (by omega)
    rw [hz1, show ((q : Int) + 1).toNat = q + 1 by omega, made_ring] at this
    exact this
  clear hz0 hz1 hz2 hi
  go_enter Try.func9, Try.ntmps9
  go_wp2_with fail
  go_ret2
  exact ⟨W.heap.size, W.heap.size + 1, rfl, by rw [← grid0]; infer_instance, inferInstance, by omega, by omega, by omega, Mor.out⟩
set_option maxRecDepth 20000 in
theorem new_bad (x o : Int) (W : World) (h : x < 1 ∨ 1152921504606846976 < x ∨ o < 1 ∨ 10 < o) :
    Calls Try.prog 9 #[.int .i64 x, .int .i64 o] W fun e w' => e = .returned (.tuple #[.pointer none, .int .i64 2]) ∧ Mo W w' := by
  have go : ∀ b1 b2 b3 b4 : Bool, decide (x < 1) = b1 → decide (1152921504606846976 < x) = b2 → decide (o < 1) = b3 → decide (10 < o) = b4 → (b1 || b2 || b3 || b4) = true →
      Calls Try.prog 9 #[.int .i64 x, .int .i64 o] W fun e w' => e = .returned (.tuple #[.pointer none, .int .i64 2]) ∧ Mo W w' := by
    intro b1 b2 b3 b4 q1 q2 q3 q4 hb
    cases b1 <;> cases b2 <;> cases b3 <;> cases b4 <;> first
      | (exact absurd hb (by decide))
      | (clear hb h
         go_enter Try.func9, Try.ntmps9
         go_wp2_with fail
         go_ret2
         exact ⟨rfl, Mor.out⟩)
  refine go _ _ _ _ rfl rfl rfl rfl ?_
  simp only [Bool.or_eq_true, decide_eq_true_eq]
  omega
end Go.Proofs.Ytfojgjannhhbaaa
