/- horologelaw33.TruthMoves: numbers in rows that the call owns: made, deleted from; the argument []uint8. -/
import Derived.Test.YtdppkbnjedehbaaTruR
namespace Go.Proofs.Ytdppkbnjedehbaa
open Go.RowKit Go.Sort Go.ChangeShapes Go.WideShapes Go.Deep

def leftI (n j : Nat) : List Int := (List.range n).map fun (k : Nat) => if k < j then (k : Int) else 0
set_option maxRecDepth 20000 in
theorem leftI_length (n j : Nat) : (leftI n j).length = n := by unfold leftI; simp
set_option maxRecDepth 20000 in
theorem leftI_set (n j : Nat) (hj : j < n) : (i64L (leftI n j)).toArray.setIfInBounds j (.int .i64 (j : Int)) = (i64L (leftI n (j + 1))).toArray := by
  refine Array.ext_getElem? fun k => ?_
  rw [Array.getElem?_setIfInBounds]
  unfold i64L leftI
  simp only [List.map_map, List.size_toArray, List.length_map, List.length_range, List.getElem?_toArray, List.getElem?_map]
  by_cases c : j = k
  · subst c
    simp [hj]
  · rw [if_neg c]
    by_cases d : k < n
    · simp only [List.getElem?_range, d, Option.map_some, Function.comp]
      congr 2
      by_cases e : k < j
      · rw [if_pos e, if_pos (by omega)]
      · rw [if_neg e, if_neg (by omega)]
    · simp [d]
set_option maxRecDepth 20000 in
theorem leftI_all (n : Nat) : leftI n n = natI (List.range n) := by
  unfold leftI natI
  refine List.map_congr_left fun k hk => ?_
  rw [if_pos (List.mem_range.1 hk)]
set_option maxRecDepth 20000 in
theorem make_ints (n : Nat) (hn : n ≤ 100000) (w : World) : (Instr.makeSlice 28 (.int .i64 (n : Int)) (.int .i64 (n : Int))).run Try.prog w = .ok (.slice (some ⟨w.heap.size, 0, none⟩) n n) (w.alloc (.cells (i64L (leftI n 0)).toArray 3)) := by
  obtain ⟨i0, hi, hz0, hz1, hz2⟩ := info_parts infoInt
  have := run_make (P := Try.prog) w 28 3 i0 _ Try.underlying28 hi hz0 .i64 .i64 (n : Int) (n : Int) (by omega) (Int.le_refl _) (by rw [hz2]; omega) (by omega)
  rw [hz1, Int.toNat_natCast] at this
  have e : madeCells (Value.int .i64 0).cells (n * 1) = (i64L (leftI n 0)).toArray := by
    refine Array.ext_getElem? fun k => ?_
    unfold madeCells i64L leftI
    simp only [List.map_map, List.getElem?_toArray, List.getElem?_map, Array.getElem?_map, Array.getElem?_range, Nat.mul_one]
    by_cases d : k < n
    · simp [d, Value.cells, Nat.mod_one]
    · simp [d]
  rw [e] at this
  exact this
set_option maxRecDepth 20000 in
theorem delete_own (base g cap n i : Nat) (zs : List Int) (W : World) (hn : zs.length = n) (hi : i < n) (h : W.ownsRow base 3 1 (.slice (some ⟨g, 0, none⟩) n cap) n (i64L zs)) :
    Calls Try.prog 19 #[.slice (some ⟨g, 0, none⟩) n cap, .int .i64 (i : Int), .int .i64 ((i : Int) + 1)] W fun e w' => e = .returned (.slice (some ⟨g, 0, none⟩) (n - 1) cap) ∧
      w'.ownsRow base 3 1 (.slice (some ⟨g, 0, none⟩) (n - 1) cap) (n - 1) (i64L (zs.take i ++ zs.drop (i + 1))) ∧ W.grownBy w' (some g) := by
  subst hn
  obtain ⟨g', cap', e0, hb, hg, hnc, hm, _, hH⟩ := Lib.holds_of_ownsRow (enc := Value.int .i64) h (by intro e; cases e)
  injection e0 with e1 _ e3
  injection e1 with e1
  injection e1 with e1
  subst e1 e3
  have := AnyG.slices_Delete_int deleteInt g 0 cap i (i + 1) zs W hH hnc (by unfold maxLen at hm; omega) (by omega) (by omega)
  rw [show ((i + 1 : Nat) : Int) = (i : Int) + 1 by omega] at this
  refine this.mono ?_
  rintro e w' ⟨rfl, q, rfl⟩
  have e2 : zs.length - (i + 1 - i) = zs.length - 1 := by omega
  have e3 : (zs.take i ++ zs.drop (i + 1)).length = zs.length - 1 := by rw [List.length_append, List.length_take, List.length_drop]; omega
  refine ⟨by rw [e2], ?_, ?_⟩
  · have k := Lib.ownsRow_putRow (q := q) (k := zs.length - 1) (ys := zs.take i ++ zs.drop (i + 1) ++ List.replicate (i + 1 - i) 0) h (by rw [List.length_append, e3, List.length_replicate]; omega) (by omega)
    rw [List.take_left' e3] at k
    exact k
  · have k := grownBy_sortedI (w := W) (g := g) (n := q) (os := #[]) (zs.take i ++ zs.drop (i + 1) ++ List.replicate (i + 1 - i) 0).toArray
    rw [grow_empty] at k
    exact k
set_option maxRecDepth 20000 in
theorem blk_left {w : World} {g n : Nat} {xs : List Int} (h : Blk w g 3 (i64L xs).toArray) (hn : xs.length = n) (hm : n ≤ maxLen) {base : Nat} (hb : base ≤ g) : w.ownsRow base 3 1 (.slice (some ⟨g, 0, none⟩) n n) n (i64L xs) := by
  refine ⟨by rw [i64L_length, hn, Nat.mul_one], .inr ⟨g, n, _, rfl, hb, h.out, Nat.le_refl _, hm, by rw [List.size_toArray, i64L_length, hn, Nat.mul_one], ?_⟩⟩
  exact List.take_of_length_le (by rw [i64L_length, hn]; omega)
/-- a slice of bytes that came in -/
structure U8S (W : World) (A : Option Addr) (ts : List Int) : Prop where
  ok : ∀ x ∈ ts, 0 ≤ x ∧ x ≤ 255
  row : ts = [] ∨ ∃ g off, A = some ⟨g, off, none⟩ ∧ ∀ j (h : j < ts.length), W.cell? ⟨g, off + j, none⟩ = some (.int .u8 ts[j])
section
variable {H : Type} {enc : TypeId × Value → H} {w : World} {base : Nat} {spare : Nat → Bool} {held : Bool}
set_option maxRecDepth 20000 in
theorem cellsU8 : Try.prog.cellsOf 5 = 1 := by kernel_rfl
set_option maxRecDepth 20000 in
theorem open_u8s33 {fuel : Nat} {v : Value} {x : DataW H × List MemPlace} (h : DataW.trod enc Try.prog w base spare held fuel 48 [v] = some x) (hz : ∀ k ∈ x.1.weights Try.prog 48, k ≤ reachBytes) :
    ∃ A l cap, v = .slice A l.length cap ∧ (fun W A (_ : Nat) l => U8S W A l) w A cap l := by
  rcases open_rowsW Try.underlying48 cellsU8 (by decide) h hz with rfl | ⟨a, len, cap, rfl, hl, hb, hs, hi⟩
  · exact ⟨none, [], 0, rfl, fun d hd => (by cases hd), .inl rfl⟩
  · have hex : ∀ i, ∃ d : Int, i < len → (0 ≤ d ∧ d ≤ 255) ∧ w.cell? ⟨a.block, a.off + i, none⟩ = some (.int .u8 d) := fun i => by
      by_cases h : i < len
      · obtain ⟨cs, m, y, hl, hc, ht, hw⟩ := hi i h
        obtain ⟨c0, rfl⟩ := one_cell hl
        obtain ⟨n0, e0, _, w0⟩ := DataW.trod_int Try.underlying5 ht
        simp at e0
        subst e0
        simp [Lit.wf, IntKind.min, IntKind.max, IntKind.signed, IntKind.bits] at w0
        have h0 := hc 0 (by omega)
        rw [Nat.mul_one, Nat.add_zero] at h0
        exact ⟨n0, fun _ => ⟨by omega, by rw [h0]; rfl⟩⟩
      · exact ⟨0, fun k => absurd k h⟩
    obtain ⟨F, hF⟩ := Classical.axiomOfChoice hex
    have hlen : ((List.range len).map F).length = len := by simp
    refine ⟨some a, (List.range len).map F, cap, by rw [hlen], fun c hc => ?_, ?_⟩
    · obtain ⟨i, hi', rfl⟩ := List.mem_map.1 hc
      exact (hF i (List.mem_range.1 hi')).1
    · by_cases z : len = 0
      · subst z; exact .inl rfl
      · have hsp := hs (by omega)
        obtain ⟨b, off, spot⟩ := a
        simp only at hsp
        subst hsp
        refine .inr ⟨b, off, rfl, fun i hi' => ?_⟩
        have hj' : i < len := by rw [hlen] at hi'; exact hi'
        have e : ((List.range len).map F)[i] = F i := by simp
        rw [e]
        exact (hF i hj').2
end
end Go.Proofs.Ytdppkbnjedehbaa
