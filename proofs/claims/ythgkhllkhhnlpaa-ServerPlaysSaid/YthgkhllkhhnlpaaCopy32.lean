/- allan: Copy. -/
import Derived.Test.YthgkhllkhhnlpaaAllanM
import Derived.Laws.AppendOwn
namespace Go.Proofs.Ythgkhllkhhnlpaa
open Go.RowKit

set_option maxRecDepth 20000 in
/-- the ring's cells as a row to append -/
theorem ring_news {W : World} {r R : Nat} {f : Nat → Slot} (h : RingAt W r R f) : ∀ j u, ((ringC R f).toList)[j]? = some u → W.cell? ((⟨r, 0, none⟩ : Addr).add j) = some u := by
  intro j u hj
  obtain ⟨cur, h1, h2, h3⟩ := h.out
  have hb : Blk W r 123 cur := ⟨h1⟩
  have e : (⟨r, 0, none⟩ : Addr).add j = ⟨r, j, none⟩ := by rw [Addr.add_mid, Nat.zero_add]
  have hlt : j < R * 4 := by
    have := (List.getElem?_eq_some_iff.1 hj).1
    rw [Array.length_toList, ringC_size] at this
    exact this
  rw [e, blk_cell hb]
  rw [Array.getElem?_toList] at hj
  have d : j / 4 * 4 + j % 4 = j := by omega
  have k1 := h3 (j / 4) (j % 4) (by omega) (by omega)
  have k2 := ringC_get R f (j / 4) (j % 4) (by omega) (by omega)
  rw [d] at k1 k2
  rw [k1, ← k2, hj]
set_option maxRecDepth 20000 in
theorem ring_owned {W : World} {b R : Nat} {f : Nat → Slot} {v : Value} (hR : 0 < R) (h : W.ownsRow b 123 4 v R (ringC R f).toList) : ∃ g cap, v = .slice (some ⟨g, 0, none⟩) R cap ∧ RingAt W g R f ∧ b ≤ g := by
  obtain ⟨h1, h2⟩ := h
  rcases h2 with ⟨rfl, h0⟩ | ⟨g, cap, cur, rfl, hb, hg, h3, h4, h5, h6⟩
  · omega
  · refine ⟨g, cap, rfl, ⟨cur, hg, ?_, fun i j hi hj => ?_⟩, hb⟩
    · rw [h5]; exact Nat.mul_le_mul_right 4 h3
    · have k2 := ringC_get R f i j hi hj
      rw [← k2, ← Array.getElem?_toList, ← Array.getElem?_toList, ← h6, List.getElem?_take_of_lt (by omega)]
set_option maxRecDepth 20000 in
theorem ring_one (R : Nat) (f : Nat → Slot) : ∀ u ∈ (ringC R f).toList, u.oneCell' = true := by
  intro u hu
  unfold ringC at hu
  simp only [List.mem_flatMap] at hu
  obtain ⟨i, _, hi⟩ := hu
  simp only [slotL, List.mem_cons, List.not_mem_nil, or_false] at hi
  rcases hi with rfl | rfl | rfl | rfl <;> rfl
set_option maxRecDepth 20000 in
set_option maxHeartbeats 2000000 in
theorem clone_any (r R C : Nat) (f : Nat → Slot) (W : World) (hR : 0 < R) (hR2 : R ≤ 1025) (hB : RingAt W r R f) :
    Calls Try.prog 91 #[.slice (some ⟨r, 0, none⟩) R C] W fun e w' => ∃ g cap, e = .returned (.slice (some ⟨g, 0, none⟩) R cap) ∧ RingAt w' g R f ∧ W.heap.size ≤ g ∧ Mo W w' := by
  obtain ⟨i0, hi, hz0, hz1, hz2⟩ := info_parts infoSlot
  have he : ∀ w : World, (binOp .eql 121 (.slice (some ⟨r, 0, none⟩) R C) (.slice none 0 0)).run Try.prog w = .ok (.bool false) w := fun _ => rfl
  go_enter Try.func91, Try.ntmps91
  go_wp2_with (at_builtin; refine wpList_append_own _ rfl _ _ 121 rfl W.heap.size 123 i0 (.agg (slotC slot0)) 4 32 Try.underlying121 hi hz0 hz1 hz2 rfl (by decide) _ _ _ rfl (World.ownsRow_made W #[] 0 (Nat.le_refl _) (Nat.zero_le _) rfl) ⟨r, 0, none⟩ R C (ringC R f).toList rfl ?c1 ?c2 ?c3 ?c4 ?c5 ?c6 ?_)
  case c1 => rw [Array.length_toList, ringC_size]
  case c2 =>
    have : RingAt (W.alloc (Obj.cells #[] 123)) r R f := inferInstance
    exact ring_news this
  case c3 => exact ring_one R f
  case c4 => unfold maxLen; omega
  case c5 => omega
  case c6 => simp
  intro v' w2 hown hgrow _
  obtain ⟨g, cap, rfl, hr, hb⟩ := ring_owned hR hown
  have hM : Mo W w2 := mo_grown (Mor.out : Mo W (W.alloc (Obj.cells #[] 123))) hgrow (by intro k hk; simp [Value.ownBlock] at hk; omega)
  clear hown hgrow
  go_wp2_with fail
  go_ret
  exact ⟨g, cap, rfl, hr, hb, hM⟩
/-! ### a grid is loaded and stored whole -/
set_option maxRecDepth 20000 in
theorem infoGrid : (Try.prog.info? 128).map (·.size) = some 37 := by kernel_rfl
def loadGrid (v : Value) : Sem Value := Instr.loadAt 128 v
def storeGrid (v x : Value) : Sem Unit := Instr.storeAt 128 v x
set_option maxRecDepth 20000 in
theorem loadAt_grid (v : Value) : Instr.loadAt 128 v = loadGrid v := rfl
set_option maxRecDepth 20000 in
theorem storeAt_grid (v x : Value) : Instr.storeAt 128 v x = storeGrid v x := rfl
set_option maxRecDepth 20000 in
theorem run_loadBlk (w : World) (p : Nat) (cs : Array Value) (h : Blk w p 128 cs) (hs : cs.size = 37) : (loadGrid (.pointer (some ⟨p, 0, none⟩))).run Try.prog w = .ok (.agg cs) w := by
  obtain ⟨l⟩ := cs
  have hl : l.length = 37 := hs
  unfold loadGrid
  exact run_loadAt_mid w p 0 _ l _ (blk_range h _ fun j v hv => by rw [Nat.zero_add, List.getElem?_toArray]; exact hv) Try.underlying128 rfl (by rw [hl]; exact infoGrid)
set_option maxRecDepth 20000 in
theorem run_loadGrid (w : World) (p : Nat) (x o : Int) (r R C : Nat) (nw : Slot) (t : Tot) [h : Blk w p 128 (gridC x o r R C nw t)] : (loadGrid (.pointer (some ⟨p, 0, none⟩))).run Try.prog w = .ok (.agg (gridC x o r R C nw t)) w :=
  run_loadBlk w p _ h (gridC_size _ _ _ _ _ _ _)
set_option maxRecDepth 20000 in
theorem gridC_one (x o : Int) (r R C : Nat) (nw : Slot) (t : Tot) : (gridC x o r R C nw t).all (·.oneCell') = true := by
  unfold gridC
  rw [Array.all_append, totC_one]
  simp [Value.oneCell']
set_option maxRecDepth 20000 in
theorem run_storeGrid (w : World) (g : Nat) (ty : TypeId) (x o : Int) (r R C : Nat) (nw : Slot) (t : Tot) (cs : Array Value) [h : Blk w g ty cs] (hs : cs.size = 37) : (storeGrid (.pointer (some ⟨g, 0, none⟩)) (.agg (gridC x o r R C nw t))).run Try.prog w = .ok () (w.setRow g (gridC x o r R C nw t)) := by
  unfold storeGrid Instr.storeAt
  simp only [Instr.sureAddr, Sem.run_bind, Sem.run_pure, Result.andThen_ok]
  exact run_storeVar_row w g ty _ cs _ h.out (by rw [gridC_size]; exact infoGrid) (by rw [hs, gridC_size]) (gridC_one _ _ _ _ _ _ _)
set_option maxRecDepth 20000 in
theorem gridC_ring (x o : Int) (r R C r' C' : Nat) (nw : Slot) (t : Tot) : (gridC x o r R C nw t).setIfInBounds 2 (.slice (some ⟨r', 0, none⟩) R C') = gridC x o r' R C' nw t := by
  refine Array.ext_getElem? fun i => ?_
  by_cases c : i < 7
  · rw [gridC_lo _ _ _ _ _ _ _ _ c]
    by_cases e : i = 2
    · subst e
      rw [Array.getElem?_setIfInBounds_self_of_lt (by rw [gridC_size]; omega)]
      rfl
    · rw [Array.getElem?_setIfInBounds_ne (Ne.symm e), gridC_lo _ _ _ _ _ _ _ _ c]
      rcases (show i = 0 ∨ i = 1 ∨ i = 3 ∨ i = 4 ∨ i = 5 ∨ i = 6 by omega) with rfl | rfl | rfl | rfl | rfl | rfl <;> rfl
  · obtain ⟨j, rfl⟩ : ∃ j, i = 7 + j := ⟨i - 7, by omega⟩
    rw [gridC_hi, Array.getElem?_setIfInBounds_ne (by omega), gridC_hi]
attribute [go_sem ↓] loadAt_grid storeAt_grid
attribute [go_sem] run_loadGrid run_storeGrid
set_option maxRecDepth 20000 in
set_option maxHeartbeats 4000000 in
theorem copy_any (p r R C : Nat) (x o : Int) (nw : Slot) (t : Tot) (f : Nat → Slot) (W : World) (hR : 0 < R) (hR2 : R ≤ 1025) (hG : Blk W p 128 (gridC x o r R C nw t)) (hB : RingAt W r R f) :
    Calls Try.prog 74 #[.pointer (some ⟨p, 0, none⟩)] W fun e w' => ∃ p' r' C', e = .returned (.pointer (some ⟨p', 0, none⟩)) ∧ Blk w' p' 128 (gridC x o r' R C' nw t) ∧ RingAt w' r' R f ∧ W.heap.size ≤ p' ∧ W.heap.size ≤ r' ∧ p' ≠ r' ∧ Mo W w' := by
  have CL := Lib.hid (fun (w : World) (h : RingAt w r R f) => clone_any r R C f w hR hR2 h)
  have c2 : W.cell? ⟨p, 2, none⟩ = some (.slice (some ⟨r, 0, none⟩) R C) := by rw [blk_cell hG, gridC_lo _ _ _ _ _ _ _ _ (by omega)]; rfl
  have hz : ((R : Int) == 0) = false := by simp; omega
  have LP : LtW p W := LtW.of_cell c2
  go_enter Try.func74, Try.ntmps74
  go_wp2_with fail
  refine (CL.out _ (inferInstance)).mono ?_
  rintro e w3 ⟨g, cap, rfl, hr, hg, M3⟩
  have B3 : Blk w3 W.heap.size 128 (gridC x o r R C nw t) := M3.blk inferInstance
  have hg' : W.heap.size + 1 ≤ g := by simpa using hg
  have M0 : Mo W w3 := (Mor.out : Mo W (W.alloc (Obj.cells (gridC x o r R C nw t) 128))).trans M3
  have fz := blk_frozen B3 2
  have c3 : w3.cell? ⟨W.heap.size, 2, none⟩ = some (.slice (some ⟨r, 0, none⟩) R C) := by rw [blk_cell B3, gridC_lo _ _ _ _ _ _ _ _ (by omega)]; rfl
  have L3 : LtW W.heap.size w3 := LtW.of_cell c3
  clear CL M3 hg
  go_wp2_with fail
  go_ret
  refine ⟨W.heap.size, g, cap, rfl, ?_, ringAt_setCell_ne hr (by omega) _ _, by omega, by omega, by omega, mo_setCell M0 (by omega) _ _⟩
  have := blk_setCell B3 2 (.slice (some ⟨g, 0, none⟩) R cap)
  rw [gridC_ring] at this
  exact this
set_option maxRecDepth 20000 in
theorem copy_M (p r C o : Nat) (x : Int) (M : List Slot) (W : World) (hG : GAt W p r C o x M) :
    Calls Try.prog 74 #[.pointer (some ⟨p, 0, none⟩)] W fun e w' => ∃ p' r' C', e = .returned (.pointer (some ⟨p', 0, none⟩)) ∧ GAt w' p' r' C' o x M ∧ W.heap.size ≤ p' ∧ W.heap.size ≤ r' ∧ Mo W w' := by
  obtain ⟨R1, R2⟩ := R_bd hG.o2
  refine (copy_any p r _ C x o _ _ _ W R1 R2 hG.at_.g hG.at_.r).mono ?_
  rintro e w' ⟨p', r', C', he, h1, h2, h3, h4, h5, h6⟩
  exact ⟨p', r', C', he, ⟨⟨h1, h2⟩, h5, hG.o1, hG.o2, hG.x1, hG.x2⟩, h3, h4, h6⟩
set_option maxRecDepth 20000 in
/-- another grid is kept -/
theorem GAt.other {W w : World} {p r C o p' r' : Nat} {x : Int} {M : List Slot} (h : GAt W p r C o x M) (k : Kept2 p' r' W w) (n1 : p ≠ p') (n2 : p ≠ r') (n3 : r ≠ p') (n4 : r ≠ r') : GAt w p r C o x M := by
  refine ⟨⟨k.1 p _ _ n1 n2 h.at_.g, ?_⟩, h.ne, h.o1, h.o2, h.x1, h.x2⟩
  obtain ⟨cur, h1, h2⟩ := h.at_.r.out
  exact ⟨cur, (k.1 r _ _ n3 n4 ⟨h1⟩).out, h2⟩
set_option maxRecDepth 20000 in
/-- a row that a call owns is kept -/
theorem owns_kept {W w : World} {b p r : Nat} {e : TypeId} {size : Nat} {v : Value} {n : Nat} {xs : List Value} (h : W.ownsRow b e size v n xs) (k : Kept2 p r W w) (n1 : p < b) (n2 : r < b) : w.ownsRow b e size v n xs := by
  refine ⟨h.1, ?_⟩
  rcases h.2 with hn | ⟨g, cap, cur, rfl, hb, hg, rest⟩
  · exact .inl hn
  · exact .inr ⟨g, cap, cur, rfl, hb, (k.1 g _ _ (by omega) (by omega) ⟨hg⟩).out, rest⟩
end Go.Proofs.Ythgkhllkhhnlpaa
