/- Blocks that are known whole: what a store of a whole row leaves, in a world of which it is known what it grew out of. -/
import Derived.Test.YtdgmcgfkammioaaNum
import Derived.Below
import Derived.Laws.AppendOwn
import Derived.Laws.Rows
namespace Go.Proofs.Ytdgmcgfkammioaa
open Go.RowKit

set_option maxRecDepth 20000 in
theorem blk_cell {w : World} {g : Nat} {t : TypeId} {cs : Array Value} (h : Blk w g t cs) (i : Nat) : w.cell? ⟨g, i, none⟩ = cs[i]? := by
  unfold World.cell?
  rw [h.out]
  simp
set_option maxRecDepth 20000 in
theorem blk_setRow {w : World} {g : Nat} {t : TypeId} {cs cs' : Array Value} (h : Blk w g t cs) : Blk (w.setRow g cs') g t cs' := ⟨setRow_heap w g cs cs' t (0, 0) h.out⟩
def rowOf (cs : Array Value) : Obj → Obj
  | .cells _ elem frozen => .cells cs elem frozen
  | o => o
set_option maxRecDepth 20000 in
theorem setRow_size' (w : World) (g : Nat) (cs : Array Value) : (w.setRow g cs).heap.size = w.heap.size := setRow_size w g cs
set_option maxRecDepth 20000 in
theorem setRow_get_ne (w : World) (g k : Nat) (cs : Array Value) (h : g ≠ k) : (w.setRow g cs).heap[k]? = w.heap[k]? := by
  show ((w.heap.modify g (rowOf cs)))[k]? = _
  rw [Array.getElem?_modify, if_neg h]
set_option maxRecDepth 20000 in
theorem blk_setRow_ne {w : World} {g k : Nat} {t : TypeId} {cs cs' : Array Value} (h : Blk w k t cs) (n : g ≠ k) : Blk (w.setRow g cs') k t cs := ⟨(setRow_get_ne w g k cs' n).trans h.out⟩
set_option maxRecDepth 20000 in
theorem mo_setRow {V W : World} (h : Mo V W) {g : Nat} (hg : V.heap.size ≤ g) (cs : Array Value) : Mo V (W.setRow g cs) := by
  obtain ⟨J, d, rfl⟩ := h
  refine ⟨J.modify (g - V.heap.size) (rowOf cs), d, ?_⟩
  have e : ((V.heap ++ J).modify g (rowOf cs)) = V.heap ++ J.modify (g - V.heap.size) (rowOf cs) := by
    generalize rowOf cs = f
    refine Array.ext_getElem? fun k => ?_
    rw [Array.getElem?_modify, Array.getElem?_append, Array.getElem?_append, Array.getElem?_modify]
    by_cases c : k < V.heap.size
    · rw [if_pos c, if_pos c, if_neg (show ¬ g = k by omega)]
    · rw [if_neg c, if_neg c]
      by_cases q : g = k
      · rw [if_pos q, if_pos (show g - V.heap.size = k - V.heap.size by omega)]
      · rw [if_neg q, if_neg (show ¬ g - V.heap.size = k - V.heap.size by omega)]
  show World.mk ((V.heap ++ J).modify g (rowOf cs)) _ _ _ _ = World.mk _ _ _ _ _
  rw [e]
  rfl
set_option maxRecDepth 20000 in
theorem Mo.size {V W : World} (h : Mo V W) : V.heap.size ≤ W.heap.size := h.below.size
set_option maxRecDepth 20000 in
theorem Mo.ltW {V W : World} (h : Mo V W) {b : Nat} (k : LtW b V) : LtW b W := ⟨Nat.lt_of_lt_of_le k.out h.size⟩
set_option maxRecDepth 20000 in
theorem blk_setCell {w : World} {g : Nat} {t : TypeId} {cs : Array Value} (h : Blk w g t cs) (i : Nat) (v : Value) : Blk (w.setCell ⟨g, i, none⟩ v) g t (cs.setIfInBounds i v) := ⟨heap_setCell_same w g i cs t v h.out⟩
set_option maxRecDepth 20000 in
theorem blk_setCell_ne {w : World} {g k : Nat} {t : TypeId} {cs : Array Value} (h : Blk w k t cs) (n : g ≠ k) (i : Nat) (v : Value) : Blk (w.setCell ⟨g, i, none⟩ v) k t cs := ⟨(heap_setCell_other w ⟨g, i, none⟩ k v (Ne.symm n)).trans h.out⟩
set_option maxRecDepth 20000 in
theorem mo_setCell {V W : World} (h : Mo V W) {g : Nat} (hg : V.heap.size ≤ g) (i : Nat) (v : Value) : Mo V (W.setCell ⟨g, i, none⟩ v) := Mo.of (h.below.setCell (p := ⟨g, i, none⟩) hg v)
set_option maxRecDepth 20000 in
theorem mo_grown {V w w' : World} {row : Option Nat} (h : Mo V w) (hg : w.grownBy w' row) (hr : ∀ k, row = some k → V.heap.size ≤ k) : Mo V w' := Mo.of (h.below.grown hg h.size hr)
set_option maxRecDepth 20000 in
theorem mo_drewN {V W : World} (h : Mo V W) (n : Nat) : Mo V (W.drewN n) := h.trans Mor.out
set_option maxRecDepth 20000 in
/-- a row that a call owns, as a block that is known whole -/
theorem owns_blk {w : World} {base : Nat} {e : TypeId} {v : Value} {n : Nat} {xs : List Value} (h : w.ownsRow base e 1 v n xs) :
    (v = .slice none 0 0 ∧ n = 0 ∧ xs = []) ∨ ∃ g cap cur, v = .slice (some ⟨g, 0, none⟩) n cap ∧ base ≤ g ∧ Blk w g e cur ∧ n ≤ cap ∧ cap ≤ maxLen ∧ cur.size = cap ∧ cur.toList.take n = xs := by
  obtain ⟨h1, h2⟩ := h
  rcases h2 with ⟨rfl, rfl⟩ | ⟨g, cap, cur, rfl, hb, hg, h3, h4, h5, h6⟩
  · exact .inl ⟨rfl, rfl, List.eq_nil_of_length_eq_zero (by simpa using h1)⟩
  · exact .inr ⟨g, cap, cur, rfl, hb, ⟨hg⟩, h3, h4, by simpa using h5, by simpa using h6⟩
set_option maxRecDepth 20000 in
theorem owns_mo {w w' : World} {base : Nat} {e : TypeId} {size : Nat} {v : Value} {n : Nat} {xs : List Value} (h : w.ownsRow base e size v n xs) (hM : Mo w w') : w'.ownsRow base e size v n xs := by
  refine ⟨h.1, ?_⟩
  rcases h.2 with hn | ⟨g, cap, cur, rfl, hb, hg, rest⟩
  · exact .inl hn
  · exact .inr ⟨g, cap, cur, rfl, hb, (hM.below.block g (Array.getElem?_eq_some_iff.1 hg).1).trans hg, rest⟩
set_option maxRecDepth 20000 in
theorem blk_frozen {w : World} {g : Nat} {t : TypeId} {cs : Array Value} (h : Blk w g t cs) (i : Nat) : w.frozen? ⟨g, i, none⟩ = false := by
  unfold World.frozen?
  rw [h.out]
  simp
set_option maxRecDepth 20000 in
instance blk_lt (w : World) (g : Nat) (t : TypeId) (cs : Array Value) [h : Blk w g t cs] : LtW g w := ⟨h.lt⟩
set_option maxRecDepth 20000 in
theorem Mo.blk {a b : World} (h : Mo a b) {g : Nat} {t : TypeId} {cs : Array Value} (k : Blk a g t cs) : Blk b g t cs := by
  obtain ⟨J, d, rfl⟩ := h
  infer_instance
class MoC (a : outParam World) (b : World) : Prop where
  out : Mo a b
set_option maxRecDepth 20000 in
instance (priority := low) moc_blk (a b : World) (g : Nat) (t : TypeId) (cs : Array Value) [h : MoC a b] [k : Blk a g t cs] : Blk b g t cs := h.out.blk k
set_option maxRecDepth 20000 in
/-- a world in which a block is known is one that laid it -/
theorem blk_world {W : World} {g : Nat} {t : TypeId} {cs : Array Value} (h : Blk W g t cs) : ∃ (V : World) (J : Array Obj) (d : Nat), V.heap.size = g ∧ W = more (V.alloc (.cells cs t)) J d := by
  have hl := h.lt
  have hv : W.heap[g] = .cells cs t (0, 0) := (Array.getElem?_eq_some_iff.1 h.out).2
  refine ⟨{ W with heap := W.heap.extract 0 g }, W.heap.extract (g + 1) W.heap.size, W.drawn, by simp; omega, ?_⟩
  show W = World.mk _ _ _ _ _
  cases W with
  | mk heap tape drawn os output =>
    simp only at hl hv ⊢
    congr 1
    refine Array.ext_getElem? fun k => ?_
    show heap[k]? = ((heap.extract 0 g).push (.cells cs t) ++ heap.extract (g + 1) heap.size)[k]?
    simp only [Array.getElem?_append, Array.size_push, Array.size_extract, Array.getElem?_push, Array.getElem?_extract]
    rcases Nat.lt_trichotomy k g with c | c | c
    · rw [if_pos (by omega), if_neg (by omega), if_pos (by omega)]; simp
    · subst c
      rw [if_pos (by omega), if_pos (by omega), Array.getElem?_eq_getElem hl, hv]
    · rw [if_neg (by omega)]
      by_cases e : k < heap.size
      · rw [if_pos (by omega)]; congr 1; omega
      · rw [if_neg (by omega), Array.getElem?_eq_none (by omega)]
end Go.Proofs.Ytdgmcgfkammioaa
