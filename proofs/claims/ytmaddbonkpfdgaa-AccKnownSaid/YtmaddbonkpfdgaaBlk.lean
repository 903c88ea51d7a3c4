/- Blocks that are known whole: what a store of a whole row leaves, in a world of which it is known what it grew out of. -/
import Derived.Test.YtmaddbonkpfdgaaNum
namespace Go.Proofs.Ytmaddbonkpfdgaa
open Go.RowKit

theorem blk_cell {w : World} {g : Nat} {t : TypeId} {cs : Array Value} (h : Blk w g t cs) (i : Nat) : w.cell? ⟨g, i, none⟩ = cs[i]? := by
  unfold World.cell?
  rw [h.out]
  simp
theorem blk_setRow {w : World} {g : Nat} {t : TypeId} {cs cs' : Array Value} (h : Blk w g t cs) : Blk (w.setRow g cs') g t cs' := ⟨setRow_heap w g cs cs' t (0, 0) h.out⟩
def rowOf (cs : Array Value) : Obj → Obj
  | .cells _ elem frozen => .cells cs elem frozen
  | o => o
theorem setRow_size' (w : World) (g : Nat) (cs : Array Value) : (w.setRow g cs).heap.size = w.heap.size := setRow_size w g cs
theorem setRow_get_ne (w : World) (g k : Nat) (cs : Array Value) (h : g ≠ k) : (w.setRow g cs).heap[k]? = w.heap[k]? := by
  show ((w.heap.modify g (rowOf cs)))[k]? = _
  rw [Array.getElem?_modify, if_neg h]
theorem blk_setRow_ne {w : World} {g k : Nat} {t : TypeId} {cs cs' : Array Value} (h : Blk w k t cs) (n : g ≠ k) : Blk (w.setRow g cs') k t cs := ⟨(setRow_get_ne w g k cs' n).trans h.out⟩
theorem mo_setRow {V W : World} (h : Mo V W) {g : Nat} (hg : V.heap.size ≤ g) (cs : Array Value) : Mo V (W.setRow g cs) := by
  obtain ⟨J, d, rfl⟩ := h
  refine ⟨J.modify (g - V.heap.size) (rowOf cs), d, ?_⟩
  have e : ((V.heap ++ J).modify g (rowOf cs)) = V.heap ++ J.modify (g - V.heap.size) (rowOf cs) := by
    generalize rowOf cs = f
    refine Array.ext_getElem? fun k => ?_
    rw [Array.getElem?_modify, Array.getElem?_append, Array.getElem?_append, Array.getElem?_modify]
    by_cases c : k < V.heap.size
    · rw [if_pos c, if_pos c, if_neg (show ¬ g = k by omega)]
    · rw [if_neg c, if_neg c]
      by_cases q : g = k
      · rw [if_pos q, if_pos (show g - V.heap.size = k - V.heap.size by omega)]
      · rw [if_neg q, if_neg (show ¬ g - V.heap.size = k - V.heap.size by omega)]
  show World.mk ((V.heap ++ J).modify g (rowOf cs)) _ _ _ _ = World.mk _ _ _ _ _
  rw [e]
  rfl
theorem Mo.size {V W : World} (h : Mo V W) : V.heap.size ≤ W.heap.size := h.below.size
theorem Mo.ltW {V W : World} (h : Mo V W) {b : Nat} (k : LtW b V) : LtW b W := ⟨Nat.lt_of_lt_of_le k.out h.size⟩
end Go.Proofs.Ytmaddbonkpfdgaa
