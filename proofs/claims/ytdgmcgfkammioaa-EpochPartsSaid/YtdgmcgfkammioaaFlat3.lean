/- A struct stored into the midst of a block; literal rows; results. -/
import Derived.Test.YtdgmcgfkammioaaFlat2
import Derived.Test.YtdgmcgfkammioaaCel
namespace Go.Proofs.Ytdgmcgfkammioaa
open Go.RowKit

set_option maxRecDepth 20000 in
instance (l : List Value) (n : Nat) [h : LenL l n] : SzA l.toArray n := ⟨by rw [List.size_toArray]; exact h.out⟩
set_option maxRecDepth 20000 in
instance (l : List Value) [h : OneL l] : OneA l.toArray := ⟨by rw [Array.all_eq_true_iff_forall_mem]; intro v hv; exact h.out v (by simpa using hv)⟩
set_option maxRecDepth 20000 in
theorem one_of_fits {T : TypeId} {cs : Array Value} (h : Fits (ksOf T) cs.toList) : OneA cs := ⟨by rw [Array.all_eq_true_iff_forall_mem]; intro v hv; exact h.one v (by simpa using hv)⟩
set_option maxRecDepth 20000 in
instance one_append (a b : Array Value) [ha : OneA a] [hb : OneA b] : OneA (a ++ b) := ⟨by rw [Array.all_append, ha.out, hb.out]; rfl⟩
set_option maxRecDepth 20000 in
theorem setCell_row {w : World} {g : Nat} {t : TypeId} {cs : Array Value} (b : Blk w g t cs) (o : Nat) (v : Value) : w.setCell ⟨g, o, none⟩ v = w.setRow g (cs.setIfInBounds o v) := by
  have h1 := heap_setCell_same w g o cs t v b.out
  show World.mk _ _ _ _ _ = World.mk _ _ _ _ _
  congr 1
  refine Array.ext_getElem? fun k => ?_
  by_cases e : g = k
  · subst e
    have h2 := setRow_heap w g cs (cs.setIfInBounds o v) t (0, 0) b.out
    exact h1.trans h2.symm
  · have h2 := heap_setCell_other w ⟨g, o, none⟩ k v (Ne.symm e)
    have h3 := setRow_get_ne w g k (cs.setIfInBounds o v) e
    exact h2.trans h3.symm
set_option maxRecDepth 20000 in
theorem setRow_setRow (w : World) (g : Nat) (a b : Array Value) : (w.setRow g a).setRow g b = w.setRow g b := by
  show World.mk _ _ _ _ _ = World.mk _ _ _ _ _
  congr 1
  refine Array.ext_getElem? fun k => ?_
  by_cases e : g = k
  · subst e
    simp only [World.setRow, Array.getElem?_modify, if_true, Option.map_map]
    cases w.heap[g]? with
    | none => rfl
    | some o => cases o <;> rfl
  · simp only [World.setRow, Array.getElem?_modify, if_neg e]
def spliceL (cs : List Value) (o : Nat) (v : List Value) : List Value := cs.take o ++ v ++ cs.drop (o + v.length)
set_option maxRecDepth 20000 in
theorem spliceL_cons (cs : List Value) (o : Nat) (x : Value) (v : List Value) (h : o < cs.length) : spliceL (cs.set o x) (o + 1) v = spliceL cs o (x :: v) := by
  unfold spliceL
  have e1 : (cs.set o x).take (o + 1) = cs.take o ++ [x] := by
    rw [List.take_add_one, List.take_set, List.getElem?_set_self h, List.set_eq_of_length_le (by rw [List.length_take]; omega)]
    rfl
  have e2 : (cs.set o x).drop (o + 1 + v.length) = cs.drop (o + (x :: v).length) := by
    rw [List.drop_set, if_pos (by omega), List.length_cons]
    congr 1
    omega
  rw [e1, e2]
  simp
set_option maxRecDepth 20000 in
theorem setCells_row : ∀ (v : List Value) (o : Nat) (w : World) (g : Nat) (t : TypeId) (cs : List Value), Blk w g t cs.toArray → o + v.length ≤ cs.length → w.setCells g o v = w.setRow g (spliceL cs o v).toArray
  | [], o, w, g, t, cs, b, _ => by
    have e : spliceL cs o [] = cs := by unfold spliceL; simp
    rw [e]
    show w = _
    show World.mk _ _ _ _ _ = World.mk _ _ _ _ _
    congr 1
    refine Array.ext_getElem? fun k => ?_
    by_cases e : g = k
    · subst e
      rw [b.out]
      exact (setRow_heap w g cs.toArray cs.toArray t (0, 0) b.out).symm
    · exact (setRow_get_ne w g k cs.toArray e).symm
  | x :: v, o, w, g, t, cs, b, h => by
    rw [List.length_cons] at h
    have e : w.setCell ⟨g, o, none⟩ x = w.setRow g (cs.set o x).toArray := by rw [setCell_row b]; simp
    rw [World.setCells, e, setCells_row v (o + 1) _ g t (cs.set o x) (blk_setRow b) (by rw [List.length_set]; omega), setRow_setRow, spliceL_cons _ _ _ _ (by omega)]
set_option maxRecDepth 20000 in
theorem run_storeF (T : TypeId) (n : Nat) [h : RowT T n] (w : World) (g o : Nat) (t : TypeId) (cs v : List Value) (k : Nat) [b : Blk w g t cs.toArray] [z : SzA cs.toArray k] [y : SzA v.toArray n] [q : OneA v.toArray] (hk : o + n ≤ k) :
    (storeF T (.pointer (some ⟨g, o, none⟩)) (.agg v.toArray)).run Try.prog w = .ok () (w.setRow g (spliceL cs o v).toArray) := by
  have z1 : cs.length = k := by have := z.out; simpa using this
  have y1 : v.length = n := by have := y.out; simpa using this
  unfold storeF
  rw [run_storeAt_mid w g o T v.toArray (fun j hj => ⟨by rw [blk_cell b]; simp; simp at hj; omega, blk_frozen b _⟩) (by rw [h.info]; simp [y1]) q.out]
  rw [setCells_row v o w g t cs b (by omega)]
set_option maxRecDepth 20000 in
theorem run_loadFo (T : TypeId) (n : Nat) [h : RowT T n] (w : World) (g o : Nat) (t : TypeId) (cs : Array Value) (k : Nat) [b : Blk w g t cs] [z : SzA cs k] (_h0 : 0 < o) (hk : o + n ≤ k) :
    (loadF T (.pointer (some ⟨g, o, none⟩))).run Try.prog w = .ok (.agg (cs.extract o (o + n))) w := run_loadF T n w g o t cs k hk
set_option maxRecDepth 20000 in
theorem run_loadFz (T : TypeId) (n : Nat) [h : RowT T n] (w : World) (g : Nat) (t : TypeId) (cs : Array Value) (k : Nat) [b : Blk w g t cs] [z : SzA cs k] (hk : n < k) :
    (loadF T (.pointer (some ⟨g, 0, none⟩))).run Try.prog w = .ok (.agg (cs.extract 0 n)) w := by
  have := run_loadF T n w g 0 t cs k (by omega)
  rwa [Nat.zero_add] at this
set_option maxRecDepth 20000 in
theorem loadVar_flat (T : TypeId) {n : Nat} [h : RowT T n] {w : World} {g : Nat} {t : TypeId} {cs : Array Value} (b : Blk w g t cs) (hs : cs.size = n) : (loadVar T ⟨g, 0, none⟩).run Try.prog w = .ok (.agg cs) w := by
  have : SzA cs n := ⟨hs⟩
  have := run_loadF0 T n w g t cs
  unfold loadF Instr.loadAt at this
  simpa only [Instr.sureAddr, Sem.run_bind, Sem.run_pure, Result.andThen_ok] using this
end Go.Proofs.Ytdgmcgfkammioaa
