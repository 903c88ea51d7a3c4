/- Written by gen/bundle30.py: Num, Blk, ByteA, ByteB, ByteC, ExtA, ExtB, ExtG, RangeP, OwnW, InRound, Cel, OpenR, Flat, Flat2, Flat3 in one text. -/
import Derived.Test.YtcflebggepmmcaaProg
import Derived.Test.YtcflebggepmmcaaWideS
import Derived.Laws.Rows
import Derived.Below
import Derived.Laws.AppendOwn
import Derived.BigRegion
import Derived.Laws.AppendOwnNone
import Derived.Laws.BytesArg
import Derived.RangeFuncNested
import Derived.RangeFuncBound
import Derived.RangeFuncCalls
import Derived.RangeFuncLeaves
import Derived.RangeFuncBox
import Derived.Shelf.Abstract
import Derived.Shelf.RegionOpen
import Derived.WalkKit
import Derived.OwnWalkIn
import Derived.TacticsInMore
import Derived.LoopNIn
import Derived.LoopIn
import Derived.Maps.AppendAt
import Derived.OrdersHeld
import Derived.Laws.ResultCell
import Derived.Deep.Slices
import Derived.ChangeArms
import Derived.ChangeOld
import Derived.OpenShut
import Derived.SizedLaws
import Derived.Lib.SmallJoins
import Derived.DeepKeys5
import Derived.Deep.MidRow
import Derived.Maps.Keyed
/- Numbers of 20 pieces (horologeref01.Num), as values and in memory; no function walked yet. -/
namespace Go.Proofs.Ytcflebggepmmcaa
open Go.RowKit

/-! ### the cells of a Num: a bool and 20 pieces -/
def numL (b : Bool) (l : Nat → Int) : List Value := .bool b :: (List.range 20).map fun i => .int .u64 (l i)
def numC (b : Bool) (l : Nat → Int) : Array Value := (numL b l).toArray
abbrev NV (b : Bool) (l : Nat → Int) : Value := .agg (numC b l)
def upd (l : Nat → Int) (i : Nat) (x : Int) : Nat → Int := fun j => if j = i then x else l j
set_option maxRecDepth 20000 in
theorem numC_size (b : Bool) (l : Nat → Int) : (numC b l).size = 21 := by simp [numC, numL]
set_option maxRecDepth 20000 in
theorem numC_0 (b : Bool) (l : Nat → Int) : (numC b l)[0]? = some (.bool b) := by simp [numC, numL]
set_option maxRecDepth 20000 in
theorem numC_get (b : Bool) (l : Nat → Int) (i : Nat) (h : i < 20) : (numC b l)[1 + i]? = some (.int .u64 (l i)) := by
  rw [Nat.add_comm]; simp [numC, numL, h]
set_option maxRecDepth 20000 in
theorem numC_ext {cs : Array Value} {b : Bool} {l : Nat → Int} (h : cs.size = 21) (h0 : cs[0]? = some (.bool b)) (h1 : ∀ i, i < 20 → cs[1 + i]? = some (.int .u64 (l i))) : cs = numC b l := by
  refine Array.ext_getElem? fun i => ?_
  rcases Nat.lt_or_ge i 21 with c | c
  · cases i with
    | zero => rw [h0, numC_0]
    | succ j => rw [show j + 1 = 1 + j by omega, h1 j (by omega), numC_get b l j (by omega)]
  · rw [Array.getElem?_eq_none (by omega), Array.getElem?_eq_none (by rw [numC_size]; omega)]
set_option maxRecDepth 20000 in
theorem numC_set (b : Bool) (l : Nat → Int) (i : Nat) (x : Int) (h : i < 20) : (numC b l).setIfInBounds (1 + i) (.int .u64 x) = numC b (upd l i x) := by
  refine numC_ext (by simp [numC_size]) ?_ ?_
  · rw [Array.getElem?_setIfInBounds_ne (by omega), numC_0]
  · intro j hj
    unfold upd
    by_cases c : j = i
    · subst c; rw [if_pos rfl, Array.getElem?_setIfInBounds_self_of_lt (by rw [numC_size]; omega)]
    · rw [if_neg c, Array.getElem?_setIfInBounds_ne (by omega), numC_get b l j hj]
set_option maxRecDepth 20000 in
theorem numC_set0 (b c : Bool) (l : Nat → Int) : (numC b l).setIfInBounds 0 (.bool c) = numC c l := by
  refine numC_ext (by simp [numC_size]) ?_ ?_
  · rw [Array.getElem?_setIfInBounds_self_of_lt (by rw [numC_size]; omega)]
  · intro j hj; rw [Array.getElem?_setIfInBounds_ne (by omega), numC_get b l j hj]
set_option maxRecDepth 20000 in
theorem numC_congr {b : Bool} {l l' : Nat → Int} (h : ∀ i, i < 20 → l i = l' i) : numC b l = numC b l' :=
  numC_ext (numC_size _ _) (numC_0 _ _) fun i hi => by rw [numC_get b l i hi, h i hi]
set_option maxRecDepth 20000 in
theorem zeroC (b : Bool) : numC b (fun _ => 0) = #[.bool b, .int .u64 0, .int .u64 0, .int .u64 0, .int .u64 0, .int .u64 0, .int .u64 0, .int .u64 0, .int .u64 0, .int .u64 0, .int .u64 0,
    .int .u64 0, .int .u64 0, .int .u64 0, .int .u64 0, .int .u64 0, .int .u64 0, .int .u64 0, .int .u64 0, .int .u64 0, .int .u64 0] := by rfl

/-! ### a block that is known whole, found by the world's form -/
class Blk (w : World) (g : Nat) (t : outParam TypeId) (cs : outParam (Array Value)) : Prop where
  out : w.heap[g]? = some (.cells cs t (0, 0))
set_option maxRecDepth 20000 in
theorem Blk.lt {w : World} {g : Nat} {t : TypeId} {cs : Array Value} (h : Blk w g t cs) : g < w.heap.size := by
  rcases Nat.lt_or_ge g w.heap.size with c | c
  · exact c
  · have := h.out; rw [Array.getElem?_eq_none c] at this; cases this
set_option maxRecDepth 20000 in
instance (priority := low) (w : World) (t : TypeId) (cs : Array Value) (g : Nat) [h : SizeIs w g] : Blk (w.alloc (.cells cs t)) g t cs := ⟨by rw [← h.out]; exact heap_alloc_new w _⟩
set_option maxRecDepth 20000 in
instance (w : World) (o : Obj) (g : Nat) (t : TypeId) (cs : Array Value) [h : Blk w g t cs] : Blk (w.alloc o) g t cs := ⟨(Below.heap_alloc w o g h.lt).trans h.out⟩
set_option maxRecDepth 20000 in
instance (w : World) (J : Array Obj) (d g : Nat) (t : TypeId) (cs : Array Value) [h : Blk w g t cs] : Blk (more w J d) g t cs := ⟨(more_get w J d g h.lt).trans h.out⟩
set_option maxRecDepth 20000 in
instance (w : World) (g : Nat) (t : TypeId) (cs : Array Value) [h : Blk w g t cs] : Blk w.drew g t cs := ⟨h.out⟩
set_option maxRecDepth 20000 in
instance (w : World) (k g : Nat) (t : TypeId) (cs : Array Value) [h : Blk w g t cs] : Blk (w.drewN k) g t cs := ⟨h.out⟩
set_option maxRecDepth 20000 in
theorem infoN : (Try.prog.info? 103).map (·.size) = some 21 := by kernel_rfl
/-- a whole Num is loaded -/
class Sz21 (cs : Array Value) : Prop where
  out : cs.size = 21
set_option maxRecDepth 20000 in
instance (b : Bool) (l : Nat → Int) : Sz21 (numC b l) := ⟨numC_size b l⟩
set_option maxRecDepth 20000 in
theorem run_loadNum (w : World) (g : Nat) (t : TypeId) (cs : Array Value) [h : Blk w g t cs] [z : Sz21 cs] : (loadVar 103 ⟨g, 0, none⟩).run Try.prog w = .ok (.agg cs) w :=
  run_loadVar_row w g t 103 cs (0, 0) _ h.out Try.underlying103 rfl (by rw [z.out]; exact infoN)
set_option maxRecDepth 20000 in
theorem numC_one (b : Bool) (l : Nat → Int) : (numC b l).all (·.oneCell') = true := by
  rw [Array.all_eq_true_iff_forall_mem]
  intro v hv
  simp only [numC, numL, List.mem_toArray, List.mem_cons, List.mem_map] at hv
  rcases hv with rfl | ⟨i, _, rfl⟩ <;> rfl
set_option maxRecDepth 20000 in
/-- a whole Num is stored -/
theorem run_storeNum (w : World) (g : Nat) (t : TypeId) (b : Bool) (l : Nat → Int) (cs : Array Value) [h : Blk w g t cs] [z : Sz21 cs] : (storeVar 103 ⟨g, 0, none⟩ (.agg (numC b l))).run Try.prog w = .ok () (w.setRow g (numC b l)) :=
  run_storeVar_row w g t 103 cs (numC b l) h.out (by rw [numC_size]; exact infoN) (by rw [z.out, numC_size]) (numC_one b l)
set_option maxRecDepth 20000 in
theorem setRow_alloc_at (w : World) (g : Nat) (t : TypeId) (cs cs' : Array Value) [h : SizeIs w g] : (w.alloc (.cells cs t)).setRow g cs' = w.alloc (.cells cs' t) := by
  have := h.out
  subst this
  show World.mk _ _ _ _ _ = World.mk _ _ _ _ _
  congr 1
  refine Array.ext_getElem? fun k => ?_
  show ((w.heap.push (.cells cs t)).modify w.heap.size _)[k]? = (w.heap.push (.cells cs' t))[k]?
  simp only [Array.getElem?_modify, Array.getElem?_push]
  by_cases c : k = w.heap.size
  · subst c; simp
  · rw [if_neg (fun e => c e.symm), if_neg c, if_neg c]
set_option maxRecDepth 20000 in
theorem setRow_alloc_past (w : World) (g : Nat) (o : Obj) (cs : Array Value) [h : LtW g w] : (w.alloc o).setRow g cs = (w.setRow g cs).alloc o := by
  have := h.out
  show World.mk _ _ _ _ _ = World.mk _ _ _ _ _
  congr 1
  refine Array.ext_getElem? fun k => ?_
  show ((w.heap.push o).modify g _)[k]? = ((w.heap.modify g _).push o)[k]?
  simp only [Array.getElem?_modify, Array.getElem?_push, Array.size_modify]
  by_cases c : k = w.heap.size
  · subst c; rw [if_neg (by omega), if_pos rfl, if_pos rfl]
  · rw [if_neg c, if_neg c]
set_option maxRecDepth 20000 in
theorem setRow_more (w : World) (g : Nat) (J : Array Obj) (d : Nat) (cs : Array Value) [h : LtW g w] : (more w J d).setRow g cs = more (w.setRow g cs) J d := by
  have := h.out
  simp only [World.setRow, more]
  congr 1
  refine Array.ext_getElem? fun k => ?_
  simp only [Array.getElem?_modify, Array.getElem?_append, Array.size_modify]
  by_cases c : k < w.heap.size
  · rw [if_pos c, if_pos c]
  · rw [if_neg c, if_neg c, if_neg (by omega)]
set_option maxRecDepth 20000 in
theorem setRow_drew (w : World) (g : Nat) (cs : Array Value) : w.drew.setRow g cs = (w.setRow g cs).drew := rfl
set_option maxRecDepth 20000 in
theorem setRow_drewN (w : World) (g n : Nat) (cs : Array Value) : (w.drewN n).setRow g cs = (w.setRow g cs).drewN n := rfl
attribute [go_sem] setRow_alloc_at setRow_alloc_past setRow_more setRow_drew setRow_drewN numC_0 numC_get numC_set numC_set0
/-- loading and storing a whole Num, kept whole -/
def loadNum (v : Value) : Sem Value := Instr.loadAt 103 v
def storeNum (v x : Value) : Sem Unit := Instr.storeAt 103 v x
set_option maxRecDepth 20000 in
theorem loadAt_num (v : Value) : Instr.loadAt 103 v = loadNum v := rfl
set_option maxRecDepth 20000 in
theorem storeAt_num (v x : Value) : Instr.storeAt 103 v x = storeNum v x := rfl
set_option maxRecDepth 20000 in
theorem run_loadNumAt (w : World) (g : Nat) (t : TypeId) (cs : Array Value) [h : Blk w g t cs] [z : Sz21 cs] : (loadNum (.pointer (some ⟨g, 0, none⟩))).run Try.prog w = .ok (.agg cs) w := by
  unfold loadNum Instr.loadAt
  simp only [Instr.sureAddr, Sem.run_bind, Sem.run_pure, Result.andThen_ok]
  exact run_loadNum w g t cs
set_option maxRecDepth 20000 in
theorem run_storeNumAt (w : World) (g : Nat) (t : TypeId) (b : Bool) (l : Nat → Int) (cs : Array Value) [h : Blk w g t cs] [z : Sz21 cs] : (storeNum (.pointer (some ⟨g, 0, none⟩)) (.agg (numC b l))).run Try.prog w = .ok () (w.setRow g (numC b l)) := by
  unfold storeNum Instr.storeAt
  simp only [Instr.sureAddr, Sem.run_bind, Sem.run_pure, Result.andThen_ok]
  exact run_storeNum w g t b l cs
attribute [go_sem ↓] loadAt_num storeAt_num
attribute [go_sem] run_loadNumAt run_storeNumAt
set_option maxRecDepth 20000 in
/-- a result that is a Num -/
theorem ret_num {fn : Func} {p : Tmp} {R : Ending → World → Prop} {a : Act} {w : World} (g : Nat) (t : TypeId) (cs : Array Value) (hr : fn.results = #[.cell p 103]) (hp : a.tmps.getD p undef = .pointer (some ⟨g, 0, none⟩)) (hd : a.defers = [])
    [h : Blk w g t cs] [z : Sz21 cs] (hR : R (.returned (.agg cs)) w) : bodyPost Try.prog fn R .ret a w :=
  bodyPost_ret (results_cell_row hr _ w g t cs (0, 0) _ hp h.out Try.underlying103 rfl (by rw [z.out]; exact infoN)) hd hR

set_option maxRecDepth 20000 in
/-- the zero Num as the walk writes it -/
theorem foldZ (b : Bool) : #[Value.bool b, .int .u64 0, .int .u64 0, .int .u64 0, .int .u64 0, .int .u64 0, .int .u64 0, .int .u64 0, .int .u64 0, .int .u64 0, .int .u64 0,
    .int .u64 0, .int .u64 0, .int .u64 0, .int .u64 0, .int .u64 0, .int .u64 0, .int .u64 0, .int .u64 0, .int .u64 0, .int .u64 0] = numC b (fun _ => 0) := (zeroC b).symm
attribute [go_sem] foldZ
end Go.Proofs.Ytcflebggepmmcaa
/- Blocks that are known whole: what a store of a whole row leaves, in a world of which it is known what it grew out of. -/
namespace Go.Proofs.Ytcflebggepmmcaa
open Go.RowKit

set_option maxRecDepth 20000 in
theorem blk_cell {w : World} {g : Nat} {t : TypeId} {cs : Array Value} (h : Blk w g t cs) (i : Nat) : w.cell? ⟨g, i, none⟩ = cs[i]? := by
  unfold World.cell?
  rw [h.out]
  simp
set_option maxRecDepth 20000 in
theorem blk_setRow {w : World} {g : Nat} {t : TypeId} {cs cs' : Array Value} (h : Blk w g t cs) : Blk (w.setRow g cs') g t cs' := ⟨setRow_heap w g cs cs' t (0, 0) h.out⟩
def rowOf (cs : Array Value) : Obj → Obj
  | .cells _ elem frozen => .cells cs elem frozen
  | o => o
set_option maxRecDepth 20000 in
theorem setRow_size' (w : World) (g : Nat) (cs : Array Value) : (w.setRow g cs).heap.size = w.heap.size := setRow_size w g cs
set_option maxRecDepth 20000 in
theorem setRow_get_ne (w : World) (g k : Nat) (cs : Array Value) (h : g ≠ k) : (w.setRow g cs).heap[k]? = w.heap[k]? := by
  show ((w.heap.modify g (rowOf cs)))[k]? = _
  rw [Array.getElem?_modify, if_neg h]
set_option maxRecDepth 20000 in
theorem blk_setRow_ne {w : World} {g k : Nat} {t : TypeId} {cs cs' : Array Value} (h : Blk w k t cs) (n : g ≠ k) : Blk (w.setRow g cs') k t cs := ⟨(setRow_get_ne w g k cs' n).trans h.out⟩
set_option maxRecDepth 20000 in
theorem mo_setRow {V W : World} (h : Mo V W) {g : Nat} (hg : V.heap.size ≤ g) (cs : Array Value) : Mo V (W.setRow g cs) := by
  obtain ⟨J, d, rfl⟩ := h
  refine ⟨J.modify (g - V.heap.size) (rowOf cs), d, ?_⟩
  have e : ((V.heap ++ J).modify g (rowOf cs)) = V.heap ++ J.modify (g - V.heap.size) (rowOf cs) := by
    generalize rowOf cs = f
    refine Array.ext_getElem? fun k => ?_
    rw [Array.getElem?_modify, Array.getElem?_append, Array.getElem?_append, Array.getElem?_modify]
    by_cases c : k < V.heap.size
    · rw [if_pos c, if_pos c, if_neg (show ¬ g = k by omega)]
    · rw [if_neg c, if_neg c]
      by_cases q : g = k
      · rw [if_pos q, if_pos (show g - V.heap.size = k - V.heap.size by omega)]
      · rw [if_neg q, if_neg (show ¬ g - V.heap.size = k - V.heap.size by omega)]
  show World.mk ((V.heap ++ J).modify g (rowOf cs)) _ _ _ _ = World.mk _ _ _ _ _
  rw [e]
  rfl
set_option maxRecDepth 20000 in
theorem Mo.size {V W : World} (h : Mo V W) : V.heap.size ≤ W.heap.size := h.below.size
set_option maxRecDepth 20000 in
theorem Mo.ltW {V W : World} (h : Mo V W) {b : Nat} (k : LtW b V) : LtW b W := ⟨Nat.lt_of_lt_of_le k.out h.size⟩
set_option maxRecDepth 20000 in
theorem blk_setCell {w : World} {g : Nat} {t : TypeId} {cs : Array Value} (h : Blk w g t cs) (i : Nat) (v : Value) : Blk (w.setCell ⟨g, i, none⟩ v) g t (cs.setIfInBounds i v) := ⟨heap_setCell_same w g i cs t v h.out⟩
set_option maxRecDepth 20000 in
theorem blk_setCell_ne {w : World} {g k : Nat} {t : TypeId} {cs : Array Value} (h : Blk w k t cs) (n : g ≠ k) (i : Nat) (v : Value) : Blk (w.setCell ⟨g, i, none⟩ v) k t cs := ⟨(heap_setCell_other w ⟨g, i, none⟩ k v (Ne.symm n)).trans h.out⟩
set_option maxRecDepth 20000 in
theorem mo_setCell {V W : World} (h : Mo V W) {g : Nat} (hg : V.heap.size ≤ g) (i : Nat) (v : Value) : Mo V (W.setCell ⟨g, i, none⟩ v) := Mo.of (h.below.setCell (p := ⟨g, i, none⟩) hg v)
set_option maxRecDepth 20000 in
theorem mo_grown {V w w' : World} {row : Option Nat} (h : Mo V w) (hg : w.grownBy w' row) (hr : ∀ k, row = some k → V.heap.size ≤ k) : Mo V w' := Mo.of (h.below.grown hg h.size hr)
set_option maxRecDepth 20000 in
theorem mo_drewN {V W : World} (h : Mo V W) (n : Nat) : Mo V (W.drewN n) := h.trans Mor.out
set_option maxRecDepth 20000 in
/-- a row that a call owns, as a block that is known whole -/
theorem owns_blk {w : World} {base : Nat} {e : TypeId} {v : Value} {n : Nat} {xs : List Value} (h : w.ownsRow base e 1 v n xs) :
    (v = .slice none 0 0 ∧ n = 0 ∧ xs = []) ∨ ∃ g cap cur, v = .slice (some ⟨g, 0, none⟩) n cap ∧ base ≤ g ∧ Blk w g e cur ∧ n ≤ cap ∧ cap ≤ maxLen ∧ cur.size = cap ∧ cur.toList.take n = xs := by
  obtain ⟨h1, h2⟩ := h
  rcases h2 with ⟨rfl, rfl⟩ | ⟨g, cap, cur, rfl, hb, hg, h3, h4, h5, h6⟩
  · exact .inl ⟨rfl, rfl, List.eq_nil_of_length_eq_zero (by simpa using h1)⟩
  · exact .inr ⟨g, cap, cur, rfl, hb, ⟨hg⟩, h3, h4, by simpa using h5, by simpa using h6⟩
set_option maxRecDepth 20000 in
theorem owns_mo {w w' : World} {base : Nat} {e : TypeId} {size : Nat} {v : Value} {n : Nat} {xs : List Value} (h : w.ownsRow base e size v n xs) (hM : Mo w w') : w'.ownsRow base e size v n xs := by
  refine ⟨h.1, ?_⟩
  rcases h.2 with hn | ⟨g, cap, cur, rfl, hb, hg, rest⟩
  · exact .inl hn
  · exact .inr ⟨g, cap, cur, rfl, hb, (hM.below.block g (Array.getElem?_eq_some_iff.1 hg).1).trans hg, rest⟩
set_option maxRecDepth 20000 in
theorem blk_frozen {w : World} {g : Nat} {t : TypeId} {cs : Array Value} (h : Blk w g t cs) (i : Nat) : w.frozen? ⟨g, i, none⟩ = false := by
  unfold World.frozen?
  rw [h.out]
  simp
set_option maxRecDepth 20000 in
instance blk_lt (w : World) (g : Nat) (t : TypeId) (cs : Array Value) [h : Blk w g t cs] : LtW g w := ⟨h.lt⟩
set_option maxRecDepth 20000 in
theorem Mo.blk {a b : World} (h : Mo a b) {g : Nat} {t : TypeId} {cs : Array Value} (k : Blk a g t cs) : Blk b g t cs := by
  obtain ⟨J, d, rfl⟩ := h
  infer_instance
class MoC (a : outParam World) (b : World) : Prop where
  out : Mo a b
set_option maxRecDepth 20000 in
instance (priority := low) moc_blk (a b : World) (g : Nat) (t : TypeId) (cs : Array Value) [h : MoC a b] [k : Blk a g t cs] : Blk b g t cs := h.out.blk k
set_option maxRecDepth 20000 in
/-- a world in which a block is known is one that laid it -/
theorem blk_world {W : World} {g : Nat} {t : TypeId} {cs : Array Value} (h : Blk W g t cs) : ∃ (V : World) (J : Array Obj) (d : Nat), V.heap.size = g ∧ W = more (V.alloc (.cells cs t)) J d := by
  have hl := h.lt
  have hv : W.heap[g] = .cells cs t (0, 0) := (Array.getElem?_eq_some_iff.1 h.out).2
  refine ⟨{ W with heap := W.heap.extract 0 g }, W.heap.extract (g + 1) W.heap.size, W.drawn, by simp; omega, ?_⟩
  show W = World.mk _ _ _ _ _
  cases W with
  | mk heap tape drawn os output =>
    simp only at hl hv ⊢
    congr 1
    refine Array.ext_getElem? fun k => ?_
    show heap[k]? = ((heap.extract 0 g).push (.cells cs t) ++ heap.extract (g + 1) heap.size)[k]?
    simp only [Array.getElem?_append, Array.size_push, Array.size_extract, Array.getElem?_push, Array.getElem?_extract]
    rcases Nat.lt_trichotomy k g with c | c | c
    · rw [if_pos (by omega), if_neg (by omega), if_pos (by omega)]; simp
    · subst c
      rw [if_pos (by omega), if_pos (by omega), Array.getElem?_eq_getElem hl, hv]
    · rw [if_neg (by omega)]
      by_cases e : k < heap.size
      · rw [if_pos (by omega)]; congr 1; omega
      · rw [if_neg (by omega), Array.getElem?_eq_none (by omega)]
end Go.Proofs.Ytcflebggepmmcaa
/- Bytes in memory, as slices: how they are read, what a part of them is. -/
namespace Go.Proofs.Ytcflebggepmmcaa
open Go.RowKit

/-- bytes at a slice's address (of so much capacity) -/
structure ByteS (W : World) (A : Option Addr) (cap : Nat) (bs : List Int) : Prop where
  le : bs.length ≤ cap
  lim : bs.length ≤ 140737488355328
  byte : ∀ c ∈ bs, 0 ≤ c ∧ c ≤ 255
  nil : A = none → cap = 0
  at_ : bs = [] ∨ ∃ g off, A = some ⟨g, off, none⟩ ∧ ∀ i, (h : i < bs.length) → W.cell? ⟨g, off + i, none⟩ = some (.int .u8 bs[i])
set_option maxRecDepth 20000 in
theorem ByteS.mo {W w : World} {A : Option Addr} {cap : Nat} {bs : List Int} (h : ByteS W A cap bs) (k : Mo W w) : ByteS w A cap bs := by
  refine ⟨h.le, h.lim, h.byte, h.nil, ?_⟩
  rcases h.at_ with e | ⟨g, off, rfl, hc⟩
  · exact .inl e
  · refine .inr ⟨g, off, rfl, fun i hi => ?_⟩
    have : LtW g W := LtW.of_cell (hc i hi)
    rw [k.cell, hc i hi]
set_option maxRecDepth 20000 in
theorem ByteS.get {W : World} {A : Option Addr} {cap : Nat} {bs : List Int} (h : ByteS W A cap bs) (p : 0 < bs.length) : ∃ g off, A = some ⟨g, off, none⟩ ∧ LtW g W ∧ ∀ i, (h : i < bs.length) → W.cell? ⟨g, off + i, none⟩ = some (.int .u8 bs[i]) ∧ 0 ≤ bs[i] ∧ bs[i] ≤ 255 := by
  rcases h.at_ with e | ⟨g, off, rfl, hc⟩
  · rw [e] at p; simp at p
  · exact ⟨g, off, rfl, LtW.of_cell (hc 0 p), fun i hi => ⟨hc i hi, (h.byte _ (List.getElem_mem hi)).1, (h.byte _ (List.getElem_mem hi)).2⟩⟩
set_option maxRecDepth 20000 in
/-- a part: s[k:] -/
theorem sizeB (w : World) : (sizeOf (Try.prog.elem 39)).run Try.prog w = .ok 1 w := rfl
set_option maxRecDepth 20000 in
theorem ByteS.drop {W : World} {A : Option Addr} {cap : Nat} {bs : List Int} (h : ByteS W A cap bs) (k : Nat) (hk : k ≤ bs.length) :
    ∃ A', ByteS W A' (cap - k) (bs.drop k) ∧ (∀ w : World, (Instr.slice 39 (.slice A bs.length cap) (some (.int .i64 (k : Int))) none none).run Try.prog w = .ok (.slice A' (bs.length - k) (cap - k)) w) ∧ (∀ w : World, (Instr.sliceAt 39 (.slice A bs.length cap) (some (.int .i64 (k : Int))) none none).run Try.prog w = .ok (.slice A' (bs.length - k) (cap - k)) w) := by
  have h1 : ∀ w : World, (Instr.slice 39 (.slice A bs.length cap) (some (.int .i64 (k : Int))) none none).run Try.prog w = .ok (sliced A k bs.length cap 1) w := fun w => by
    rw [run_slice_l w 39 A bs.length cap Try.underlying39 .i64 k (by omega) (by omega), sizeB]
    rfl
  have h2 : ∀ w : World, (Instr.sliceAt 39 (.slice A bs.length cap) (some (.int .i64 (k : Int))) none none).run Try.prog w = .ok (sliced A k bs.length cap 1) w := fun w => by
    rw [run_sliceAt_slice w 39 _ _ _ _ Try.underlying39]
    exact h1 w
  have hle := h.le
  have hlim := h.lim
  unfold sliced at h1 h2
  refine ⟨_, ⟨by rw [List.length_drop]; omega, by rw [List.length_drop]; omega, fun c hc => h.byte c (List.mem_of_mem_drop hc), ?_, ?_⟩, h1, h2⟩
  · intro e
    by_cases c : cap = k
    · rw [c, Nat.sub_self]
    · rw [if_neg c] at e
      cases A with
      | none => have := h.nil rfl; omega
      | some a => cases e
  · by_cases z : bs.length = k
    · exact .inl (by rw [List.drop_eq_nil_iff]; omega)
    · obtain ⟨g, off, rfl, _, hc⟩ := h.get (by omega)
      rw [if_neg (show ¬ cap = k by omega)]
      refine .inr ⟨g, off + k, ?_, fun i hi => ?_⟩
      · show some ((⟨g, off, none⟩ : Addr).add (k * 1)) = _
        rw [Go.WideShapes.add_plain, Nat.mul_one]
      · rw [List.length_drop] at hi
        rw [List.getElem_drop, Nat.add_assoc]
        exact (hc (k + i) (by omega)).1
set_option maxRecDepth 20000 in
/-- a part: s[k:m] -/
theorem ByteS.part {W : World} {A : Option Addr} {cap : Nat} {bs : List Int} (h : ByteS W A cap bs) (k m : Nat) (hk : k ≤ m) (hm : m ≤ bs.length) :
    ∃ A', ByteS W A' (cap - k) ((bs.drop k).take (m - k)) ∧ (∀ w : World, (Instr.slice 39 (.slice A bs.length cap) (some (.int .i64 (k : Int))) (some (.int .i64 (m : Int))) none).run Try.prog w = .ok (.slice A' (m - k) (cap - k)) w) ∧ (∀ w : World, (Instr.sliceAt 39 (.slice A bs.length cap) (some (.int .i64 (k : Int))) (some (.int .i64 (m : Int))) none).run Try.prog w = .ok (.slice A' (m - k) (cap - k)) w) := by
  have hle := h.le
  have hlim := h.lim
  have h1 : ∀ w : World, (Instr.slice 39 (.slice A bs.length cap) (some (.int .i64 (k : Int))) (some (.int .i64 (m : Int))) none).run Try.prog w = .ok (sliced A k m cap 1) w := fun w => by
    rw [run_slice_lh w 39 A bs.length cap Try.underlying39 .i64 .i64 k m (by omega) (by omega) (by omega), sizeB]
    rfl
  have h2 : ∀ w : World, (Instr.sliceAt 39 (.slice A bs.length cap) (some (.int .i64 (k : Int))) (some (.int .i64 (m : Int))) none).run Try.prog w = .ok (sliced A k m cap 1) w := fun w => by
    rw [run_sliceAt_slice w 39 _ _ _ _ Try.underlying39]
    exact h1 w
  unfold sliced at h1 h2
  refine ⟨_, ⟨by rw [List.length_take, List.length_drop]; omega, by rw [List.length_take, List.length_drop]; omega, fun c hc => h.byte c (List.mem_of_mem_drop (List.mem_of_mem_take hc)), ?_, ?_⟩, h1, h2⟩
  · intro e
    by_cases c : cap = k
    · rw [c, Nat.sub_self]
    · rw [if_neg c] at e
      cases A with
      | none => have := h.nil rfl; omega
      | some a => cases e
  · by_cases z : m = k
    · exact .inl (by rw [z, Nat.sub_self, List.take_zero])
    · obtain ⟨g, off, rfl, _, hc⟩ := h.get (by omega)
      rw [if_neg (show ¬ cap = k by omega)]
      refine .inr ⟨g, off + k, ?_, fun i hi => ?_⟩
      · show some ((⟨g, off, none⟩ : Addr).add (k * 1)) = _
        rw [Go.WideShapes.add_plain, Nat.mul_one]
      · rw [List.length_take, List.length_drop] at hi
        rw [List.getElem_take, List.getElem_drop, Nat.add_assoc]
        exact (hc (k + i) (by omega)).1
set_option maxRecDepth 20000 in
theorem ByteS.at_part {W : World} {g off : Nat} {cap : Nat} {bs : List Int} (h : ByteS W (some ⟨g, off, none⟩) cap bs) (k m : Nat) (hk : k ≤ m) (hm : m ≤ bs.length) : ByteS W (some ⟨g, off + k, none⟩) (cap - k) ((bs.drop k).take (m - k)) := by
  have hle := h.le
  have hlim := h.lim
  refine ⟨by rw [List.length_take, List.length_drop]; omega, by rw [List.length_take, List.length_drop]; omega, fun c hc => h.byte c (List.mem_of_mem_drop (List.mem_of_mem_take hc)), fun e => (by cases e), ?_⟩
  by_cases z : bs.length = 0
  · exact .inl (by rw [List.length_eq_zero_iff.1 z]; simp)
  · obtain ⟨g', off', e, _, hc⟩ := h.get (by omega)
    obtain ⟨rfl, rfl⟩ : g = g' ∧ off = off' := by simpa using e
    refine .inr ⟨g, off + k, rfl, fun i hi => ?_⟩
    rw [List.length_take, List.length_drop] at hi
    rw [List.getElem_take, List.getElem_drop, Nat.add_assoc]
    exact (hc (k + i) (by omega)).1
set_option maxRecDepth 20000 in
theorem or_shift (a b : Int) (h1 : 0 ≤ a) (h2 : a ≤ 255) (h3 : 0 ≤ b) (h4 : b ≤ 255) : bits .or .i64 (a * 256) b = a * 256 + b := by
  obtain ⟨x, rfl⟩ : ∃ x : Nat, a = x := ⟨a.toNat, by omega⟩
  obtain ⟨y, rfl⟩ : ∃ y : Nat, b = y := ⟨b.toNat, by omega⟩
  have hx : x < 256 := by omega
  have hy : y < 256 := by omega
  show IntKind.i64.wrap ((BitVec.ofInt 64 ((x : Int) * 256) ||| BitVec.ofInt 64 (y : Int)).toNat : Int) = _
  rw [show ((x : Int) * 256) = ((x * 256 : Nat) : Int) by omega, BitVec.ofInt_natCast, BitVec.ofInt_natCast, BitVec.toNat_or, BitVec.toNat_ofNat, BitVec.toNat_ofNat, Nat.mod_eq_of_lt (by omega), Nat.mod_eq_of_lt (by omega), nat_join 8 (x * 256) y (by omega) (by omega), IntKind.wrap_i64]
  omega
set_option maxRecDepth 20000 in
theorem or_shift16 (a b : Int) (h1 : 0 ≤ a) (h2 : a ≤ 255) (h3 : 0 ≤ b) (h4 : b ≤ 255) : bits .or .u16 (a * 256) b = a * 256 + b := by
  rw [u16_or _ _ (by omega) (by omega) (by omega) (by omega), nat_join 8 _ _ (by omega) (by omega)]
  omega
end Go.Proofs.Ytcflebggepmmcaa
/- Bytes appended to a row that the call owns; slices.Clone and slices.Equal of bytes. -/
namespace Go.Proofs.Ytcflebggepmmcaa
open Go.RowKit

abbrev byteL (bs : List Int) : List Value := bs.map fun c => .int .u8 c
set_option maxRecDepth 20000 in
theorem infoB : (Try.prog.info? 5).map (fun i => (i.zero, i.size, i.bytes)) = some (some (.int .u8 0), 1, 1) := by kernel_rfl
set_option maxRecDepth 20000 in
theorem byteL_one (bs : List Int) : ∀ u ∈ byteL bs, u.oneCell' = true := by
  intro u hu
  obtain ⟨c, _, rfl⟩ := List.mem_map.1 hu
  rfl
/-- a slice value that reads as bytes -/
def ByteV (W : World) (v : Value) (bs : List Int) : Prop := ∃ A cap, v = .slice A bs.length cap ∧ ByteS W A cap bs
set_option maxRecDepth 20000 in
theorem ByteV.mo {W w : World} {v : Value} {bs : List Int} (h : ByteV W v bs) (k : Mo W w) : ByteV w v bs := by
  obtain ⟨A, cap, e, hb⟩ := h
  exact ⟨A, cap, e, hb.mo k⟩
set_option maxRecDepth 20000 in
theorem byteV_nil (W : World) : ByteV W (.slice none 0 0) [] := ⟨none, 0, rfl, by simp, by simp, by simp, fun _ => rfl, .inl rfl⟩
set_option maxRecDepth 20000 in
theorem byte_news {W : World} {a : Addr} {cap : Nat} {bs : List Int} (h : ByteS W (some a) cap bs) : ∀ j u, (byteL bs)[j]? = some u → W.cell? (a.add j) = some u := by
  intro j u hj
  have hlt : j < bs.length := by have := (List.getElem?_eq_some_iff.1 hj).1; simpa using this
  obtain ⟨g, off, e, _, hc⟩ := h.get (by omega)
  obtain rfl : a = ⟨g, off, none⟩ := by simpa using e
  rw [Go.WideShapes.add_plain, (hc j hlt).1, ← hj]
  simp [hlt]
set_option maxRecDepth 20000 in
theorem owns_form {w : World} {base : Nat} {e : TypeId} {size : Nat} {v : Value} {n : Nat} {xs : List Value} (h : w.ownsRow base e size v n xs) (hn : 0 < n) : ∃ g cap, v = .slice (some ⟨g, 0, none⟩) n cap ∧ base ≤ g ∧ g < w.heap.size := by
  rcases h.2 with ⟨_, h0⟩ | ⟨g, cap, cur, hv, hb, hg, _⟩
  · omega
  · exact ⟨g, cap, hv, hb, (Array.getElem?_eq_some_iff.1 hg).1⟩
set_option maxRecDepth 20000 in
theorem owns_base {w : World} {b b' : Nat} {e : TypeId} {size : Nat} {v : Value} {n : Nat} {xs : List Value} (h : w.ownsRow b e size v n xs) (hb : b' ≤ b) : w.ownsRow b' e size v n xs := by
  refine ⟨h.1, ?_⟩
  rcases h.2 with hn | ⟨g, cap, cur, rfl, hg, rest⟩
  · exact .inl hn
  · exact .inr ⟨g, cap, cur, rfl, Nat.le_trans hb hg, rest⟩
set_option maxRecDepth 20000 in
theorem owns_block {w w' : World} {b : Nat} {e : TypeId} {size : Nat} {v : Value} {n : Nat} {xs : List Value} (h : w.ownsRow b e size v n xs) (hk : ∀ g, b ≤ g → v.ownBlock = some g → w'.heap[g]? = w.heap[g]?) : w'.ownsRow b e size v n xs := by
  refine ⟨h.1, ?_⟩
  rcases h.2 with hn | ⟨g, cap, cur, rfl, hb, hg, rest⟩
  · exact .inl hn
  · exact .inr ⟨g, cap, cur, rfl, hb, (hk g hb rfl).trans hg, rest⟩
set_option maxRecDepth 20000 in
theorem owns_setCell {w : World} {b : Nat} {e : TypeId} {size : Nat} {v : Value} {n : Nat} {xs : List Value} (h : w.ownsRow b e size v n xs) (g i : Nat) (u : Value) (hg : g < b) : (w.setCell ⟨g, i, none⟩ u).ownsRow b e size v n xs :=
  owns_block h fun k hk _ => Below.heap_setCell _ _ _ k (by show k ≠ g; omega)
set_option maxRecDepth 20000 in
theorem news_of_blk {w : World} {g : Nat} {t : TypeId} {cs : Array Value} (h : Blk w g t cs) (l : List Value) (hl : l = cs.toList) : ∀ j u, l[j]? = some u → w.cell? ((⟨g, 0, none⟩ : Addr).add j) = some u := by
  intro j u hj
  have e : (⟨g, 0, none⟩ : Addr).add j = ⟨g, j, none⟩ := by rw [Addr.add_mid, Nat.zero_add]
  rw [e, blk_cell h, ← Array.getElem?_toList, ← hl]
  exact hj
set_option maxRecDepth 20000 in
/-- bytes that a call owns -/
theorem owns_byteS {w : World} {base n : Nat} {v : Value} {bs : List Int} (h : w.ownsRow base 5 1 v n (byteL bs)) (hn : n ≤ 140737488355328) (hb : ∀ c ∈ bs, 0 ≤ c ∧ c ≤ 255) : ByteV w v bs := by
  have hl : bs.length = n := by have := h.1; simp at this; omega
  obtain ⟨h1, h2⟩ := h
  rcases h2 with ⟨rfl, h0⟩ | ⟨g, cap, cur, rfl, hbb, hg, h3, h4, h5, h6⟩
  · subst h0
    rw [List.eq_nil_of_length_eq_zero hl]
    exact byteV_nil w
  · subst hl
    refine ⟨_, _, rfl, h3, hn, hb, fun e => (by cases e), .inr ⟨g, 0, rfl, fun i hi => ?_⟩⟩
    have hB : Blk w g 5 cur := ⟨hg⟩
    have e : (byteL bs)[i]? = some (.int .u8 bs[i]) := by simp [hi]
    rw [Nat.zero_add, blk_cell hB, ← Array.getElem?_toList, ← e, ← h6, List.getElem?_take_of_lt (by omega)]
set_option maxRecDepth 20000 in
/-- 'b = append(b, s...)' of a row that the call owns -/
theorem wpList_append_bytes {w : World} {ops : Array Oper} {rest : List Oper} {o : Oper} {a : Act} {Q : Exit → Act → World → Prop} (hgd : o.guard = none) (s x : Operand)
    (ho : o.op = .call { callee := .builtin .append, args := #[s, x], argTypes := #[39, 39] })
    (base : Nat) (v : Value) (n : Nat) (xs : List Value) (hs : a.eval s = v) (hown : w.ownsRow base 5 1 v n xs)
    (A : Option Addr) (m cap : Nat) (bs : List Int) (hm : bs.length = m) (hx : a.eval x = .slice A m cap) (hb : ByteS w A cap bs)
    (hle : n + m ≤ 140737488355328) (hbase : base ≤ w.heap.size)
    (h : ∀ v' w', w'.ownsRow base 5 1 v' (n + m) (xs ++ byteL bs) → w.grownBy w' v.ownBlock → wpList Try.prog ops Q rest (a.put o.dst v') w') : wpList Try.prog ops Q (o :: rest) a w := by
  obtain ⟨i0, hi, hz0, hz1, hz2⟩ := info_parts infoB
  cases A with
  | none =>
    have hc := hb.nil rfl
    have hle' := hb.le
    subst hc
    obtain rfl : m = 0 := by omega
    obtain rfl : bs = [] := List.eq_nil_of_length_eq_zero hm
    exact wpList_append_own_none hgd s x _ ho base 5 i0 1 Try.underlying39 hi v n xs hs hown hx (h v w (by simpa using hown) (World.grownBy.refl w _))
  | some ad =>
    exact wpList_append_own w hgd s x _ ho base 5 i0 (.int .u8 0) 1 1 Try.underlying39 hi hz0 hz1 hz2 rfl (by decide) v n xs hs hown ad m cap (byteL bs) hx (by simp [hm]) (byte_news hb) (byteL_one bs) (by unfold maxLen; omega) (by omega) hbase (fun v' w' h1 h2 _ => h v' w' h1 h2)
set_option maxRecDepth 20000 in
set_option maxHeartbeats 1000000 in
theorem cloneB_any (A : Option Addr) (n cap : Nat) (bs : List Int) (W : World) (hn : bs.length = n) (h : ByteS W A cap bs) :
    Calls Try.prog 105 #[.slice A n cap] W fun e w' => ∃ v, e = .returned v ∧ ByteV w' v bs ∧ Mo W w' := by
  have hlim := h.lim
  have hle := h.le
  rw [hn] at hlim hle
  have HN := Lib.hid hn
  cases A with
  | none =>
    have hc := h.nil rfl
    subst hc
    obtain rfl : n = 0 := by omega
    have hbs : bs = [] := List.eq_nil_of_length_eq_zero hn
    subst hbs
    clear hn
    have he : ∀ w : World, (binOp .eql 39 (.slice none 0 0) (.slice none 0 0)).run Try.prog w = .ok (.bool true) w := fun _ => rfl
    go_enter Try.func105, Try.ntmps105
    go_wp2_with fail
    go_ret
    exact ⟨_, rfl, byteV_nil W, Mor.out⟩
  | some a =>
    clear hn
    have HB := Lib.hid h
    clear h
    have he : ∀ w : World, (binOp .eql 39 (.slice (some a) n cap) (.slice none 0 0)).run Try.prog w = .ok (.bool false) w := fun _ => rfl
    go_enter Try.func105, Try.ntmps105
    go_wp2_with (at_builtin; refine wpList_append_bytes rfl _ _ rfl W.heap.size _ _ _ rfl (World.ownsRow_made W #[] 0 (Nat.le_refl _) (Nat.zero_le _) rfl) _ _ _ _ HN.out rfl (HB.out.mo Mor.out) ?c1 ?c2 ?_)
    case c1 => omega
    case c2 => simp
    intro v' w2 hown hgrow
    have hM : Mo W w2 := mo_grown (Mor.out : Mo W (W.alloc (Obj.cells #[] 5))) hgrow (by intro k hk; simp [Value.ownBlock] at hk; omega)
    clear hgrow
    go_wp2_with fail
    go_ret
    exact ⟨_, rfl, owns_byteS (by simpa using hown) (by omega) HB.out.byte, hM⟩
set_option maxRecDepth 20000 in
set_option maxHeartbeats 1000000 in
/-- of bytes that are no nil slice the copy is the call's own -/
theorem cloneB_own (a : Addr) (n cap : Nat) (bs : List Int) (W : World) (hn : bs.length = n) (h : ByteS W (some a) cap bs) :
    Calls Try.prog 105 #[.slice (some a) n cap] W fun e w' => ∃ v, e = .returned v ∧ w'.ownsRow W.heap.size 5 1 v n (byteL bs) ∧ Mo W w' := by
  have hlim := h.lim
  have hle := h.le
  rw [hn] at hlim hle
  have HN := Lib.hid hn
  clear hn
  have HB := Lib.hid h
  clear h
  have he : ∀ w : World, (binOp .eql 39 (.slice (some a) n cap) (.slice none 0 0)).run Try.prog w = .ok (.bool false) w := fun _ => rfl
  go_enter Try.func105, Try.ntmps105
  go_wp2_with (at_builtin; refine wpList_append_bytes rfl _ _ rfl W.heap.size _ _ _ rfl (World.ownsRow_made W #[] 0 (Nat.le_refl _) (Nat.zero_le _) rfl) _ _ _ _ HN.out rfl (HB.out.mo Mor.out) ?c1 ?c2 ?_)
  case c1 => omega
  case c2 => simp
  intro v' w2 hown hgrow
  have hM : Mo W w2 := mo_grown (Mor.out : Mo W (W.alloc (Obj.cells #[] 5))) hgrow (by intro k hk; simp [Value.ownBlock] at hk; omega)
  clear hgrow
  go_wp2_with fail
  go_ret
  exact ⟨_, rfl, by simpa using hown, hM⟩
end Go.Proofs.Ytcflebggepmmcaa
/- slices.Equal of bytes; ext.same of two fields. -/
namespace Go.Proofs.Ytcflebggepmmcaa
open Go.RowKit

set_option maxRecDepth 20000 in
set_option maxHeartbeats 1000000 in
theorem equalB_any (A A' : Option Addr) (n n' cap cap' : Nat) (bs bs' : List Int) (W : World) (hn : bs.length = n) (hn' : bs'.length = n') (h : ByteS W A cap bs) (h' : ByteS W A' cap' bs') :
    Calls Try.prog 117 #[.slice A n cap, .slice A' n' cap'] W fun e w' => e = .returned (.bool (decide (bs = bs'))) ∧ Mo W w' := by
  have hlim := h.lim
  have hlim' := h'.lim
  rw [hn] at hlim
  rw [hn'] at hlim'
  have HN := Lib.hid hn
  have HN' := Lib.hid hn'
  obtain ⟨r, hr⟩ : ∃ r : Bool, decide (bs = bs') = r := ⟨_, rfl⟩
  rw [hr]
  have RR := Lib.hid hr
  clear hr
  by_cases c : n = n'
  · subst c
    clear hn hn'
    have HB := Lib.hid h
    have HB' := Lib.hid h'
    clear h h'
    go_enter Try.func117, Try.ntmps117
    go_wp2_with fail
    go_loopw [13] (fun i wr => ∃ k : Nat, k ≤ n ∧ i = .int .i64 k ∧ (bs.take k = bs'.take k) ∧ Mo W wr) (fun i _ => n - (intOf i).toNat)
    case atStart => exact ⟨0, by omega, rfl, by rw [List.take_zero, List.take_zero], Mor.out⟩
    case round =>
      obtain ⟨k, hk, rfl, ht, hM⟩ := hrel
      have HT := Lib.hid ht
      clear ht
      by_cases ck : k < n
      · obtain ⟨g, off, rfl, LG, hc⟩ := (HB.out.mo hM).get (by rw [HN.out]; omega)
        obtain ⟨g', off', rfl, LG', hc'⟩ := (HB'.out.mo hM).get (by rw [HN'.out]; omega)
        have hk1 : k < bs.length := by rw [HN.out]; exact ck
        have hk2 : k < bs'.length := by rw [HN'.out]; exact ck
        obtain ⟨a1, a2, a3⟩ := hc k hk1
        obtain ⟨b1, b2, b3⟩ := hc' k hk2
        have t1 : bs.take (k + 1) = bs.take k ++ [bs[k]] := by rw [List.take_add_one, List.getElem?_eq_getElem hk1]; rfl
        have t2 : bs'.take (k + 1) = bs'.take k ++ [bs'[k]] := by rw [List.take_add_one, List.getElem?_eq_getElem hk2]; rfl
        have hne : bs[k] ≠ bs'[k] → ¬ bs = bs' := fun hne e => hne (by subst e; rfl)
        have T1 := Lib.hid t1
        have T2 := Lib.hid t2
        have NE := Lib.hid hne
        clear hc hc' t1 t2 hne
        have i0 : (0 : Int) ≤ k := by omega
        have i1 : (k : Int) < n := by omega
        generalize bs[k] = x at *
        generalize bs'[k] = y at *
        by_cases e : x = y
        · subst e
          clear NE
          have d0 : (x != x) = false := by simp
          go_upto_region 6 with (fail)
          go_quiet (fail)
          go_wp2_with fail
          go_roundw
          case rel => exact ⟨k + 1, by omega, by go_num, by rw [T1.out, T2.out, HT.out], hM.trans Mor.out⟩
          case measure => simp [intOf]; omega
        · have ne := NE.out e
          have ND := Lib.hid (decide_eq_false ne)
          clear NE ne
          have d0 : (x != y) = true := by simp [e]
          clear e
          go_upto_region 6 with (fail)
          go_quiet (fail)
          go_wp2_with fail
          go_ret
          exact ⟨by rw [← RR.out, ND.out]; rfl, hM.trans Mor.out⟩
      · have hkn : k = n := by omega
        subst hkn
        have e : bs = bs' := by
          have := HT.out
          rwa [List.take_of_length_le (by rw [HN.out]; omega), List.take_of_length_le (by rw [HN'.out]; omega)] at this
        have ND := Lib.hid (decide_eq_true e)
        clear e
        go_wp2_with fail
        go_ret
        exact ⟨by rw [← RR.out, ND.out]; rfl, hM⟩
  · have ne : ¬ bs = bs' := fun e => c (by rw [← hn, ← hn', e])
    have ND := Lib.hid (decide_eq_false ne)
    clear ne hn hn' h h'
    have d0 : ((n : Int) != n') = true := by simp; omega
    go_enter Try.func117, Try.ntmps117
    go_wp2_with fail
    go_ret
    exact ⟨by rw [← RR.out, ND.out]; rfl, Mor.out⟩
end Go.Proofs.Ytcflebggepmmcaa
/- ext.next: what stands at the beginning of a tail. -/
namespace Go.Proofs.Ytcflebggepmmcaa
open Go.RowKit

def sizeM (bs : List Int) : Int := bs.getD 2 0 * 256 + bs.getD 3 0
def nextM (bs : List Int) : Int × Int :=
  if bs.length = 0 then (0, 0)
  else if bs.length = 4 ∨ bs.length = 20 ∨ bs.length = 24 then (1, bs.length)
  else if bs.length < 28 then (3, 0)
  else if sizeM bs < 16 ∨ sizeM bs % 4 ≠ 0 ∨ (bs.length : Int) < sizeM bs then (3, 0)
  else (2, sizeM bs)
set_option maxRecDepth 20000 in
set_option maxHeartbeats 1000000 in
theorem next_any (A : Option Addr) (cap : Nat) (bs : List Int) (n : Nat) (W : World) (hn : bs.length = n) (h : ByteS W A cap bs) :
    Calls Try.prog 104 #[.slice A n cap] W fun e w' => e = .returned (.tuple #[.int .i64 (nextM bs).1, .int .i64 (nextM bs).2]) ∧ Mo W w' := by
  have hlim := h.lim
  have hle := h.le
  unfold nextM
  rw [hn] at hle hlim ⊢
  by_cases c0 : n = 0
  · rw [if_pos c0]
    subst c0
    go_enter Try.func104, Try.ntmps104
    go_wp2_with fail
    go_ret2
    exact ⟨rfl, Mor.out⟩
  rw [if_neg c0]
  by_cases c1 : n = 4 ∨ n = 20 ∨ n = 24
  · rw [if_pos c1]
    clear h c0
    rcases c1 with c1 | c1 | c1
    all_goals
      subst c1
      clear hn
      go_enter Try.func104, Try.ntmps104
      go_wp2_with fail
      go_ret2
      exact ⟨rfl, Mor.out⟩
  rw [if_neg c1]
  by_cases c2 : n < 28
  · rw [if_pos c2]
    clear h hn
    have d0 : ((n : Int) == 0) = false := by simp; omega
    have d1 : ((n : Int) == 4) = false := by simp; omega
    have d2 : ((n : Int) == 20) = false := by simp; omega
    have d3 : ((n : Int) == 24) = false := by simp; omega
    go_enter Try.func104, Try.ntmps104
    go_wp2_with fail
    go_ret2
    exact ⟨rfl, Mor.out⟩
  rw [if_neg c2]
  obtain ⟨g, off, rfl, LG, hc⟩ := h.get (by omega)
  obtain ⟨a2, b2, l2⟩ := hc 2 (by omega)
  obtain ⟨a3, b3, l3⟩ := hc 3 (by omega)
  have e2 : bs.getD 2 0 = bs[2]'(by omega) := by simp [List.getD, show 2 < bs.length by omega]
  have e3 : bs.getD 3 0 = bs[3]'(by omega) := by simp [List.getD, show 3 < bs.length by omega]
  unfold sizeM
  rw [e2, e3]
  clear e2 e3 hc h
  generalize bs[2]'_ = x at *
  generalize bs[3]'_ = y at *
  clear hn
  have ho := or_shift x y b2 l2 b3 l3
  obtain ⟨r, hr⟩ : ∃ r : Int × Int, (if x * 256 + y < 16 ∨ (x * 256 + y) % 4 ≠ 0 ∨ (n : Int) < x * 256 + y then (3, 0) else (2, x * 256 + y)) = r := ⟨_, rfl⟩
  rw [hr]
  have HR := Lib.hid hr
  clear hr
  have d0 : ((n : Int) == 0) = false := by simp; omega
  have d1 : ((n : Int) == 4) = false := by simp; omega
  have d2 : ((n : Int) == 20) = false := by simp; omega
  have d3 : ((n : Int) == 24) = false := by simp; omega
  have i2 : (2 : Int) < n := by omega
  have i3 : (3 : Int) < n := by omega
  have sh : IntKind.i64.wrap (x * 256) = x * 256 := by rw [IntKind.wrap_i64]; omega
  go_enter Try.func104, Try.ntmps104
  go_upto_region 11 with (fail)
  go_quiet (fail)
  have hz : 0 ≤ x * 256 + y := by omega
  by_cases s1 : x * 256 + y < 16
  · have HR' := HR.out; rw [if_pos (Or.inl s1)] at HR'; subst HR'; clear HR
    go_wp2_with fail
    go_ret2
    exact ⟨rfl, Mor.out⟩
  by_cases s2 : (x * 256 + y) % 4 = 0
  · have m2 : ((x * 256 + y) % 4 != 0) = false := by simp [s2]
    have m3 := s2
    clear s2
    by_cases s3 : (n : Int) < x * 256 + y
    · have HR' := HR.out; rw [if_pos (Or.inr (Or.inr s3))] at HR'; subst HR'; clear HR
      clear m3
      go_wp2_with fail
      go_ret2
      exact ⟨rfl, Mor.out⟩
    · have HR' := HR.out; rw [if_neg (show ¬ (x * 256 + y < 16 ∨ (x * 256 + y) % 4 ≠ 0 ∨ (n : Int) < x * 256 + y) by omega)] at HR'; subst HR'; clear HR
      clear m3
      go_wp2_with fail
      go_ret2
      exact ⟨rfl, Mor.out⟩
  · have HR' := HR.out; rw [if_pos (Or.inr (Or.inl s2))] at HR'; subst HR'; clear HR
    have m2 : ((x * 256 + y) % 4 != 0) = true := by simp [s2]
    clear s2
    go_wp2_with fail
    go_ret2
    exact ⟨rfl, Mor.out⟩
end Go.Proofs.Ytcflebggepmmcaa
/- Fields in memory; ext.same; slices.EqualFunc of fields. -/
namespace Go.Proofs.Ytcflebggepmmcaa
open Go.RowKit

structure Fld where
  kind : Int
  val : List Int
  deriving DecidableEq
/-- a slice of fields -/
structure ExtS (W : World) (A : Option Addr) (cap : Nat) (l : List Fld) : Prop where
  le : l.length ≤ cap
  lim : l.length ≤ 4398046511104
  nil : A = none → cap = 0
  at_ : l = [] ∨ ∃ g off, A = some ⟨g, off, none⟩ ∧ ∀ i, (h : i < l.length) → W.cell? ⟨g, off + i * 2, none⟩ = some (.int .u16 l[i].kind) ∧ 0 ≤ l[i].kind ∧ l[i].kind ≤ 65535 ∧ ∃ u, W.cell? ⟨g, off + i * 2 + 1, none⟩ = some u ∧ ByteV W u l[i].val
set_option maxRecDepth 20000 in
theorem ExtS.mo {W w : World} {A : Option Addr} {cap : Nat} {l : List Fld} (h : ExtS W A cap l) (k : Mo W w) : ExtS w A cap l := by
  refine ⟨h.le, h.lim, h.nil, ?_⟩
  rcases h.at_ with e | ⟨g, off, rfl, hc⟩
  · exact .inl e
  · refine .inr ⟨g, off, rfl, fun i hi => ?_⟩
    obtain ⟨h1, h2, h3, u, h4, h5⟩ := hc i hi
    have : LtW g W := LtW.of_cell h1
    exact ⟨by rw [k.cell, h1], h2, h3, u, by rw [k.cell, h4], h5.mo k⟩
set_option maxRecDepth 20000 in
theorem ExtS.get {W : World} {A : Option Addr} {cap : Nat} {l : List Fld} (h : ExtS W A cap l) (p : 0 < l.length) : ∃ g off, A = some ⟨g, off, none⟩ ∧ LtW g W ∧ ∀ i, (h : i < l.length) → ∃ a n c, W.cell? ⟨g, off + i * 2, none⟩ = some (.int .u16 l[i].kind) ∧ 0 ≤ l[i].kind ∧ l[i].kind ≤ 65535 ∧ W.cell? ⟨g, off + i * 2 + 1, none⟩ = some (.slice a n c) ∧ l[i].val.length = n ∧ ByteS W a c l[i].val := by
  rcases h.at_ with e | ⟨g, off, rfl, hc⟩
  · rw [e] at p; simp at p
  · refine ⟨g, off, rfl, LtW.of_cell (hc 0 p).1, fun i hi => ?_⟩
    obtain ⟨h1, h2, h3, u, h4, a, c, rfl, h5⟩ := hc i hi
    exact ⟨a, _, c, h1, h2, h3, h4, rfl, h5⟩
/-- a slice value that reads as fields -/
def ExtV (W : World) (v : Value) (l : List Fld) : Prop := ∃ A cap, v = .slice A l.length cap ∧ ExtS W A cap l
set_option maxRecDepth 20000 in
theorem ExtV.mo {W w : World} {v : Value} {l : List Fld} (h : ExtV W v l) (k : Mo W w) : ExtV w v l := by
  obtain ⟨A, cap, e, hb⟩ := h
  exact ⟨A, cap, e, hb.mo k⟩
set_option maxRecDepth 20000 in
theorem extV_nil (W : World) : ExtV W (.slice none 0 0) [] := ⟨none, 0, rfl, by simp, by simp, fun _ => rfl, .inl rfl⟩
set_option maxRecDepth 20000 in
set_option maxHeartbeats 1000000 in
theorem same_any (kx ky : Int) (vx vy : List Int) (A A' : Option Addr) (n n' c c' : Nat) (W : World) (hn : vx.length = n) (hn' : vy.length = n') (h : ByteS W A c vx) (h' : ByteS W A' c' vy) :
    Calls Try.prog 110 #[.agg #[.int .u16 kx, .slice A n c], .agg #[.int .u16 ky, .slice A' n' c']] W fun e w' => e = .returned (.bool (decide ((⟨kx, vx⟩ : Fld) = ⟨ky, vy⟩))) ∧ Mo W w' := by
  obtain ⟨r, hr⟩ : ∃ r : Bool, decide ((⟨kx, vx⟩ : Fld) = ⟨ky, vy⟩) = r := ⟨_, rfl⟩
  rw [hr]
  by_cases e : kx = ky
  · subst e
    have hr2 : decide (vx = vy) = r := by rw [← hr]; congr 1; simp
    have E := Lib.hid (fun w (k : Mo W w) => equalB_any A A' n n' c c' vx vy w hn hn' (h.mo k) (h'.mo k))
    rw [hr2] at E
    clear hr hr2 hn hn' h h'
    go_enter Try.func110, Try.ntmps110
    go_wp2_with fail
    refine (E.out _ Mor.out).mono ?_
    rintro e w1 ⟨rfl, M1⟩
    go_wp2_with fail
    go_ret
    exact ⟨rfl, (Mor.out : Mo W _).trans M1⟩
  · have hf : r = false := by rw [← hr, decide_eq_false_iff_not]; intro x; exact e (by injection x)
    subst hf
    clear hr hn hn' h h'
    have d0 : (kx == ky) = false := by simp [e]
    clear e
    go_enter Try.func110, Try.ntmps110
    go_wp2_with fail
    go_ret
    exact ⟨rfl, Mor.out⟩
set_option maxRecDepth 20000 in
set_option maxHeartbeats 1000000 in
theorem equalF_any (A A' : Option Addr) (n n' cap cap' : Nat) (l l' : List Fld) (W : World) (hn : l.length = n) (hn' : l'.length = n') (h : ExtS W A cap l) (h' : ExtS W A' cap' l') :
    Calls Try.prog 109 #[.slice A n cap, .slice A' n' cap', .func (.func 110) #[] #[]] W fun e w' => e = .returned (.bool (decide (l = l'))) ∧ Mo W w' := by
  have hlim := h.lim
  have hlim' := h'.lim
  rw [hn] at hlim
  rw [hn'] at hlim'
  have HN := Lib.hid hn
  have HN' := Lib.hid hn'
  obtain ⟨r, hr⟩ : ∃ r : Bool, decide (l = l') = r := ⟨_, rfl⟩
  rw [hr]
  have RR := Lib.hid hr
  clear hr
  by_cases c : n = n'
  · subst c
    clear hn hn'
    have HB := Lib.hid h
    have HB' := Lib.hid h'
    clear h h'
    go_enter Try.func109, Try.ntmps109
    go_wp2_with fail
    go_loopw [17] (fun i wr => ∃ k : Nat, k ≤ n ∧ i = .int .i64 k ∧ (l.take k = l'.take k) ∧ Mo W wr) (fun i _ => n - (intOf i).toNat)
    case atStart => exact ⟨0, by omega, rfl, by rw [List.take_zero, List.take_zero], Mor.out⟩
    case round =>
      obtain ⟨k, hk, rfl, ht, hM⟩ := hrel
      have HT := Lib.hid ht
      clear ht
      by_cases ck : k < n
      · obtain ⟨g, off, rfl, LG, hc⟩ := (HB.out.mo hM).get (by rw [HN.out]; omega)
        obtain ⟨g', off', rfl, LG', hc'⟩ := (HB'.out.mo hM).get (by rw [HN'.out]; omega)
        have hk1 : k < l.length := by rw [HN.out]; exact ck
        have hk2 : k < l'.length := by rw [HN'.out]; exact ck
        obtain ⟨xa, xn, xc, a1, a2, a3, a4, a5, a6⟩ := hc k hk1
        obtain ⟨ya, yn, yc, b1, b2, b3, b4, b5, b6⟩ := hc' k hk2
        have t1 : l.take (k + 1) = l.take k ++ [l[k]] := by rw [List.take_add_one, List.getElem?_eq_getElem hk1]; rfl
        have t2 : l'.take (k + 1) = l'.take k ++ [l'[k]] := by rw [List.take_add_one, List.getElem?_eq_getElem hk2]; rfl
        have hne : l[k] ≠ l'[k] → ¬ l = l' := fun hne e => hne (by subst e; rfl)
        have T1 := Lib.hid t1
        have T2 := Lib.hid t2
        have NE := Lib.hid hne
        clear hc hc' t1 t2 hne
        have i0 : (0 : Int) ≤ k := by omega
        have i1 : (k : Int) < n := by omega
        generalize l[k] = x at *
        generalize l'[k] = y at *
        obtain ⟨xk, xv⟩ := x
        obtain ⟨yk, yv⟩ := y
        simp only at a1 a2 a3 a5 a6 b1 b2 b3 b5 b6
        have E := Lib.hid (fun w (k : Mo wr w) => same_any xk yk xv yv xa ya xn yn xc yc w a5 b5 (a6.mo k) (b6.mo k))
        clear a5 a6 b5 b6
        by_cases e : (⟨xk, xv⟩ : Fld) = ⟨yk, yv⟩
        · rw [decide_eq_true e] at E
          have EE := Lib.hid e
          clear NE e
          go_wp2_with fail
          refine (E.out _ Mor.out).mono ?_
          rintro e w1 ⟨rfl, M1⟩
          go_wp2_with fail
          go_roundw
          case rel => exact ⟨k + 1, by omega, by go_num, by rw [T1.out, T2.out, HT.out, EE.out], (hM.trans Mor.out).trans M1⟩
          case measure => simp [intOf]; omega
        · have ne := NE.out e
          have ND := Lib.hid (decide_eq_false ne)
          rw [decide_eq_false e] at E
          clear NE ne e
          go_wp2_with fail
          refine (E.out _ Mor.out).mono ?_
          rintro e w1 ⟨rfl, M1⟩
          go_wp2_with fail
          go_ret
          exact ⟨by rw [← RR.out, ND.out]; rfl, (hM.trans Mor.out).trans M1⟩
      · have hkn : k = n := by omega
        subst hkn
        have e : l = l' := by
          have := HT.out
          rwa [List.take_of_length_le (by rw [HN.out]; omega), List.take_of_length_le (by rw [HN'.out]; omega)] at this
        have ND := Lib.hid (decide_eq_true e)
        clear e
        go_wp2_with fail
        go_ret
        exact ⟨by rw [← RR.out, ND.out]; rfl, hM⟩
  · have ne : ¬ l = l' := fun e => c (by rw [← hn, ← hn', e])
    have ND := Lib.hid (decide_eq_false ne)
    clear ne hn hn' h h'
    have d0 : ((n : Int) != n') = true := by simp; omega
    go_enter Try.func109, Try.ntmps109
    go_wp2_with fail
    go_ret
    exact ⟨by rw [← RR.out, ND.out]; rfl, Mor.out⟩
end Go.Proofs.Ytcflebggepmmcaa
/- Bytes as strings; horologeref21.Same. -/
namespace Go.Proofs.Ytcflebggepmmcaa
open Go.RowKit

set_option maxRecDepth 20000 in
theorem strOf_inj {xs ys : List Int} (hx : ∀ c ∈ xs, 0 ≤ c ∧ c ≤ 255) (hy : ∀ c ∈ ys, 0 ≤ c ∧ c ≤ 255) (h : strOfNums xs = strOfNums ys) : xs = ys := by
  have h1 : xs.map (fun n => UInt8.ofNat n.toNat) = ys.map fun n => UInt8.ofNat n.toNat := by
    have := congrArg (fun s : ByteArray => s.data.toList) h
    simpa [strOfNums_data] using this
  induction xs generalizing ys with
  | nil => cases ys with
    | nil => rfl
    | cons y ys => simp at h1
  | cons x xs ih => cases ys with
    | nil => simp at h1
    | cons y ys =>
      simp only [List.map_cons, List.cons.injEq] at h1
      obtain ⟨e1, e2⟩ := h1
      have bx := hx x (by simp)
      have b2 := hy y (by simp)
      have exy : x = y := by
        have := congrArg UInt8.toNat e1
        rw [UInt8.toNat_ofNat', UInt8.toNat_ofNat', Nat.mod_eq_of_lt (by omega), Nat.mod_eq_of_lt (by omega)] at this
        omega
      rw [exy, ih (fun c hc => hx c (by simp [hc])) (fun c hc => hy c (by simp [hc])) (by
        unfold strOfNums
        rw [e2]) e2]
set_option maxRecDepth 20000 in
theorem strOf_eq {xs ys : List Int} (hx : ∀ c ∈ xs, 0 ≤ c ∧ c ≤ 255) (hy : ∀ c ∈ ys, 0 ≤ c ∧ c ≤ 255) : ((strOfNums xs).toList == (strOfNums ys).toList) = decide (xs = ys) := by
  by_cases e : xs = ys
  · subst e; simp
  · rw [decide_eq_false e]
    have : ¬ (strOfNums xs).toList = (strOfNums ys).toList := fun h => e (strOf_inj hx hy (by
      rw [ByteArray.toList_eq, ByteArray.toList_eq] at h
      have h' : (strOfNums xs).data = (strOfNums ys).data := Array.toList_inj.1 h
      generalize strOfNums xs = u at h' ⊢
      generalize strOfNums ys = v at h' ⊢
      cases u; cases v
      simpa using h'))
    simpa using this
set_option maxRecDepth 20000 in
/-- string(b) -/
theorem str_conv {W : World} {A : Option Addr} {n cap : Nat} {bs : List Int} (h : ByteS W A cap bs) (hn : bs.length = n) : (convert 39 9 (.slice A n cap)).run Try.prog W = .ok (.string (strOfNums bs)) W := by
  cases A with
  | none =>
    have hc := h.nil rfl
    have hle := h.le
    obtain rfl : bs = [] := List.eq_nil_of_length_eq_zero (by omega)
    exact run_convert_bytes_nil W _ _ Try.underlying39 Try.underlying5 _ _ _ Try.underlying9
  | some ad =>
    by_cases z : bs = []
    · subst z
      subst hn
      rw [run_convert_bytes_string W _ _ _ _ _ _ Try.underlying39 Try.underlying5 Try.underlying9, run_bytesToString W ad _ cap [] (by simpa using run_loadCells_list (P := Try.prog) W ad [] (fun j v hj => by simp at hj))]
      rfl
    · rcases h.at_ with e | ⟨g, off, e, hc⟩
      · exact absurd e z
      · obtain rfl : ad = ⟨g, off, none⟩ := by simpa using e
        exact run_convert_bytes_arg W _ _ Try.underlying39 Try.underlying5 g off n cap bs hn (fun i hi => by
          have hi' : i < bs.length := by omega
          rw [hc i hi']
          simp [List.getD, hi']) _ Try.underlying9
set_option maxRecDepth 20000 in
set_option maxHeartbeats 2000000 in
theorem refSame_any (A A' : Option Addr) (n n' cap cap' : Nat) (l l' : List Fld) (W : World) (hn : l.length = n) (hn' : l'.length = n') (h : ExtS W A cap l) (h' : ExtS W A' cap' l') :
    Calls Try.prog 78 #[.slice A n cap, .slice A' n' cap'] W fun e w' => e = .returned (.bool (decide (l = l'))) ∧ Mo W w' := by
  have hlim := h.lim
  have hlim' := h'.lim
  rw [hn] at hlim
  rw [hn'] at hlim'
  have HN := Lib.hid hn
  have HN' := Lib.hid hn'
  obtain ⟨r, hr⟩ : ∃ r : Bool, decide (l = l') = r := ⟨_, rfl⟩
  rw [hr]
  have RR := Lib.hid hr
  clear hr
  by_cases c : n = n'
  · subst c
    clear hn hn'
    have HB := Lib.hid h
    have HB' := Lib.hid h'
    clear h h'
    go_enter Try.func78, Try.ntmps78
    go_wp2_with fail
    go_loopw [5, 6] (fun b i wr => ∃ (k : Nat) (q : Bool), k ≤ n ∧ i = .int .i64 k ∧ b = .bool q ∧ decide (l.take k = l'.take k) = q ∧ Mo W wr) (fun b i _ => (n - (intOf i).toNat) )
    case atStart => exact ⟨0, true, by omega, rfl, rfl, by simp, Mor.out⟩
    case round =>
      obtain ⟨k, q, hk, rfl, rfl, ht, hM⟩ := hrel
      have HT := Lib.hid ht
      clear ht
      by_cases ck : k < n
      · cases q with
        | false =>
          have hne : ¬ l = l' := fun e => by have := HT.out; rw [e] at this; simp at this
          have hrf : r = false := by rw [← RR.out]; exact decide_eq_false hne
          subst hrf
          clear hne
          have i1 : (k : Int) < n := by omega
          go_wp2_with fail
          go_ret
          exact ⟨rfl, hM⟩
        | true =>
          obtain ⟨g, off, rfl, LG, hc⟩ := (HB.out.mo hM).get (by rw [HN.out]; omega)
          obtain ⟨g', off', rfl, LG', hc'⟩ := (HB'.out.mo hM).get (by rw [HN'.out]; omega)
          have hk1 : k < l.length := by rw [HN.out]; exact ck
          have hk2 : k < l'.length := by rw [HN'.out]; exact ck
          obtain ⟨xa, xn, xc, a1, a2, a3, a4, a5, a6⟩ := hc k hk1
          obtain ⟨ya, yn, yc, b1, b2, b3, b4, b5, b6⟩ := hc' k hk2
          have t1 : l.take (k + 1) = l.take k ++ [l[k]] := by rw [List.take_add_one, List.getElem?_eq_getElem hk1]; rfl
          have t2 : l'.take (k + 1) = l'.take k ++ [l'[k]] := by rw [List.take_add_one, List.getElem?_eq_getElem hk2]; rfl
          have T1 := Lib.hid t1
          have T2 := Lib.hid t2
          clear hc hc' t1 t2
          have i0 : (0 : Int) ≤ k := by omega
          have i1 : (k : Int) < n := by omega
          generalize l[k] = x at *
          generalize l'[k] = y at *
          obtain ⟨xk, xv⟩ := x
          obtain ⟨yk, yv⟩ := y
          simp only at a1 a2 a3 a5 a6 b1 b2 b3 b5 b6
          have s1 : ∀ j, (convert 39 9 (.slice xa xn xc)).run Try.prog (wr.drewN j) = .ok (.string (strOfNums xv)) (wr.drewN j) := fun j => str_conv (a6.mo Mor.out) a5
          have s2 : ∀ j, (convert 39 9 (.slice ya yn yc)).run Try.prog (wr.drewN j) = .ok (.string (strOfNums yv)) (wr.drewN j) := fun j => str_conv (b6.mo Mor.out) b5
          have se := strOf_eq a6.byte b6.byte
          have ST : Hid (decide (l.take (k + 1) = l'.take (k + 1)) = (decide (xk = yk) && decide (xv = yv))) := Lib.hid (by
            have h0 : l.take k = l'.take k := by simpa using HT.out
            rw [T1.out, T2.out, h0, Bool.eq_iff_iff]
            simp)
          clear a5 a6 b5 b6
          by_cases e : xk = yk
          · subst e
            have d0 : (xk == xk) = true := by simp
            have ST2 : Hid (decide (l.take (k + 1) = l'.take (k + 1)) = decide (xv = yv)) := Lib.hid (by rw [ST.out]; simp)
            clear ST
            obtain ⟨q, hq⟩ : ∃ q : Bool, decide (xv = yv) = q := ⟨_, rfl⟩
            rw [hq] at se
            have SQ := Lib.hid hq
            clear hq
            go_upto_region 5 with (fail)
            go_quiet (fail)
            go_wp2_with fail
            go_roundw
            case rel => exact ⟨k + 1, q, by omega, by go_num, rfl, by rw [ST2.out, SQ.out], hM.trans Mor.out⟩
            case measure => simp [intOf]; omega
          · have d0 : (xk == yk) = false := by simp [e]
            have ST2 : Hid (decide (l.take (k + 1) = l'.take (k + 1)) = false) := Lib.hid (by rw [ST.out]; simp [e])
            clear ST e
            go_upto_region 5 with (fail)
            go_quiet (fail)
            go_wp2_with fail
            go_roundw
            case rel => exact ⟨k + 1, false, by omega, by go_num, rfl, ST2.out, hM.trans Mor.out⟩
            case measure => simp [intOf]; omega
      · have hkn : k = n := by omega
        subst hkn
        have hq : r = q := by
          have := HT.out
          rw [List.take_of_length_le (by rw [HN.out]; omega), List.take_of_length_le (by rw [HN'.out]; omega)] at this
          rw [← RR.out, this]
        subst hq
        cases r
        all_goals
          go_wp2_with fail
          go_ret
          exact ⟨rfl, hM⟩
  · have ne : ¬ l = l' := fun e => c (by rw [← hn, ← hn', e])
    have hrf : r = false := by rw [← RR.out]; exact decide_eq_false ne
    subst hrf
    clear ne hn hn' h h'
    have d0 : ((n : Int) == n') = false := by simp; omega
    go_enter Try.func78, Try.ntmps78
    go_wp2_with fail
    refine wp_loop_rounds 1 ?_
    rw [rounds_succ]
    by_cases z : 0 < n
    all_goals
      go_wp2_with fail
      go_ret
      exact ⟨rfl, Mor.out⟩
end Go.Proofs.Ytcflebggepmmcaa
/- A range over a function whose values lead to memory: each value comes with a fact about the world in which it comes (the library's law knows of a value its type alone; its proof, turned by one word). -/
namespace Go.Proofs.Ytcflebggepmmcaa
open Go.RowKit Go.Shelf
variable {F : Fence} {n : Nat} {P : Program} {w : World}

/-- an iterator's contract: of each value that it hands on it says, in the world of that round, Px -/
def SeqP {α : Type} (F : Fence) (n : Nat) (P : Program) (g : Nat) (lb : Array Value) (encs : α → Array Value) (Kp : World → World → Prop) (Px : List α → α → World → Prop) (S Sp : List α → Prop) (N : Nat) (w : World) : Prop :=
  ∀ (l : Nat) (J Jx : List α → World → Prop) (W : World), Below w.heap.size w W → AbidesFrom W.heap.size J → AbidesFrom W.heap.size Jx →
    (∀ pre x W1, J pre W1 → Px pre x W1 → pre.length < N → YieldAt F (n - 1) P l (encs x) W1 fun e W' =>
      (e = .returned (.bool true) ∧ J (pre ++ [x]) W' ∧ Kp W1 W') ∨ (e = .returned (.bool false) ∧ Jx (pre ++ [x]) W')) →
    J [] W →
    CallsIn F n P g (#[.func (.yield l) #[] #[]] ++ lb) W fun e W' => (∃ v, e = .returned v) ∧ ((∃ xs, S xs ∧ J xs W') ∨ (∃ pre, Sp pre ∧ Jx pre W'))
set_option maxRecDepth 20000 in
theorem wpIn_range_px {α : Type} {g : Operand} {ps : Array Tmp} {assign body : Code} {Q : Exit → Act → World → Prop} {a : Act} {w : World}
    (hro : F.round = none) (h1 : 1 ≤ n) {gf : Nat} {lb : Array Value} (hg : a.eval g = .func (.func gf) #[] lb) (hFg : F.fn gf) (eg : ∀ args w, (callFunc gf args).run P w = .ok (.enter gf args) w)
    {encs : α → Array Value} {Kp : World → World → Prop} {S Sp : List α → Prop} {N : Nat} {w0 : World} {Px : List α → α → World → Prop} (hseq : SeqP F (n - 1) P gf lb encs Kp Px S Sp N w0)
    (hKt : ∀ {A B C : World}, Kp A B → Kp B C → Kp A C) (hKb : ∀ (W : World) (l : Nat) (o o' : Obj), w.heap.size ≤ l → W.heap[l]? = some o → o.isCells = false → o.isWalk = false → Kp W (W.putObj l o')) (hb0 : Below w0.heap.size w0 w) (hps : ∀ x, (encs x).size = ps.size)
    (I : List α → World → Prop) (Ix : Code → List α → World → Prop) (hI : OwnFrom w.heap.size I) (hIx : ∀ c, OwnFrom w.heap.size (Ix c)) (h0 : I [] w) (Ax : List α → α → Act → World → Prop) (hAx : ∀ pre x a', OwnFrom w.heap.size (fun (_ : Unit) W => Ax pre x a' W))
    (hassign : ∀ (l : Nat) (pre : List α) (x : α) (W : World) (K : Act → World → Prop), I pre W → Px pre x W → (∀ a' W', KeepsFrom w.heap.size W W' → Kp W W' → I pre W' → Ax pre x a' W' → K a' W') →
      assign.wpIn (F.inRound l) (n - 1 - 1) P (Exit.then K (fun _ _ _ => False)) { tmps := (ps.zip (encs x)).foldl (fun t (p, v) => t.setIfInBounds p v) a.tmps, defers := [] } W)
    (hbody : ∀ (l : Nat) (pre : List α) (x : α) (a' : Act) (W : World), w.heap.size ≤ l → (∃ r, W.heap[l]? = some (.loop r)) → I pre W → Ax pre x a' W → pre.length < N → body.wpIn (F.inRound l) (n - 1 - 1) P (ownPostG w.heap.size Kp I Ix (pre ++ [x]) W) a' W)
    (hdone : ∀ (D : Nat) (xs : List α) (W : World), w.heap.size ≤ D → S xs → I xs W → W.heap[D]? = some (.deferred (some [])) → Q .normal { a with defers := { target := .collected D, args := #[] } :: a.defers } W)
    (hstop : ∀ (D : Nat) (c : Code) (pre : List α) (W : World), w.heap.size ≤ D → Sp pre → Ix c pre W → W.heap[D]? = some (.deferred (some [])) → c.wpIn F n P Q { a with defers := { target := .collected D, args := #[] } :: a.defers } W) :
    (Code.rangeFunc g ps assign body).wpIn F n P Q a w := by
  refine wpIn_rangeFunc ?_
  intro fn hfn
  rw [hro]
  obtain ⟨rec, hrec⟩ : ∃ rec : LoopState → Option Code → Loop, rec = fun st pe => { state := st, pending := pe, fn, tmps := a.tmps, params := ps, assign, body, defers := w.heap.size } := ⟨_, rfl⟩
  obtain ⟨W1, hW1⟩ : ∃ W1, (w.alloc (.deferred (some []))).alloc (.loop (rec .ready none)) = W1 := ⟨_, rfl⟩
  have hL1 : W1.heap[w.heap.size + 1]? = some (.loop (rec .ready none)) := by
    rw [← hW1]; have := World.alloc_heap_new (w.alloc (.deferred (some []))) (.loop (rec .ready none)); rwa [World.size_alloc] at this
  have hK1 : W1.heap[w.heap.size]? = some (.deferred (some [])) := by
    rw [← hW1]; exact (Below.heap_alloc _ _ _ (by simp)).trans (World.alloc_heap_new w _)
  have hI1 : I [] W1 := by rw [← hW1]; exact hI.alloc _ (hI.alloc _ h0)
  have hb1 : Below w0.heap.size w0 W1 := by
    rw [← hW1]; exact hb0.trans ((((Below.refl _ w).alloc (Nat.le_refl _) _).alloc (by simp) _).mono hb0.size)
  refine ⟨w.heap.size + 1, [{ target := .collected w.heap.size, args := #[] }], W1, { target := .fn (.func gf) lb, args := #[.func (.yield (w.heap.size + 1)) #[] #[]] }, W1, gf,
    #[.func (.yield (w.heap.size + 1)) #[] #[]] ++ lb, W1, ?_, ?_, ?_, ?_, fun _ => h1, ?_⟩
  · rw [← hW1, hrec]; exact run_enterLoop_outer _ _ _ _ _
  · simp only [resolve, hg]
    simp [go_sem]
  · intro f' hf'; simp [Target.leads] at hf'; subst hf'; exact hFg
  · simp [invoke, go_sem, eg]
  · have hnw : ∀ {A B : World} {row : Option Nat}, (∀ r, row = some r → W1.heap.size ≤ r ∧ ∃ o : Obj, A.heap[r]? = some o ∧ o.isWalk = true) → (∀ r, row = some r → w.heap.size ≤ r ∧ ∃ o : Obj, A.heap[r]? = some o ∧ o.isCells = false) :=
      fun hr r e => by obtain ⟨hB, o, ho, hw⟩ := hr r e; exact ⟨by rw [← hW1] at hB; simp at hB; omega, o, ho, Obj.not_cells_of_walk hw⟩
    refine (hseq (w.heap.size + 1)
      (fun pre W => I pre W ∧ W.heap[w.heap.size + 1]? = some (.loop (rec .ready none)) ∧ W.heap[w.heap.size]? = some (.deferred (some [])))
      (fun pre W => ∃ c, Ix c pre W ∧ W.heap[w.heap.size + 1]? = some (.loop (rec .done (some c))) ∧ W.heap[w.heap.size]? = some (.deferred (some [])))
      W1 hb1
      (fun s A B row hs hg' hr => ⟨hI s A B row hs.1 hg' (hnw (B := B) hr), (grownBy_keeps hg' (fun r e => (hr r e).2) hs.2.1 rfl).trans hs.2.1, (grownBy_keeps hg' (fun r e => (hr r e).2) hs.2.2 rfl).trans hs.2.2⟩)
      (fun s A B row hs hg' hr => by
        obtain ⟨c, hc, hl, hk⟩ := hs
        exact ⟨c, hIx c s A B row hc hg' (hnw (B := B) hr), (grownBy_keeps hg' (fun r e => (hr r e).2) hl rfl).trans hl, (grownBy_keeps hg' (fun r e => (hr r e).2) hk rfl).trans hk⟩)
      ?_ ⟨hI1, hL1, hK1⟩).mono ?_
    · rintro pre x W ⟨hi, hl, hk⟩ hpx hlen
      have hlt : w.heap.size + 1 < W.heap.size := (Array.getElem?_eq_some_iff.1 hl).1
      have hy := run_yield (P := P) (args := encs x) hl (by rw [hrec]; exact hps x)
      rw [hrec] at hy
      refine ⟨fn, _, assign, body, hy, roundIn_of_wpIn hfn (hassign _ pre x W _ hi hpx ?_)⟩
      clear hy
      intro a' Wa hkfa hkpa hia hax
      replace hl := hkfa.same _ _ (by omega) hl rfl
      replace hk := hkfa.same _ _ (Nat.le_refl _) hk rfl
      replace hlt : w.heap.size + 1 < Wa.heap.size := (Array.getElem?_eq_some_iff.1 hl).1
      replace hi := hia
      clear hia
      revert hkpa hkfa
      generalize W = Wb
      intro hkfa hkpa
      obtain ⟨W, rfl⟩ : ∃ W, W = Wa := ⟨_, rfl⟩
      refine ⟨_, run_beginRound hl (by rw [hrec]), ?_⟩
      have hl2 : (W.putObj (w.heap.size + 1) (.loop { rec .ready none with state := .busy })).heap[w.heap.size + 1]? = some (.loop { rec .ready none with state := .busy }) := World.putObj_heap_same hlt
      have hk2 : (W.putObj (w.heap.size + 1) (.loop { rec .ready none with state := .busy })).heap[w.heap.size]? = some (.deferred (some [])) := (World.putObj_heap_other (by omega)).trans hk
      have hw2 : Kp W (W.putObj (w.heap.size + 1) (.loop { rec .ready none with state := .busy })) := hKb _ _ _ _ (by omega) hl rfl rfl
      refine wpIn_mono (hbody _ pre x a' _ (by omega) ⟨_, hl2⟩ (hI.putObj _ hi (by omega) hl rfl) ((hAx pre x a').putObj (s := ()) _ hax (by omega) hl rfl) hlen) ?_
      have fin : ∀ (jump : Option Code) (W3 : World), KeepsFrom w.heap.size (W.putObj (w.heap.size + 1) (.loop { rec .ready none with state := .busy })) W3 →
          (Instr.endRound (w.heap.size + 1) jump).run P W3 = .ok (.bool jump.isNone) (W3.putObj (w.heap.size + 1) (.loop (rec (if jump.isNone then .ready else .done) jump))) ∧
          W3.heap[w.heap.size + 1]? = some (.loop { rec .ready none with state := .busy }) ∧
          (W3.putObj (w.heap.size + 1) (.loop (rec (if jump.isNone then .ready else .done) jump))).heap[w.heap.size + 1]? = some (.loop (rec (if jump.isNone then .ready else .done) jump)) ∧
          (W3.putObj (w.heap.size + 1) (.loop (rec (if jump.isNone then .ready else .done) jump))).heap[w.heap.size]? = some (.deferred (some [])) := fun jump W3 hk3 => by
        have hl3 := hk3.same _ _ (by omega) hl2 rfl
        have := run_endRound (P := P) jump hl3
        rw [hrec] at this ⊢
        exact ⟨this, by rw [hrec] at hl3; exact hl3, World.putObj_heap_same (Array.getElem?_eq_some_iff.1 hl3).1, (World.putObj_heap_other (by omega)).trans (hk3.same _ _ (Nat.le_refl _) hk2 rfl)⟩
      rintro e a3 W3 hp
      cases e with
      | normal =>
        obtain ⟨hk3, hkp3, hi3⟩ := hp
        obtain ⟨hr, hl3, hl4, hk4⟩ := fin none W3 hk3
        exact ⟨_, _, hr, .inl ⟨rfl, ⟨hI.putObj _ hi3 (by omega) hl3 rfl, hl4, hk4⟩, hKt hkpa (hKt (hKt hw2 hkp3) (hKb _ _ _ _ (by omega) hl3 rfl rfl))⟩⟩
      | ret =>
        obtain ⟨hk3, hi3⟩ := hp
        obtain ⟨hr, hl3, hl4, hk4⟩ := fin (some .ret) W3 hk3
        exact ⟨_, _, hr, .inr ⟨rfl, .ret, (hIx _).putObj _ hi3 (by omega) hl3 rfl, hl4, hk4⟩⟩
      | exit id =>
        obtain ⟨hk3, hi3⟩ := hp
        obtain ⟨hr, hl3, hl4, hk4⟩ := fin (some (.exit id)) W3 hk3
        exact ⟨_, _, hr, .inr ⟨rfl, .exit id, (hIx _).putObj _ hi3 (by omega) hl3 rfl, hl4, hk4⟩⟩
      | goto t =>
        obtain ⟨hk3, hi3⟩ := hp
        obtain ⟨hr, hl3, hl4, hk4⟩ := fin (some (.goto t)) W3 hk3
        exact ⟨_, _, hr, .inr ⟨rfl, .goto t, (hIx _).putObj _ hi3 (by omega) hl3 rfl, hl4, hk4⟩⟩
      | panic ch => exact hp.elim
      | outgrown => exact hp.elim
    · rintro e W2 ⟨⟨v, rfl⟩, (⟨xs, hS, hi, hl, hk⟩ | ⟨pre, hSp, c, hi, hl, hk⟩)⟩
      · exact ⟨none, _, by have := run_endLoop (P := P) hl (by rw [hrec]; simp); rw [hrec] at this; exact this, hdone _ xs _ (Nat.le_refl _) hS (hI.putObj _ hi (by omega) hl rfl) ((World.putObj_heap_other (by omega)).trans hk)⟩
      · exact ⟨some c, _, by have := run_endLoop (P := P) hl (by rw [hrec]; simp); rw [hrec] at this; exact this, hstop _ c pre _ (Nat.le_refl _) hSp ((hIx c).putObj _ hi (by omega) hl rfl) ((World.putObj_heap_other (by omega)).trans hk)⟩
end Go.Proofs.Ytcflebggepmmcaa
/- What stays in a world: for loops over iterators. -/
namespace Go.Proofs.Ytcflebggepmmcaa
open Go.RowKit Go.Shelf

set_option maxRecDepth 20000 in
theorem Mo.grown {W W' : World} (h : Mo W W') : W.grownBy W' none := ⟨h.below.os, h.below.tape, h.below.output, h.below.size, fun k hk _ => h.below.block k hk⟩
set_option maxRecDepth 20000 in
theorem boxed_mo {W W' : World} {B : Nat} {t : TypeId} {v : Value} (h : Boxed W B t v) (k : Mo W W') : Boxed W' B t v := h.kept k.grown (by simp)
set_option maxRecDepth 20000 in
theorem Mo.of_below {V W W' : World} (h : Mo V W) (k : Below V.heap.size W W') : Mo V W' := Mo.of (h.below.trans k)
/-! ### what the loop keeps -/
def Cel (W W' : World) : Prop := W.heap.size ≤ W'.heap.size ∧ ∀ (k : Nat) (t : TypeId) (cs : Array Value) (z : Nat × Nat), W.heap[k]? = some (.cells cs t z) → W'.heap[k]? = some (.cells cs t z)
set_option maxRecDepth 20000 in
theorem ownFrom_cel {β : Type} {B : Nat} {I : β → World → Prop} (h : ∀ s W W', I s W → Cel W W' → I s W') : OwnFrom B I := fun s W W' row hs hg hr =>
  h s W W' hs ⟨hg.size, fun k t cs z hk => (hg.block k (Array.getElem?_eq_some_iff.1 hk).1 (fun e => by
    obtain ⟨_, o, ho, hc⟩ := hr k e.symm
    rw [hk] at ho
    cases ho
    cases hc)).trans hk⟩
set_option maxRecDepth 20000 in
theorem boxed_cel {W W' : World} {B : Nat} {t : TypeId} {v : Value} (h : Boxed W B t v) (k : Cel W W') : Boxed W' B t v := k.2 _ _ _ _ h
set_option maxRecDepth 20000 in
theorem owns_cel {W W' : World} {b : Nat} {e : TypeId} {size : Nat} {v : Value} {n : Nat} {xs : List Value} (h : W.ownsRow b e size v n xs) (k : Cel W W') : W'.ownsRow b e size v n xs := by
  refine ⟨h.1, ?_⟩
  rcases h.2 with hn | ⟨g, cap, cur, rfl, hb, hg, rest⟩
  · exact .inl hn
  · exact .inr ⟨g, cap, cur, rfl, hb, k.2 _ _ _ _ hg, rest⟩
end Go.Proofs.Ytcflebggepmmcaa
/- A region that draws its order inside a round of a loop over an iterator: what holds of it outside holds in the round (no operation is a defer statement). -/
namespace Go.Proofs.Ytcflebggepmmcaa
open Go.RowKit Go.Shelf

def noDefer (ops : List Oper) : Bool := ops.all fun o => match o.op with
  | .defer _ => false
  | _ => true
section
variable {P : Program} {n l : Nat} {Q : Exit → Act → World → Prop}
set_option maxRecDepth 20000 in
theorem uponIn_of_upon {o : Oper} {a : Act} {K : Act → World → Prop} {r : Result Next} (h : o.upon P a K Q r) : o.uponIn (Fence.wide.inRound l) n P a K Q r := by
  cases r with
  | ok x w' =>
    cases x <;> simp only [Oper.upon, Oper.uponIn] at h ⊢
    case value => exact h
    case skip => exact h
    case defer => exact h
    case enter f args => exact ⟨fun h => (by cases h), CallsIn.inRound l (callsIn_wide.2 h)⟩
    case row row args => exact ⟨fun h => (by cases h), fun c cs _ => let ⟨v, w', r, s⟩ := h c cs; ⟨v, w', r, stepsIn_wide.2 s⟩⟩
  | halt x w' =>
    cases x <;> simp only [Oper.upon, Oper.uponIn] at h ⊢
    case panic u => exact h
set_option maxRecDepth 20000 in
theorem wpOpIn_of_wpOp {ops : Array Oper} (hd : noDefer ops.toList = true) (hL : ¬ LetsOut Q) {i : Nat} {K : Act → World → Prop} {a : Act} {w : World} (h : wpOp P ops Q i K a w) : wpOpIn (Fence.wide.inRound l) n P ops Q i K a w := by
  unfold wpOp at h
  unfold wpOpIn
  cases ho : ops[i]? with
  | none => rw [ho] at h; exact h
  | some o =>
    rw [ho] at h
    simp only at h ⊢
    have hno : ∀ c, o.op ≠ .defer c := fun c hc => by
      obtain ⟨hi, he⟩ := Array.getElem?_eq_some_iff.1 ho
      have hm : o ∈ ops.toList := by rw [← he]; simp
      have := List.all_eq_true.1 hd o hm
      rw [hc] at this
      cases this
    split
    · rename_i hw
      rw [if_pos hw] at h
      rcases h with h | ⟨_, h⟩
      · refine ⟨fun _ _ => trivial, ?_⟩
        show o.uponIn _ n P a K Q ((o.semAt (some l) a.eval).run P w)
        rw [Oper.semAt_some l a.eval o hno]
        exact uponIn_of_upon h
      · exact absurd h hL
    · rename_i hw
      rw [if_neg hw] at h
      exact ⟨fun _ _ => trivial, h⟩
set_option maxRecDepth 20000 in
theorem wpAnyIn_of_wpAny {md : Region.Mode} {ops : Array Oper} (hd : noDefer ops.toList = true) (hL : ¬ LetsOut Q) : ∀ (fuel : Nat) (listed : Array Bool) (a : Act) (w : World), wpAny P md ops Q fuel listed a w → wpAnyIn (Fence.wide.inRound l) n P md ops Q fuel listed a w
  | 0, _, _, _, h => h
  | fuel + 1, _, _, _, h => ⟨h.1, fun i hi => wpOpIn_of_wpOp hd hL (wpOp_mono (fun a' w' h' => wpAnyIn_of_wpAny hd hL fuel _ a' w' h') (h.2 i hi))⟩
set_option maxRecDepth 20000 in
/-- the beginning: a region that draws, in a round; loads of held cells are taken first -/
theorem wpIn_region_round {S : World → Prop} {id : Nat} {ops : Array Oper} {a : Act} {w : World} (hm : P.follows .mixedOrders = true) (hd : noDefer ops.toList = true) (hL : ¬ LetsOut Q)
    (h : wpAnyH P .any ops Q S ops.size (Array.replicate ops.size false) a w.drew) : (Code.region id ops true).wpIn (Fence.wide.inRound l) n P Q a w :=
  wpIn_region_any hm (wpAnyIn_of_wpAny hd hL _ _ _ _ (wpAny_of_held _ _ _ _ h))
end
end Go.Proofs.Ytcflebggepmmcaa
/- Whole structs stored into whole blocks, by the world's form: what no program's type enters. -/
namespace Go.Proofs.Ytcflebggepmmcaa
open Go.RowKit

set_option maxRecDepth 20000 in
/-- a cell of a block that is known whole (as local rules of go_sem) -/
theorem blk_cell' (w : World) (g i : Nat) (t : TypeId) (cs : Array Value) [h : Blk w g t cs] : w.cell? ⟨g, i, none⟩ = cs[i]? := blk_cell h i
set_option maxRecDepth 20000 in
theorem blk_frozen' (w : World) (g i : Nat) (t : TypeId) (cs : Array Value) [h : Blk w g t cs] : w.frozen? ⟨g, i, none⟩ = false := blk_frozen h i
class One1 (v : Value) : Prop where
  out : v.oneCell' = true
set_option maxRecDepth 20000 in
instance (k : IntKind) (n : Int) : One1 (.int k n) := ⟨rfl⟩
set_option maxRecDepth 20000 in
instance (b : Bool) : One1 (.bool b) := ⟨rfl⟩
set_option maxRecDepth 20000 in
instance (a : Option Addr) (n c : Nat) : One1 (.slice a n c) := ⟨rfl⟩
set_option maxRecDepth 20000 in
instance (a : Option Addr) : One1 (.pointer a) := ⟨rfl⟩
class OneL (l : List Value) : Prop where
  out : ∀ v ∈ l, v.oneCell' = true
set_option maxRecDepth 20000 in
instance : OneL [] := ⟨by simp⟩
set_option maxRecDepth 20000 in
instance (v : Value) (l : List Value) [a : One1 v] [b : OneL l] : OneL (v :: l) := ⟨fun x hx => by
  rcases List.mem_cons.1 hx with rfl | h
  · exact a.out
  · exact b.out x h⟩
class LenL (l : List Value) (n : outParam Nat) : Prop where
  out : l.length = n
set_option maxRecDepth 20000 in
instance : LenL [] 0 := ⟨rfl⟩
set_option maxRecDepth 20000 in
instance (v : Value) (l : List Value) (n : Nat) [h : LenL l n] : LenL (v :: l) (n + 1) := ⟨by rw [List.length_cons, h.out]⟩
set_option maxRecDepth 20000 in
theorem run_storeG (T : TypeId) (n : Nat) (hi : (Try.prog.info? T).map (·.size) = some n) (w : World) (g : Nat) (t : TypeId) (l l' : List Value) [b : Blk w g t l'.toArray] (h1 : l.length = n) (h2 : l'.length = n) [o : OneL l] :
    (Instr.storeAt T (.pointer (some ⟨g, 0, none⟩)) (.agg l.toArray)).run Try.prog w = .ok () (w.setRow g l.toArray) := by
  unfold Instr.storeAt
  simp only [Instr.sureAddr, Sem.run_bind, Sem.run_pure, Result.andThen_ok]
  exact run_storeVar_row w g t T l'.toArray l.toArray b.out (by simpa [h1] using hi) (by simp [h1, h2]) (by simpa using o.out)
set_option maxRecDepth 20000 in
/-- a result that is a struct in a cell, and another one -/
theorem ret_cell_tmp {fn : Func} {p u : Tmp} {T : TypeId} {R : Ending → World → Prop} {a : Act} {w : World} (hr : fn.results = #[.cell p T, .tmp u]) (g : Nat) (v : Value) (hp : a.tmps.getD p undef = .pointer (some ⟨g, 0, none⟩)) (hd : a.defers = [])
    (hl : (loadVar T ⟨g, 0, none⟩).run Try.prog w = .ok v w) (hR : R (.returned (.tuple #[v, a.tmps.getD u undef])) w) : bodyPost Try.prog fn R .ret a w :=
  bodyPost_ret (v := .tuple #[v, a.tmps.getD u undef]) (by
    rw [results_cell_tmp hr, hp]
    have e : (asAddr (.pointer (some ⟨g, 0, none⟩))).run Try.prog w = .ok (⟨g, 0, none⟩ : Addr) w := rfl
    rw [e, Result.andThen_ok, hl, Result.andThen_ok]) hd hR
end Go.Proofs.Ytcflebggepmmcaa
/- A slice's cells, opened: any program. -/
namespace Go.Proofs.Ytcflebggepmmcaa
open Go.RowKit Go.ChangeShapes Go.WideShapes Go.Deep

section
variable {H : Type} {enc : TypeId × Value → H} {w : World} {base : Nat} {spare : Nat → Bool} {held : Bool}
set_option maxRecDepth 20000 in
theorem weightsAll_mem {P : Program} {e : TypeId} : ∀ {l : List (DataW H)} {d : DataW H}, d ∈ l → ∀ n ∈ d.weights P e, n ∈ DataW.weightsAll P e l
  | x :: xs, d, h, n, hn => by
    rw [DataW.weightsAll]
    rcases List.mem_cons.1 h with rfl | h
    · exact List.mem_append_left _ hn
    · exact List.mem_append_right _ (weightsAll_mem h n hn)
set_option maxRecDepth 20000 in
/-- a slice: its cells, how each reads, what it weighs -/
theorem open_rowsW {t e : TypeId} {fuel n : Nat} {v : Value} {x : DataW H × List MemPlace} (ht : Try.prog.underlying t = some (.slice e)) (hC : Try.prog.cellsOf e = n) (hn : 0 < n) (h : DataW.trod enc Try.prog w base spare held fuel t [v] = some x)
    (hz : ∀ k ∈ x.1.weights Try.prog t, k ≤ reachBytes) :
    (v = .slice none 0 0) ∨ ∃ (a : Addr) (len cap : Nat), v = .slice (some a) len cap ∧ len ≤ cap ∧ len * Try.prog.bytesOf e ≤ reachBytes ∧ (0 < len → a.spot = none) ∧
      ∀ i, i < len → ∃ (cs : List Value) (m : Nat) (y : DataW H × List MemPlace), cs.length = n ∧ (∀ j, j < n → w.cell? ⟨a.block, a.off + i * n + j, none⟩ = cs[j]?) ∧ DataW.trod enc Try.prog w base spare held m e cs = some y ∧ ∀ k ∈ y.1.weights Try.prog e, k ≤ reachBytes := by
  rcases open_slice ht h with ⟨h0, _⟩ | ⟨a, len, cap, m, q, D, Pl, hcs, hb, hl, hm, hmm, hx, hi⟩
  · exact .inl (by simpa using h0)
  · rw [hC] at hi
    subst hx
    rw [DataW.weights, ht] at hz
    simp only at hz
    have hle : len ≤ m := by rw [hmm]; split <;> omega
    have hsp : 0 < len → a.spot = none := fun hp => by
      obtain ⟨cs, hc, -⟩ := hi 0 (by omega)
      obtain ⟨_, hlen, hat⟩ := World.cells?_some hc
      have := hat 0 hn
      rw [List.getElem?_eq_getElem (by omega)] at this
      simpa [Addr.add] using World.cell?_spot this
    have hw := hz _ (List.mem_cons_self ..)
    simp only [List.length_map, List.length_range] at hw
    refine .inr ⟨a, len, cap, by simpa using hcs, hl, Nat.le_trans (Nat.mul_le_mul_right _ (by omega)) hw, hsp, fun i him => ?_⟩
    obtain ⟨cs, hc, ht'⟩ := hi i (by omega)
    obtain ⟨_, hlen, hat⟩ := World.cells?_some hc
    refine ⟨cs, q, _, hlen, fun j hj => ?_, ht', fun k hk => hz k (List.mem_cons_of_mem _ (List.mem_append_left _ (weightsAll_mem (List.mem_map.2 ⟨i, List.mem_range.2 him, rfl⟩) k hk)))⟩
    have hs := hsp (by omega)
    obtain ⟨b, off, spot⟩ := a
    simp only at hs
    subst hs
    rw [← hat j hj, Go.WideShapes.add_plain, Go.WideShapes.add_plain]
end
set_option maxRecDepth 20000 in
theorem reach21 : reachBytes = 140737488351232 := by decide
set_option maxRecDepth 20000 in
theorem one_cell {cs : List Value} (h : cs.length = 1) : ∃ a, cs = [a] := by
  match cs, h with
  | [a], _ => exact ⟨a, rfl⟩
set_option maxRecDepth 20000 in
theorem two_cells {cs : List Value} (h : cs.length = 2) : ∃ a b, cs = [a, b] := by
  match cs, h with
  | [a, b], _ => exact ⟨a, b, rfl⟩
end Go.Proofs.Ytcflebggepmmcaa
/- Structs and arrays of bools and integers, of however many cells, kept whole: which cells they have, how they are compared, how they come in. -/
namespace Go.Proofs.Ytcflebggepmmcaa
open Go.RowKit

/-- the kind of a cell: a bool, or an integer -/
inductive CK where
  | b
  | i (k : IntKind)
def CK.fits : CK → Value → Prop
  | .b, .bool _ => True
  | .i k, .int q n => q = k ∧ (Lit.int k n).wf = true
  | _, _ => False
def Fits : List CK → List Value → Prop
  | [], [] => True
  | k :: ks, v :: vs => k.fits v ∧ Fits ks vs
  | _, _ => False
set_option maxRecDepth 20000 in
theorem Fits.len : ∀ {ks : List CK} {vs : List Value}, Fits ks vs → vs.length = ks.length
  | [], [], _ => rfl
  | _ :: _, _ :: _, h => by rw [List.length_cons, List.length_cons, h.2.len]
  | [], _ :: _, h => h.elim
  | _ :: _, [], h => h.elim
set_option maxRecDepth 20000 in
theorem fits_append : ∀ {a b : List CK} {u v : List Value}, Fits a u → Fits b v → Fits (a ++ b) (u ++ v)
  | [], _, [], _, _, h => h
  | _ :: _, _, _ :: _, _, g, h => ⟨g.1, fits_append g.2 h⟩
  | [], _, _ :: _, _, g, _ => g.elim
  | _ :: _, _, [], _, g, _ => g.elim
set_option maxRecDepth 20000 in
theorem fits_split : ∀ {a b : List CK} {v : List Value}, Fits (a ++ b) v → Fits a (v.take a.length) ∧ Fits b (v.drop a.length)
  | [], _, _, h => ⟨trivial, h⟩
  | _ :: _, _, _ :: _, h => ⟨⟨h.1, (fits_split h.2).1⟩, (fits_split h.2).2⟩
  | _ :: _, _, [], h => h.elim
set_option maxRecDepth 20000 in
theorem Fits.one : ∀ {ks : List CK} {vs : List Value}, Fits ks vs → ∀ v ∈ vs, v.oneCell' = true
  | [], [], _ => by simp
  | k :: ks, v :: vs, h => by
    intro x hx
    rcases List.mem_cons.1 hx with rfl | hx
    · have := h.1
      cases k <;> cases x <;> first | rfl | exact this.elim
    · exact h.2.one x hx
  | [], _ :: _, h => h.elim
  | _ :: _, [], h => h.elim

def kindsF (P : Program) (K : TypeId → Option (List CK)) : List Field → Nat → Option (List CK)
  | [], _ => some []
  | f :: r, o => if f.offset = o ∧ (f.name != "_") = true then (K f.type).bind fun a => if a.length = P.cellsOf f.type then (kindsF P K r (o + a.length)).map (a ++ ·) else none else none
/-- the kinds of a type's cells -/
def kinds (P : Program) : Nat → TypeId → Option (List CK)
  | 0, _ => none
  | d + 1, t =>
    match P.underlying t with
    | some .bool => some [.b]
    | some (.int k) => some [.i k]
    | some (.array n e) => (kinds P d e).bind fun a => if a.length = P.cellsOf e ∧ n * P.cellsOf e = P.cellsOf t then some (List.replicate n a).flatten else none
    | some (.struct fs) => (kindsF P (kinds P d) fs.toList 0).bind fun a => if a.length = P.cellsOf t then some a else none
    | _ => none
section
variable {P : Program}

set_option maxRecDepth 20000 in
theorem kindsF_lits {d : Nat} {K : TypeId → Option (List CK)} (hK : ∀ t ks, K t = some ks → ∀ cs, Fits ks cs → ∃ ls, P.keyLits d t cs = some ls) :
    ∀ (fs : List Field) (o : Nat) (ks : List CK), kindsF P K fs o = some ks → ∀ cs : List Value, Fits ks ((cs.drop o).take ks.length) →
      (∀ f ∈ fs, (f.name != "_") = true) ∧ ∃ xs, fs.mapM (fun f => P.keyLits d f.type ((cs.drop f.offset).take (P.cellsOf f.type))) = some xs
  | [], _, _, _, _, _ => ⟨by simp, [], rfl⟩
  | f :: r, o, ks, h, cs, hc => by
    unfold kindsF at h
    split at h
    case isFalse => cases h
    case isTrue hf =>
      obtain ⟨a, ha, h⟩ := Option.bind_eq_some_iff.1 h
      split at h
      case isFalse => cases h
      case isTrue hl =>
        obtain ⟨b, hb, rfl⟩ := Option.map_eq_some_iff.1 h
        obtain ⟨s1, s2⟩ := fits_split hc
        rw [List.take_take, List.length_append, Nat.min_eq_left (by omega)] at s1
        have s2' : Fits b ((cs.drop (o + a.length)).take b.length) := by
          rw [List.drop_take, List.length_append, List.drop_drop] at s2
          simpa using s2
        obtain ⟨n1, xs, hx⟩ := kindsF_lits hK r (o + a.length) b hb cs s2'
        obtain ⟨ls, hls⟩ := hK _ _ ha _ s1
        refine ⟨fun g hg => ?_, ls :: xs, ?_⟩
        · rcases List.mem_cons.1 hg with rfl | hg
          · exact hf.2
          · exact n1 g hg
        · rw [List.mapM_cons, hf.1, ← hl, hls]
          simp only [Option.bind_eq_bind, Option.bind_some, hx]
          rfl
set_option maxRecDepth 20000 in
theorem rep_lits {d : Nat} {e : TypeId} {a : List CK} {c : Nat} (hl : a.length = c) (hK : ∀ cs, Fits a cs → ∃ ls, P.keyLits d e cs = some ls) (cs : List Value) :
    ∀ (m s : Nat), Fits (List.replicate m a).flatten ((cs.drop (s * c)).take (m * c)) → ∃ xs, (List.range' s m).mapM (fun i => P.keyLits d e ((cs.drop (i * c)).take c)) = some xs
  | 0, _, _ => ⟨[], rfl⟩
  | m + 1, s, h => by
    rw [List.replicate_succ, List.flatten_cons] at h
    obtain ⟨s1, s2⟩ := fits_split h
    rw [hl] at s1 s2
    rw [List.take_take, Nat.min_eq_left (by rw [Nat.add_mul]; omega)] at s1
    have s2' : Fits (List.replicate m a).flatten ((cs.drop ((s + 1) * c)).take (m * c)) := by
      rw [List.drop_take, List.drop_drop] at s2
      rw [Nat.add_mul, Nat.one_mul]
      rw [Nat.add_mul, Nat.one_mul, Nat.add_sub_cancel] at s2
      exact s2
    obtain ⟨xs, hx⟩ := rep_lits hl hK cs m (s + 1) s2'
    obtain ⟨ls, hls⟩ := hK _ s1
    refine ⟨ls :: xs, ?_⟩
    rw [List.range'_succ, List.mapM_cons, hls]
    simp only [Option.bind_eq_bind, Option.bind_some, hx]
    rfl
set_option maxRecDepth 20000 in
theorem kinds_lits : ∀ (d : Nat) (t : TypeId) (ks : List CK), kinds P d t = some ks → ∀ cs : List Value, Fits ks cs → ∃ ls, P.keyLits d t cs = some ls
  | 0, _, _, h, _, _ => by simp [kinds] at h
  | d + 1, t, ks, h, cs, hc => by
    unfold kinds at h
    unfold Program.keyLits
    split at h
    case h_1 hu =>
      cases h
      rw [hu]
      match cs, hc with
      | [.bool b], _ => exact ⟨_, rfl⟩
    case h_2 k hu =>
      cases h
      rw [hu]
      match cs, hc with
      | [.int q n], hc => exact ⟨[.int k n], by simp [hc.1.1, hc.1.2]⟩
    case h_3 n e hu =>
      rw [hu]
      obtain ⟨a, ha, h⟩ := Option.bind_eq_some_iff.1 h
      split at h
      case isFalse => cases h
      case isTrue hl =>
        cases h
        have hlen := hc.len
        simp only [List.length_flatten, List.map_replicate, List.sum_replicate_nat] at hlen
        obtain ⟨xs, hx⟩ := rep_lits hl.1 (kinds_lits d e a ha) cs n 0 (by
          rw [Nat.zero_mul, List.drop_zero, List.take_of_length_le (by rw [hlen, hl.1]; exact Nat.le_refl _)]
          exact hc)
        refine ⟨xs.flatten, ?_⟩
        simp only
        rw [if_pos (by rw [hlen, hl.1, hl.2]), List.range_eq_range', hx]
        rfl
    case h_4 fs hu =>
      rw [hu]
      obtain ⟨a, ha, h⟩ := Option.bind_eq_some_iff.1 h
      split at h
      case isFalse => cases h
      case isTrue hl =>
        cases h
        have hlen := hc.len
        obtain ⟨n1, xs, hx⟩ := kindsF_lits (kinds_lits d) fs.toList 0 ks ha cs (by
          rw [List.drop_zero, List.take_of_length_le (by rw [hlen]; exact Nat.le_refl _)]
          exact hc)
        refine ⟨xs.flatten, ?_⟩
        simp only
        rw [if_pos ⟨by rw [hlen, hl], Array.all_eq_true_iff_forall_mem.2 fun f hf => n1 f (Array.mem_toList_iff.2 hf)⟩, hx]
        rfl
    case h_5 => cases h

set_option maxRecDepth 20000 in
theorem kindsF_trod {H : Type} {enc : TypeId × Value → H} {w : World} {base : Nat} {spare : Nat → Bool} {held : Bool} {fuel : Nat} {K : TypeId → Option (List CK)}
    (hK : ∀ t ks, K t = some ks → ∀ cs x, DataW.trod enc P w base spare held fuel t cs = some x → Fits ks cs) :
    ∀ (fs : List Field) (o : Nat) (ks : List CK), kindsF P K fs o = some ks → ∀ (cs : List Value) xs, fs.mapM (fun f => DataW.trod enc P w base spare held fuel f.type ((cs.drop f.offset).take (P.cellsOf f.type))) = some xs → Fits ks ((cs.drop o).take ks.length)
  | [], _, ks, h, cs, _, _ => by
    unfold kindsF at h
    cases h
    rw [List.length_nil, List.take_zero]
    trivial
  | f :: r, o, ks, h, cs, xs, hx => by
    unfold kindsF at h
    split at h
    case isFalse => cases h
    case isTrue hf =>
      obtain ⟨a, ha, h⟩ := Option.bind_eq_some_iff.1 h
      split at h
      case isFalse => cases h
      case isTrue hl =>
        obtain ⟨b, hb, rfl⟩ := Option.map_eq_some_iff.1 h
        rw [List.mapM_cons] at hx
        simp only [Option.bind_eq_bind] at hx
        obtain ⟨y, hy, hx⟩ := Option.bind_eq_some_iff.1 hx
        obtain ⟨ys, hys, _⟩ := Option.bind_eq_some_iff.1 hx
        have s1 := hK _ _ ha _ _ hy
        rw [hf.1, ← hl] at s1
        have s2 := kindsF_trod hK r (o + a.length) b hb cs ys hys
        have := fits_append s1 s2
        rw [List.length_append, List.take_add, List.drop_drop]
        exact this
set_option maxRecDepth 20000 in
theorem rep_trod {H : Type} {enc : TypeId × Value → H} {w : World} {base : Nat} {spare : Nat → Bool} {held : Bool} {fuel : Nat} {e : TypeId} {a : List CK} {c : Nat}
    (hK : ∀ cs x, DataW.trod enc P w base spare held fuel e cs = some x → Fits a cs) (cs : List Value) :
    ∀ (m s : Nat) xs, (List.range' s m).mapM (fun i => DataW.trod enc P w base spare held fuel e ((cs.drop (i * c)).take c)) = some xs → Fits (List.replicate m a).flatten ((cs.drop (s * c)).take (m * c))
  | 0, _, _, _ => by simp [Fits]
  | m + 1, s, xs, hx => by
    rw [List.range'_succ, List.mapM_cons] at hx
    simp only [Option.bind_eq_bind] at hx
    obtain ⟨y, hy, hx⟩ := Option.bind_eq_some_iff.1 hx
    obtain ⟨ys, hys, _⟩ := Option.bind_eq_some_iff.1 hx
    have s1 := hK _ _ hy
    have s2 := rep_trod hK cs m (s + 1) ys hys
    have := fits_append s1 s2
    rw [List.replicate_succ, List.flatten_cons, Nat.add_mul, Nat.one_mul, Nat.add_comm (m * c) c, List.take_add, List.drop_drop]
    rw [Nat.add_mul, Nat.one_mul] at this
    exact this
set_option maxRecDepth 20000 in
theorem kinds_trod {H : Type} {enc : TypeId × Value → H} {w : World} {base : Nat} {spare : Nat → Bool} {held : Bool} : ∀ (d fuel : Nat) (t : TypeId) (ks : List CK), kinds P d t = some ks → ∀ (cs : List Value) x, DataW.trod enc P w base spare held fuel t cs = some x → Fits ks cs
  | 0, _, _, _, h, _, _, _ => by simp [kinds] at h
  | d + 1, 0, _, _, _, _, _, hx => by simp [DataW.trod] at hx
  | d + 1, fuel + 1, t, ks, h, cs, x, hx => by
    unfold kinds at h
    unfold DataW.trod at hx
    split at h
    case h_1 hu =>
      cases h
      rw [hu] at hx
      split at hx <;> simp_all [Fits, CK.fits]
    case h_2 k hu =>
      cases h
      rw [hu] at hx
      split at hx <;> simp_all [Fits, CK.fits]
    case h_3 n e hu =>
      rw [hu] at hx
      obtain ⟨a, ha, h⟩ := Option.bind_eq_some_iff.1 h
      split at h
      case isFalse => cases h
      case isTrue hl =>
        cases h
        simp only at hx
        split at hx
        case isFalse => cases hx
        case isTrue hlen =>
          obtain ⟨xs, hxs, _⟩ := Option.map_eq_some_iff.1 hx
          rw [List.range_eq_range'] at hxs
          have := rep_trod (kinds_trod d fuel e a ha) cs n 0 xs hxs
          rw [Nat.zero_mul, List.drop_zero, List.take_of_length_le (by rw [hlen, hl.2]; exact Nat.le_refl _)] at this
          exact this
    case h_4 fs hu =>
      rw [hu] at hx
      obtain ⟨a, ha, h⟩ := Option.bind_eq_some_iff.1 h
      split at h
      case isFalse => cases h
      case isTrue hl =>
        cases h
        simp only at hx
        split at hx
        case isFalse => cases hx
        case isTrue hlen =>
          obtain ⟨xs, hxs, _⟩ := Option.map_eq_some_iff.1 hx
          have := kindsF_trod (kinds_trod d fuel) fs.toList 0 ks ha cs xs hxs
          rw [List.drop_zero, List.take_of_length_le (by rw [hlen, hl]; exact Nat.le_refl _)] at this
          exact this
    case h_5 => cases h
set_option maxRecDepth 20000 in
theorem kinds_len : ∀ {d : Nat} {t : TypeId} {ks : List CK}, kinds P d t = some ks → (∃ n e, P.underlying t = some (.array n e)) ∨ (∃ fs, P.underlying t = some (.struct fs)) → ks.length = P.cellsOf t
  | 0, _, _, h, _ => by simp [kinds] at h
  | d + 1, t, ks, h, hr => by
    unfold kinds at h
    rcases hr with ⟨n, e, hu⟩ | ⟨fs, hu⟩
    · rw [hu] at h
      obtain ⟨a, ha, h⟩ := Option.bind_eq_some_iff.1 h
      split at h
      case isFalse => cases h
      case isTrue hl =>
        cases h
        simp only [List.length_flatten, List.map_replicate, List.sum_replicate_nat]
        rw [hl.1, hl.2]
    · rw [hu] at h
      obtain ⟨a, ha, h⟩ := Option.bind_eq_some_iff.1 h
      split at h
      case isFalse => cases h
      case isTrue hl =>
        cases h
        exact hl
/-- whole types -/
def wholeB (P : Program) (t : TypeId) : Bool := match P.underlying t with | some (.array _ _) | some (.struct _) => true | _ => false
set_option maxRecDepth 20000 in
theorem keyOf_fits {d : Nat} {t : TypeId} {ks : List CK} (hw : wholeB P t = true) (hk : P.keyType t = true) (hd : d = P.types.size + 1) (h : kinds P d t = some ks) {cs : List Value} (hc : Fits ks cs) : ∃ l, keyOf P t (.agg cs.toArray) = some l := by
  obtain ⟨ls, hls⟩ := kinds_lits d t ks h cs hc
  subst hd
  unfold wholeB at hw
  unfold keyOf
  split at hw
  · rename_i n e hu
    have hl := kinds_len h (.inl ⟨n, e, hu⟩)
    have hf : (Value.agg cs.toArray).formed P t = true := by
      simp only [Value.formed, hu]
      simp [hc.len, hl]
    rw [hu]
    simp only [hk, hf, Bool.and_self, if_true]
    exact ⟨_, by rw [show (Value.agg cs.toArray).cells.toList = cs from rfl, hls]; rfl⟩
  · rename_i fs hu
    have hl := kinds_len h (.inr ⟨fs, hu⟩)
    have hf : (Value.agg cs.toArray).formed P t = true := by
      simp only [Value.formed, hu]
      simp [hc.len, hl]
    rw [hu]
    simp only [hk, hf, Bool.and_self, if_true]
    exact ⟨_, by rw [show (Value.agg cs.toArray).cells.toList = cs from rfl, hls]; rfl⟩
  · cases hw
end
end Go.Proofs.Ytcflebggepmmcaa
/- Whole structs over this program: loaded, stored, compared. -/
namespace Go.Proofs.Ytcflebggepmmcaa
open Go.RowKit

noncomputable def ksOf (T : TypeId) : List CK := (kinds Try.prog (Try.prog.types.size + 1) T).getD []
/-- are two rows of cells one? -/
noncomputable def eqA (xs ys : Array Value) : Bool := @decide (xs = ys) (Classical.propDecidable _)
set_option maxRecDepth 20000 in
theorem eqA_iff {xs ys : Array Value} : eqA xs ys = true ↔ xs = ys := by unfold eqA; exact @decide_eq_true_iff _ (Classical.propDecidable _)
set_option maxRecDepth 20000 in
theorem eqA_self (xs : Array Value) : eqA xs xs = true := eqA_iff.2 rfl
/-- a struct or an array that can be a key: of n cells -/
class FlatT (T : TypeId) (n : outParam Nat) : Prop where
  whole : wholeB Try.prog T = true
  key : Try.prog.keyType T = true
  lt : decide (T < Try.prog.types.size) = true
  ks : kinds Try.prog (Try.prog.types.size + 1) T = some (ksOf T)
  len : (ksOf T).length = n
  info : (Try.prog.info? T).map (·.size) = some n
/-- a struct or an array of n cells -/
class RowT (T : TypeId) (n : outParam Nat) : Prop where
  row : (match Try.prog.underlying T with | some d => d.isRow | none => false) = true
  info : (Try.prog.info? T).map (·.size) = some n
class SzA (cs : Array Value) (n : outParam Nat) : Prop where
  out : cs.size = n
class OneA (cs : Array Value) : Prop where
  out : cs.all (·.oneCell') = true
set_option maxRecDepth 20000 in
theorem smallP : Try.prog.types.size + 2 ≤ 10000 := by decide
set_option maxRecDepth 20000 in
theorem laidP : laidOutB Try.prog = true := by kernel_rfl
set_option maxRecDepth 20000 in
theorem law_flat {T : TypeId} {n : Nat} (h : FlatT T n) : Maps.Keyed Try.prog T := by
  have hw := h.whole
  unfold wholeB at hw
  exact Maps.Keyed.of_law (deep_law_gate laidP smallP (of_decide_eq_true h.lt) h.key hw)
set_option maxRecDepth 20000 in
theorem key_flat {T : TypeId} {n : Nat} (h : FlatT T n) {cs : Array Value} (hc : Fits (ksOf T) cs.toList) : ∃ l, keyOf Try.prog T (.agg cs) = some l :=
  keyOf_fits h.whole h.key rfl h.ks hc
set_option maxRecDepth 20000 in
theorem run_eql_flat {T : TypeId} {n : Nat} (h : FlatT T n) (w : World) {xs ys : Array Value} (hx : Fits (ksOf T) xs.toList) (hy : Fits (ksOf T) ys.toList) :
    (binOp .eql T (.agg xs) (.agg ys)).run Try.prog w = .ok (.bool (eqA xs ys)) w := by
  obtain ⟨lx, ex⟩ := key_flat h hx
  obtain ⟨ly, ey⟩ := key_flat h hy
  have hw := h.whole
  unfold wholeB at hw
  obtain ⟨r, hr, hiff⟩ := run_equal_deep (P := Try.prog) w (m := Try.prog.types.size + 1) (by have := smallP; omega) h.key hw ex ey
  rw [run_eql_struct]
  have hr' : (Op.equalIn 10000 T (.agg xs) (.agg ys)).run Try.prog w = .ok r w := hr
  rw [hr', Result.andThen_ok]
  have e : r = eqA xs ys := by
    rw [Bool.eq_iff_iff, hiff, eqA_iff]
    constructor
    · intro e
      have := (law_flat h).inj ex (e ▸ ey)
      injection this
    · intro e
      subst e
      rw [ex] at ey
      injection ey
  rw [e]
set_option maxRecDepth 20000 in
theorem run_neq_flat {T : TypeId} {n : Nat} (h : FlatT T n) (w : World) {xs ys : Array Value} (hx : Fits (ksOf T) xs.toList) (hy : Fits (ksOf T) ys.toList) :
    (binOp .neq T (.agg xs) (.agg ys)).run Try.prog w = .ok (.bool (!eqA xs ys)) w := by
  have e := run_eql_flat h w hx hy
  rw [run_eql_struct] at e
  rw [run_neq_struct]
  cases hq : (Op.equalIn 10000 T (.agg xs) (.agg ys)).run Try.prog w with
  | ok b w' =>
    rw [hq, Result.andThen_ok] at e
    rw [Result.andThen_ok]
    injection e with e1 e2
    injection e1 with e1
    rw [e1, e2]
  | _ => rw [hq] at e; cases e
/-- folded operations: their laws speak of whole structs -/
def loadF (T : TypeId) (v : Value) : Sem Value := Instr.loadAt T v
def storeF (T : TypeId) (v x : Value) : Sem Unit := Instr.storeAt T v x
def eqlF (T : TypeId) (x y : Value) : Sem Value := binOp .eql T x y
def neqF (T : TypeId) (x y : Value) : Sem Value := binOp .neq T x y
def buildF (T : TypeId) (l : Array (Nat × Value)) : Sem Value := Instr.build T l
/-- cells from o on, n of them, in the place of what was there -/
def splice (cs : Array Value) (o : Nat) (v : Array Value) : Array Value := cs.extract 0 o ++ v ++ cs.extract (o + v.size) cs.size
set_option maxRecDepth 20000 in
theorem run_loadF (T : TypeId) (n : Nat) [h : RowT T n] (w : World) (g o : Nat) (t : TypeId) (cs : Array Value) (k : Nat) [b : Blk w g t cs] [z : SzA cs k] (hk : o + n ≤ k) :
    (loadF T (.pointer (some ⟨g, o, none⟩))).run Try.prog w = .ok (.agg (cs.extract o (o + n))) w := by
  have hr := h.row
  split at hr
  case h_2 => cases hr
  case h_1 d hu =>
    have hz := z.out
    have e : cs.extract o (o + n) = ((cs.toList.drop o).take n).toArray := by
      apply Array.toList_inj.1
      simp [Array.toList_extract]
    rw [e]
    refine run_loadAt_mid w g o T _ d ?_ hu hr ?_
    · intro j v hv
      rw [blk_cell b]
      rw [List.getElem?_take] at hv
      split at hv
      · rw [List.getElem?_drop] at hv
        rw [← hv]; simp
      · cases hv
    · rw [h.info]
      congr 1
      simp
      omega
set_option maxRecDepth 20000 in
theorem run_loadF0 (T : TypeId) (n : Nat) [h : RowT T n] (w : World) (g : Nat) (t : TypeId) (cs : Array Value) [b : Blk w g t cs] [z : SzA cs n] :
    (loadF T (.pointer (some ⟨g, 0, none⟩))).run Try.prog w = .ok (.agg cs) w := by
  have := run_loadF T n w g 0 t cs n (Nat.le_of_eq (Nat.zero_add n))
  have hz := z.out
  rw [this]
  congr 2
  simp [← hz]
set_option maxRecDepth 20000 in
theorem run_storeF0 (T : TypeId) (n : Nat) [h : RowT T n] (w : World) (g : Nat) (t : TypeId) (cs v : Array Value) [b : Blk w g t cs] [z : SzA cs n] [y : SzA v n] [o : OneA v] :
    (storeF T (.pointer (some ⟨g, 0, none⟩)) (.agg v)).run Try.prog w = .ok () (w.setRow g v) := by
  unfold storeF Instr.storeAt
  simp only [Instr.sureAddr, Sem.run_bind, Sem.run_pure, Result.andThen_ok]
  exact run_storeVar_row w g t T cs v b.out (by rw [y.out]; exact h.info) (by rw [z.out, y.out]) o.out

set_option maxRecDepth 20000 in
instance fl_wide : FlatT 32 2 := ⟨by kernel_rfl, by kernel_rfl, by kernel_rfl, by kernel_rfl, by kernel_rfl, by kernel_rfl⟩
set_option maxRecDepth 20000 in
instance fl_ends : FlatT 38 18 := ⟨by kernel_rfl, by kernel_rfl, by kernel_rfl, by kernel_rfl, by kernel_rfl, by kernel_rfl⟩
set_option maxRecDepth 20000 in
instance fl_key : FlatT 72 37 := ⟨by kernel_rfl, by kernel_rfl, by kernel_rfl, by kernel_rfl, by kernel_rfl, by kernel_rfl⟩
set_option maxRecDepth 20000 in
instance fl_head : FlatT 63 16 := ⟨by kernel_rfl, by kernel_rfl, by kernel_rfl, by kernel_rfl, by kernel_rfl, by kernel_rfl⟩
set_option maxRecDepth 20000 in
instance row_wide : RowT 32 2 := ⟨by kernel_rfl, by kernel_rfl⟩
set_option maxRecDepth 20000 in
instance row_ends : RowT 38 18 := ⟨by kernel_rfl, by kernel_rfl⟩
set_option maxRecDepth 20000 in
instance row_key : RowT 72 37 := ⟨by kernel_rfl, by kernel_rfl⟩
set_option maxRecDepth 20000 in
instance row_head : RowT 63 16 := ⟨by kernel_rfl, by kernel_rfl⟩
set_option maxRecDepth 20000 in
instance row_dg : RowT 41 39 := ⟨by kernel_rfl, by kernel_rfl⟩
set_option maxRecDepth 20000 in
instance row_pk : RowT 66 18 := ⟨by kernel_rfl, by kernel_rfl⟩
end Go.Proofs.Ytcflebggepmmcaa
/- A struct stored into the midst of a block; literal rows; results. -/
namespace Go.Proofs.Ytcflebggepmmcaa
open Go.RowKit

set_option maxRecDepth 20000 in
instance (l : List Value) (n : Nat) [h : LenL l n] : SzA l.toArray n := ⟨by rw [List.size_toArray]; exact h.out⟩
set_option maxRecDepth 20000 in
instance (l : List Value) [h : OneL l] : OneA l.toArray := ⟨by rw [Array.all_eq_true_iff_forall_mem]; intro v hv; exact h.out v (by simpa using hv)⟩
set_option maxRecDepth 20000 in
theorem one_of_fits {T : TypeId} {cs : Array Value} (h : Fits (ksOf T) cs.toList) : OneA cs := ⟨by rw [Array.all_eq_true_iff_forall_mem]; intro v hv; exact h.one v (by simpa using hv)⟩
set_option maxRecDepth 20000 in
instance one_append (a b : Array Value) [ha : OneA a] [hb : OneA b] : OneA (a ++ b) := ⟨by rw [Array.all_append, ha.out, hb.out]; rfl⟩
set_option maxRecDepth 20000 in
theorem setCell_row {w : World} {g : Nat} {t : TypeId} {cs : Array Value} (b : Blk w g t cs) (o : Nat) (v : Value) : w.setCell ⟨g, o, none⟩ v = w.setRow g (cs.setIfInBounds o v) := by
  have h1 := heap_setCell_same w g o cs t v b.out
  show World.mk _ _ _ _ _ = World.mk _ _ _ _ _
  congr 1
  refine Array.ext_getElem? fun k => ?_
  by_cases e : g = k
  · subst e
    have h2 := setRow_heap w g cs (cs.setIfInBounds o v) t (0, 0) b.out
    exact h1.trans h2.symm
  · have h2 := heap_setCell_other w ⟨g, o, none⟩ k v (Ne.symm e)
    have h3 := setRow_get_ne w g k (cs.setIfInBounds o v) e
    exact h2.trans h3.symm
set_option maxRecDepth 20000 in
theorem setRow_setRow (w : World) (g : Nat) (a b : Array Value) : (w.setRow g a).setRow g b = w.setRow g b := by
  show World.mk _ _ _ _ _ = World.mk _ _ _ _ _
  congr 1
  refine Array.ext_getElem? fun k => ?_
  by_cases e : g = k
  · subst e
    simp only [World.setRow, Array.getElem?_modify, if_true, Option.map_map]
    cases w.heap[g]? with
    | none => rfl
    | some o => cases o <;> rfl
  · simp only [World.setRow, Array.getElem?_modify, if_neg e]
def spliceL (cs : List Value) (o : Nat) (v : List Value) : List Value := cs.take o ++ v ++ cs.drop (o + v.length)
set_option maxRecDepth 20000 in
theorem spliceL_cons (cs : List Value) (o : Nat) (x : Value) (v : List Value) (h : o < cs.length) : spliceL (cs.set o x) (o + 1) v = spliceL cs o (x :: v) := by
  unfold spliceL
  have e1 : (cs.set o x).take (o + 1) = cs.take o ++ [x] := by
    rw [List.take_add_one, List.take_set, List.getElem?_set_self h, List.set_eq_of_length_le (by rw [List.length_take]; omega)]
    rfl
  have e2 : (cs.set o x).drop (o + 1 + v.length) = cs.drop (o + (x :: v).length) := by
    rw [List.drop_set, if_pos (by omega), List.length_cons]
    congr 1
    omega
  rw [e1, e2]
  simp
set_option maxRecDepth 20000 in
theorem setCells_row : ∀ (v : List Value) (o : Nat) (w : World) (g : Nat) (t : TypeId) (cs : List Value), Blk w g t cs.toArray → o + v.length ≤ cs.length → w.setCells g o v = w.setRow g (spliceL cs o v).toArray
  | [], o, w, g, t, cs, b, _ => by
    have e : spliceL cs o [] = cs := by unfold spliceL; simp
    rw [e]
    show w = _
    show World.mk _ _ _ _ _ = World.mk _ _ _ _ _
    congr 1
    refine Array.ext_getElem? fun k => ?_
    by_cases e : g = k
    · subst e
      rw [b.out]
      exact (setRow_heap w g cs.toArray cs.toArray t (0, 0) b.out).symm
    · exact (setRow_get_ne w g k cs.toArray e).symm
  | x :: v, o, w, g, t, cs, b, h => by
    rw [List.length_cons] at h
    have e : w.setCell ⟨g, o, none⟩ x = w.setRow g (cs.set o x).toArray := by rw [setCell_row b]; simp
    rw [World.setCells, e, setCells_row v (o + 1) _ g t (cs.set o x) (blk_setRow b) (by rw [List.length_set]; omega), setRow_setRow, spliceL_cons _ _ _ _ (by omega)]
set_option maxRecDepth 20000 in
theorem run_storeF (T : TypeId) (n : Nat) [h : RowT T n] (w : World) (g o : Nat) (t : TypeId) (cs v : List Value) (k : Nat) [b : Blk w g t cs.toArray] [z : SzA cs.toArray k] [y : SzA v.toArray n] [q : OneA v.toArray] (hk : o + n ≤ k) :
    (storeF T (.pointer (some ⟨g, o, none⟩)) (.agg v.toArray)).run Try.prog w = .ok () (w.setRow g (spliceL cs o v).toArray) := by
  have z1 : cs.length = k := by have := z.out; simpa using this
  have y1 : v.length = n := by have := y.out; simpa using this
  unfold storeF
  rw [run_storeAt_mid w g o T v.toArray (fun j hj => ⟨by rw [blk_cell b]; simp; simp at hj; omega, blk_frozen b _⟩) (by rw [h.info]; simp [y1]) q.out]
  rw [setCells_row v o w g t cs b (by omega)]
set_option maxRecDepth 20000 in
theorem run_loadFo (T : TypeId) (n : Nat) [h : RowT T n] (w : World) (g o : Nat) (t : TypeId) (cs : Array Value) (k : Nat) [b : Blk w g t cs] [z : SzA cs k] (_h0 : 0 < o) (hk : o + n ≤ k) :
    (loadF T (.pointer (some ⟨g, o, none⟩))).run Try.prog w = .ok (.agg (cs.extract o (o + n))) w := run_loadF T n w g o t cs k hk
set_option maxRecDepth 20000 in
theorem run_loadFz (T : TypeId) (n : Nat) [h : RowT T n] (w : World) (g : Nat) (t : TypeId) (cs : Array Value) (k : Nat) [b : Blk w g t cs] [z : SzA cs k] (hk : n < k) :
    (loadF T (.pointer (some ⟨g, 0, none⟩))).run Try.prog w = .ok (.agg (cs.extract 0 n)) w := by
  have := run_loadF T n w g 0 t cs k (by omega)
  rwa [Nat.zero_add] at this
set_option maxRecDepth 20000 in
theorem loadVar_flat (T : TypeId) {n : Nat} [h : RowT T n] {w : World} {g : Nat} {t : TypeId} {cs : Array Value} (b : Blk w g t cs) (hs : cs.size = n) : (loadVar T ⟨g, 0, none⟩).run Try.prog w = .ok (.agg cs) w := by
  have : SzA cs n := ⟨hs⟩
  have := run_loadF0 T n w g t cs
  unfold loadF Instr.loadAt at this
  simpa only [Instr.sureAddr, Sem.run_bind, Sem.run_pure, Result.andThen_ok] using this
end Go.Proofs.Ytcflebggepmmcaa
