/- Numbers of 20 pieces (horologeref01.Num), as values and in memory; no function walked yet. -/
import Derived.Test.YtdgmcgfkammioaaProg
import Derived.Test.YtdgmcgfkammioaaMo
import Derived.Laws.Rows
namespace Go.Proofs.Ytdgmcgfkammioaa
open Go.RowKit

/-! ### the cells of a Num: a bool and 20 pieces -/
def numL (b : Bool) (l : Nat → Int) : List Value := .bool b :: (List.range 20).map fun i => .int .u64 (l i)
def numC (b : Bool) (l : Nat → Int) : Array Value := (numL b l).toArray
abbrev NV (b : Bool) (l : Nat → Int) : Value := .agg (numC b l)
def upd (l : Nat → Int) (i : Nat) (x : Int) : Nat → Int := fun j => if j = i then x else l j
set_option maxRecDepth 20000 in
theorem numC_size (b : Bool) (l : Nat → Int) : (numC b l).size = 21 := by simp [numC, numL]
set_option maxRecDepth 20000 in
theorem numC_0 (b : Bool) (l : Nat → Int) : (numC b l)[0]? = some (.bool b) := by simp [numC, numL]
set_option maxRecDepth 20000 in
theorem numC_get (b : Bool) (l : Nat → Int) (i : Nat) (h : i < 20) : (numC b l)[1 + i]? = some (.int .u64 (l i)) := by
  rw [Nat.add_comm]; simp [numC, numL, h]
set_option maxRecDepth 20000 in
theorem numC_ext {cs : Array Value} {b : Bool} {l : Nat → Int} (h : cs.size = 21) (h0 : cs[0]? = some (.bool b)) (h1 : ∀ i, i < 20 → cs[1 + i]? = some (.int .u64 (l i))) : cs = numC b l := by
  refine Array.ext_getElem? fun i => ?_
  rcases Nat.lt_or_ge i 21 with c | c
  · cases i with
    | zero => rw [h0, numC_0]
    | succ j => rw [show j + 1 = 1 + j by omega, h1 j (by omega), numC_get b l j (by omega)]
  · rw [Array.getElem?_eq_none (by omega), Array.getElem?_eq_none (by rw [numC_size]; omega)]
set_option maxRecDepth 20000 in
theorem numC_set (b : Bool) (l : Nat → Int) (i : Nat) (x : Int) (h : i < 20) : (numC b l).setIfInBounds (1 + i) (.int .u64 x) = numC b (upd l i x) := by
  refine numC_ext (by simp [numC_size]) ?_ ?_
  · rw [Array.getElem?_setIfInBounds_ne (by omega), numC_0]
  · intro j hj
    unfold upd
    by_cases c : j = i
    · subst c; rw [if_pos rfl, Array.getElem?_setIfInBounds_self_of_lt (by rw [numC_size]; omega)]
    · rw [if_neg c, Array.getElem?_setIfInBounds_ne (by omega), numC_get b l j hj]
set_option maxRecDepth 20000 in
theorem numC_set0 (b c : Bool) (l : Nat → Int) : (numC b l).setIfInBounds 0 (.bool c) = numC c l := by
  refine numC_ext (by simp [numC_size]) ?_ ?_
  · rw [Array.getElem?_setIfInBounds_self_of_lt (by rw [numC_size]; omega)]
  · intro j hj; rw [Array.getElem?_setIfInBounds_ne (by omega), numC_get b l j hj]
set_option maxRecDepth 20000 in
theorem numC_congr {b : Bool} {l l' : Nat → Int} (h : ∀ i, i < 20 → l i = l' i) : numC b l = numC b l' :=
  numC_ext (numC_size _ _) (numC_0 _ _) fun i hi => by rw [numC_get b l i hi, h i hi]
set_option maxRecDepth 20000 in
theorem zeroC (b : Bool) : numC b (fun _ => 0) = #[.bool b, .int .u64 0, .int .u64 0, .int .u64 0, .int .u64 0, .int .u64 0, .int .u64 0, .int .u64 0, .int .u64 0, .int .u64 0, .int .u64 0,
    .int .u64 0, .int .u64 0, .int .u64 0, .int .u64 0, .int .u64 0, .int .u64 0, .int .u64 0, .int .u64 0, .int .u64 0, .int .u64 0] := by rfl

/-! ### a block that is known whole, found by the world's form -/
class Blk (w : World) (g : Nat) (t : outParam TypeId) (cs : outParam (Array Value)) : Prop where
  out : w.heap[g]? = some (.cells cs t (0, 0))
set_option maxRecDepth 20000 in
theorem Blk.lt {w : World} {g : Nat} {t : TypeId} {cs : Array Value} (h : Blk w g t cs) : g < w.heap.size := by
  rcases Nat.lt_or_ge g w.heap.size with c | c
  · exact c
  · have := h.out; rw [Array.getElem?_eq_none c] at this; cases this
set_option maxRecDepth 20000 in
instance (priority := low) (w : World) (t : TypeId) (cs : Array Value) (g : Nat) [h : SizeIs w g] : Blk (w.alloc (.cells cs t)) g t cs := ⟨by rw [← h.out]; exact heap_alloc_new w _⟩
set_option maxRecDepth 20000 in
instance (w : World) (o : Obj) (g : Nat) (t : TypeId) (cs : Array Value) [h : Blk w g t cs] : Blk (w.alloc o) g t cs := ⟨(Below.heap_alloc w o g h.lt).trans h.out⟩
set_option maxRecDepth 20000 in
instance (w : World) (J : Array Obj) (d g : Nat) (t : TypeId) (cs : Array Value) [h : Blk w g t cs] : Blk (more w J d) g t cs := ⟨(more_get w J d g h.lt).trans h.out⟩
set_option maxRecDepth 20000 in
instance (w : World) (g : Nat) (t : TypeId) (cs : Array Value) [h : Blk w g t cs] : Blk w.drew g t cs := ⟨h.out⟩
set_option maxRecDepth 20000 in
instance (w : World) (k g : Nat) (t : TypeId) (cs : Array Value) [h : Blk w g t cs] : Blk (w.drewN k) g t cs := ⟨h.out⟩
set_option maxRecDepth 20000 in
theorem infoN : (Try.prog.info? 107).map (·.size) = some 21 := by kernel_rfl
/-- a whole Num is loaded -/
class Sz21 (cs : Array Value) : Prop where
  out : cs.size = 21
set_option maxRecDepth 20000 in
instance (b : Bool) (l : Nat → Int) : Sz21 (numC b l) := ⟨numC_size b l⟩
set_option maxRecDepth 20000 in
theorem run_loadNum (w : World) (g : Nat) (t : TypeId) (cs : Array Value) [h : Blk w g t cs] [z : Sz21 cs] : (loadVar 107 ⟨g, 0, none⟩).run Try.prog w = .ok (.agg cs) w :=
  run_loadVar_row w g t 107 cs (0, 0) _ h.out Try.underlying107 rfl (by rw [z.out]; exact infoN)
set_option maxRecDepth 20000 in
theorem numC_one (b : Bool) (l : Nat → Int) : (numC b l).all (·.oneCell') = true := by
  rw [Array.all_eq_true_iff_forall_mem]
  intro v hv
  simp only [numC, numL, List.mem_toArray, List.mem_cons, List.mem_map] at hv
  rcases hv with rfl | ⟨i, _, rfl⟩ <;> rfl
set_option maxRecDepth 20000 in
/-- a whole Num is stored -/
theorem run_storeNum (w : World) (g : Nat) (t : TypeId) (b : Bool) (l : Nat → Int) (cs : Array Value) [h : Blk w g t cs] [z : Sz21 cs] : (storeVar 107 ⟨g, 0, none⟩ (.agg (numC b l))).run Try.prog w = .ok () (w.setRow g (numC b l)) :=
  run_storeVar_row w g t 107 cs (numC b l) h.out (by rw [numC_size]; exact infoN) (by rw [z.out, numC_size]) (numC_one b l)
set_option maxRecDepth 20000 in
theorem setRow_alloc_at (w : World) (g : Nat) (t : TypeId) (cs cs' : Array Value) [h : SizeIs w g] : (w.alloc (.cells cs t)).setRow g cs' = w.alloc (.cells cs' t) := by
  have := h.out
  subst this
  show World.mk _ _ _ _ _ = World.mk _ _ _ _ _
  congr 1
  refine Array.ext_getElem? fun k => ?_
  show ((w.heap.push (.cells cs t)).modify w.heap.size _)[k]? = (w.heap.push (.cells cs' t))[k]?
  simp only [Array.getElem?_modify, Array.getElem?_push]
  by_cases c : k = w.heap.size
  · subst c; simp
  · rw [if_neg (fun e => c e.symm), if_neg c, if_neg c]
set_option maxRecDepth 20000 in
theorem setRow_alloc_past (w : World) (g : Nat) (o : Obj) (cs : Array Value) [h : LtW g w] : (w.alloc o).setRow g cs = (w.setRow g cs).alloc o := by
  have := h.out
  show World.mk _ _ _ _ _ = World.mk _ _ _ _ _
  congr 1
  refine Array.ext_getElem? fun k => ?_
  show ((w.heap.push o).modify g _)[k]? = ((w.heap.modify g _).push o)[k]?
  simp only [Array.getElem?_modify, Array.getElem?_push, Array.size_modify]
  by_cases c : k = w.heap.size
  · subst c; rw [if_neg (by omega), if_pos rfl, if_pos rfl]
  · rw [if_neg c, if_neg c]
set_option maxRecDepth 20000 in
theorem setRow_more (w : World) (g : Nat) (J : Array Obj) (d : Nat) (cs : Array Value) [h : LtW g w] : (more w J d).setRow g cs = more (w.setRow g cs) J d := by
  have := h.out
  simp only [World.setRow, more]
  congr 1
  refine Array.ext_getElem? fun k => ?_
  simp only [Array.getElem?_modify, Array.getElem?_append, Array.size_modify]
  by_cases c : k < w.heap.size
  · rw [if_pos c, if_pos c]
  · rw [if_neg c, if_neg c, if_neg (by omega)]
set_option maxRecDepth 20000 in
theorem setRow_drew (w : World) (g : Nat) (cs : Array Value) : w.drew.setRow g cs = (w.setRow g cs).drew := rfl
set_option maxRecDepth 20000 in
theorem setRow_drewN (w : World) (g n : Nat) (cs : Array Value) : (w.drewN n).setRow g cs = (w.setRow g cs).drewN n := rfl
attribute [go_sem] setRow_alloc_at setRow_alloc_past setRow_more setRow_drew setRow_drewN numC_0 numC_get numC_set numC_set0
/-- loading and storing a whole Num, kept whole -/
def loadNum (v : Value) : Sem Value := Instr.loadAt 107 v
def storeNum (v x : Value) : Sem Unit := Instr.storeAt 107 v x
set_option maxRecDepth 20000 in
theorem loadAt_num (v : Value) : Instr.loadAt 107 v = loadNum v := rfl
set_option maxRecDepth 20000 in
theorem storeAt_num (v x : Value) : Instr.storeAt 107 v x = storeNum v x := rfl
set_option maxRecDepth 20000 in
theorem run_loadNumAt (w : World) (g : Nat) (t : TypeId) (cs : Array Value) [h : Blk w g t cs] [z : Sz21 cs] : (loadNum (.pointer (some ⟨g, 0, none⟩))).run Try.prog w = .ok (.agg cs) w := by
  unfold loadNum Instr.loadAt
  simp only [Instr.sureAddr, Sem.run_bind, Sem.run_pure, Result.andThen_ok]
  exact run_loadNum w g t cs
set_option maxRecDepth 20000 in
theorem run_storeNumAt (w : World) (g : Nat) (t : TypeId) (b : Bool) (l : Nat → Int) (cs : Array Value) [h : Blk w g t cs] [z : Sz21 cs] : (storeNum (.pointer (some ⟨g, 0, none⟩)) (.agg (numC b l))).run Try.prog w = .ok () (w.setRow g (numC b l)) := by
  unfold storeNum Instr.storeAt
  simp only [Instr.sureAddr, Sem.run_bind, Sem.run_pure, Result.andThen_ok]
  exact run_storeNum w g t b l cs
attribute [go_sem ↓] loadAt_num storeAt_num
attribute [go_sem] run_loadNumAt run_storeNumAt
set_option maxRecDepth 20000 in
/-- a result that is a Num -/
theorem ret_num {fn : Func} {p : Tmp} {R : Ending → World → Prop} {a : Act} {w : World} (g : Nat) (t : TypeId) (cs : Array Value) (hr : fn.results = #[.cell p 107]) (hp : a.tmps.getD p undef = .pointer (some ⟨g, 0, none⟩)) (hd : a.defers = [])
    [h : Blk w g t cs] [z : Sz21 cs] (hR : R (.returned (.agg cs)) w) : bodyPost Try.prog fn R .ret a w :=
  bodyPost_ret (results_cell_row hr _ w g t cs (0, 0) _ hp h.out Try.underlying107 rfl (by rw [z.out]; exact infoN)) hd hR

set_option maxRecDepth 20000 in
/-- the zero Num as the walk writes it -/
theorem foldZ (b : Bool) : #[Value.bool b, .int .u64 0, .int .u64 0, .int .u64 0, .int .u64 0, .int .u64 0, .int .u64 0, .int .u64 0, .int .u64 0, .int .u64 0, .int .u64 0,
    .int .u64 0, .int .u64 0, .int .u64 0, .int .u64 0, .int .u64 0, .int .u64 0, .int .u64 0, .int .u64 0, .int .u64 0, .int .u64 0] = numC b (fun _ => 0) := (zeroC b).symm
attribute [go_sem] foldZ
end Go.Proofs.Ytdgmcgfkammioaa
