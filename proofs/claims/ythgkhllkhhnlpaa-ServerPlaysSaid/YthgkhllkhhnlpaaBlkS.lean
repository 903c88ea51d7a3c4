/- Written by gen/bundle36.py: Num, Blk, Cel, OpenR, Flat, Flat2, Flat3, KpS in one text. -/
import Derived.Test.YthgkhllkhhnlpaaProg
import Derived.Test.YthgkhllkhhnlpaaWideS
import Derived.Laws.Rows
import Derived.Below
import Derived.Laws.AppendOwn
import Derived.Laws.ResultCell
import Derived.Deep.Slices
import Derived.ChangeArms
import Derived.ChangeOld
import Derived.OpenShut
import Derived.SizedLaws
import Derived.Lib.SmallJoins
import Derived.DeepKeys5
import Derived.Deep.MidRow
import Derived.Maps.Keyed
/- Numbers of 20 pieces (horologeref01.Num), as values and in memory; no function walked yet. -/
namespace Go.Proofs.Ythgkhllkhhnlpaa
open Go.RowKit

/-! ### the cells of a Num: a bool and 20 pieces -/
def numL (b : Bool) (l : Nat → Int) : List Value := .bool b :: (List.range 20).map fun i => .int .u64 (l i)
def numC (b : Bool) (l : Nat → Int) : Array Value := (numL b l).toArray
abbrev NV (b : Bool) (l : Nat → Int) : Value := .agg (numC b l)
def upd (l : Nat → Int) (i : Nat) (x : Int) : Nat → Int := fun j => if j = i then x else l j
set_option maxRecDepth 20000 in
theorem numC_size (b : Bool) (l : Nat → Int) : (numC b l).size = 21 := by simp [numC, numL]
set_option maxRecDepth 20000 in
theorem numC_0 (b : Bool) (l : Nat → Int) : (numC b l)[0]? = some (.bool b) := by simp [numC, numL]
set_option maxRecDepth 20000 in
theorem numC_get (b : Bool) (l : Nat → Int) (i : Nat) (h : i < 20) : (numC b l)[1 + i]? = some (.int .u64 (l i)) := by
  rw [Nat.add_comm]; simp [numC, numL, h]
set_option maxRecDepth 20000 in
theorem numC_ext {cs : Array Value} {b : Bool} {l : Nat → Int} (h : cs.size = 21) (h0 : cs[0]? = some (.bool b)) (h1 : ∀ i, i < 20 → cs[1 + i]? = some (.int .u64 (l i))) : cs = numC b l := by
  refine Array.ext_getElem? fun i => ?_
  rcases Nat.lt_or_ge i 21 with c | c
  · cases i with
    | zero => rw [h0, numC_0]
    | succ j => rw [show j + 1 = 1 + j by omega, h1 j (by omega), numC_get b l j (by omega)]
  · rw [Array.getElem?_eq_none (by omega), Array.getElem?_eq_none (by rw [numC_size]; omega)]
set_option maxRecDepth 20000 in
theorem numC_set (b : Bool) (l : Nat → Int) (i : Nat) (x : Int) (h : i < 20) : (numC b l).setIfInBounds (1 + i) (.int .u64 x) = numC b (upd l i x) := by
  refine numC_ext (by simp [numC_size]) ?_ ?_
  · rw [Array.getElem?_setIfInBounds_ne (by omega), numC_0]
  · intro j hj
    unfold upd
    by_cases c : j = i
    · subst c; rw [if_pos rfl, Array.getElem?_setIfInBounds_self_of_lt (by rw [numC_size]; omega)]
    · rw [if_neg c, Array.getElem?_setIfInBounds_ne (by omega), numC_get b l j hj]
set_option maxRecDepth 20000 in
theorem numC_set0 (b c : Bool) (l : Nat → Int) : (numC b l).setIfInBounds 0 (.bool c) = numC c l := by
  refine numC_ext (by simp [numC_size]) ?_ ?_
  · rw [Array.getElem?_setIfInBounds_self_of_lt (by rw [numC_size]; omega)]
  · intro j hj; rw [Array.getElem?_setIfInBounds_ne (by omega), numC_get b l j hj]
set_option maxRecDepth 20000 in
theorem numC_congr {b : Bool} {l l' : Nat → Int} (h : ∀ i, i < 20 → l i = l' i) : numC b l = numC b l' :=
  numC_ext (numC_size _ _) (numC_0 _ _) fun i hi => by rw [numC_get b l i hi, h i hi]
set_option maxRecDepth 20000 in
theorem zeroC (b : Bool) : numC b (fun _ => 0) = #[.bool b, .int .u64 0, .int .u64 0, .int .u64 0, .int .u64 0, .int .u64 0, .int .u64 0, .int .u64 0, .int .u64 0, .int .u64 0, .int .u64 0,
    .int .u64 0, .int .u64 0, .int .u64 0, .int .u64 0, .int .u64 0, .int .u64 0, .int .u64 0, .int .u64 0, .int .u64 0, .int .u64 0] := by rfl

/-! ### a block that is known whole, found by the world's form -/
class Blk (w : World) (g : Nat) (t : outParam TypeId) (cs : outParam (Array Value)) : Prop where
  out : w.heap[g]? = some (.cells cs t (0, 0))
set_option maxRecDepth 20000 in
theorem Blk.lt {w : World} {g : Nat} {t : TypeId} {cs : Array Value} (h : Blk w g t cs) : g < w.heap.size := by
  rcases Nat.lt_or_ge g w.heap.size with c | c
  · exact c
  · have := h.out; rw [Array.getElem?_eq_none c] at this; cases this
set_option maxRecDepth 20000 in
instance (priority := low) (w : World) (t : TypeId) (cs : Array Value) (g : Nat) [h : SizeIs w g] : Blk (w.alloc (.cells cs t)) g t cs := ⟨by rw [← h.out]; exact heap_alloc_new w _⟩
set_option maxRecDepth 20000 in
instance (w : World) (o : Obj) (g : Nat) (t : TypeId) (cs : Array Value) [h : Blk w g t cs] : Blk (w.alloc o) g t cs := ⟨(Below.heap_alloc w o g h.lt).trans h.out⟩
set_option maxRecDepth 20000 in
instance (w : World) (J : Array Obj) (d g : Nat) (t : TypeId) (cs : Array Value) [h : Blk w g t cs] : Blk (more w J d) g t cs := ⟨(more_get w J d g h.lt).trans h.out⟩
set_option maxRecDepth 20000 in
instance (w : World) (g : Nat) (t : TypeId) (cs : Array Value) [h : Blk w g t cs] : Blk w.drew g t cs := ⟨h.out⟩
set_option maxRecDepth 20000 in
instance (w : World) (k g : Nat) (t : TypeId) (cs : Array Value) [h : Blk w g t cs] : Blk (w.drewN k) g t cs := ⟨h.out⟩
set_option maxRecDepth 20000 in
theorem infoN : (Try.prog.info? 156).map (·.size) = some 21 := by kernel_rfl
/-- a whole Num is loaded -/
class Sz21 (cs : Array Value) : Prop where
  out : cs.size = 21
set_option maxRecDepth 20000 in
instance (b : Bool) (l : Nat → Int) : Sz21 (numC b l) := ⟨numC_size b l⟩
set_option maxRecDepth 20000 in
theorem run_loadNum (w : World) (g : Nat) (t : TypeId) (cs : Array Value) [h : Blk w g t cs] [z : Sz21 cs] : (loadVar 156 ⟨g, 0, none⟩).run Try.prog w = .ok (.agg cs) w :=
  run_loadVar_row w g t 156 cs (0, 0) _ h.out Try.underlying156 rfl (by rw [z.out]; exact infoN)
set_option maxRecDepth 20000 in
theorem numC_one (b : Bool) (l : Nat → Int) : (numC b l).all (·.oneCell') = true := by
  rw [Array.all_eq_true_iff_forall_mem]
  intro v hv
  simp only [numC, numL, List.mem_toArray, List.mem_cons, List.mem_map] at hv
  rcases hv with rfl | ⟨i, _, rfl⟩ <;> rfl
set_option maxRecDepth 20000 in
/-- a whole Num is stored -/
theorem run_storeNum (w : World) (g : Nat) (t : TypeId) (b : Bool) (l : Nat → Int) (cs : Array Value) [h : Blk w g t cs] [z : Sz21 cs] : (storeVar 156 ⟨g, 0, none⟩ (.agg (numC b l))).run Try.prog w = .ok () (w.setRow g (numC b l)) :=
  run_storeVar_row w g t 156 cs (numC b l) h.out (by rw [numC_size]; exact infoN) (by rw [z.out, numC_size]) (numC_one b l)
set_option maxRecDepth 20000 in
theorem setRow_alloc_at (w : World) (g : Nat) (t : TypeId) (cs cs' : Array Value) [h : SizeIs w g] : (w.alloc (.cells cs t)).setRow g cs' = w.alloc (.cells cs' t) := by
  have := h.out
  subst this
  show World.mk _ _ _ _ _ = World.mk _ _ _ _ _
  congr 1
  refine Array.ext_getElem? fun k => ?_
  show ((w.heap.push (.cells cs t)).modify w.heap.size _)[k]? = (w.heap.push (.cells cs' t))[k]?
  simp only [Array.getElem?_modify, Array.getElem?_push]
  by_cases c : k = w.heap.size
  · subst c; simp
  · rw [if_neg (fun e => c e.symm), if_neg c, if_neg c]
set_option maxRecDepth 20000 in
theorem setRow_alloc_past (w : World) (g : Nat) (o : Obj) (cs : Array Value) [h : LtW g w] : (w.alloc o).setRow g cs = (w.setRow g cs).alloc o := by
  have := h.out
  show World.mk _ _ _ _ _ = World.mk _ _ _ _ _
  congr 1
  refine Array.ext_getElem? fun k => ?_
  show ((w.heap.push o).modify g _)[k]? = ((w.heap.modify g _).push o)[k]?
  simp only [Array.getElem?_modify, Array.getElem?_push, Array.size_modify]
  by_cases c : k = w.heap.size
  · subst c; rw [if_neg (by omega), if_pos rfl, if_pos rfl]
  · rw [if_neg c, if_neg c]
set_option maxRecDepth 20000 in
theorem setRow_more (w : World) (g : Nat) (J : Array Obj) (d : Nat) (cs : Array Value) [h : LtW g w] : (more w J d).setRow g cs = more (w.setRow g cs) J d := by
  have := h.out
  simp only [World.setRow, more]
  congr 1
  refine Array.ext_getElem? fun k => ?_
  simp only [Array.getElem?_modify, Array.getElem?_append, Array.size_modify]
  by_cases c : k < w.heap.size
  · rw [if_pos c, if_pos c]
  · rw [if_neg c, if_neg c, if_neg (by omega)]
set_option maxRecDepth 20000 in
theorem setRow_drew (w : World) (g : Nat) (cs : Array Value) : w.drew.setRow g cs = (w.setRow g cs).drew := rfl
set_option maxRecDepth 20000 in
theorem setRow_drewN (w : World) (g n : Nat) (cs : Array Value) : (w.drewN n).setRow g cs = (w.setRow g cs).drewN n := rfl
attribute [go_sem] setRow_alloc_at setRow_alloc_past setRow_more setRow_drew setRow_drewN numC_0 numC_get numC_set numC_set0
/-- loading and storing a whole Num, kept whole -/
def loadNum (v : Value) : Sem Value := Instr.loadAt 156 v
def storeNum (v x : Value) : Sem Unit := Instr.storeAt 156 v x
set_option maxRecDepth 20000 in
theorem loadAt_num (v : Value) : Instr.loadAt 156 v = loadNum v := rfl
set_option maxRecDepth 20000 in
theorem storeAt_num (v x : Value) : Instr.storeAt 156 v x = storeNum v x := rfl
set_option maxRecDepth 20000 in
theorem run_loadNumAt (w : World) (g : Nat) (t : TypeId) (cs : Array Value) [h : Blk w g t cs] [z : Sz21 cs] : (loadNum (.pointer (some ⟨g, 0, none⟩))).run Try.prog w = .ok (.agg cs) w := by
  unfold loadNum Instr.loadAt
  simp only [Instr.sureAddr, Sem.run_bind, Sem.run_pure, Result.andThen_ok]
  exact run_loadNum w g t cs
set_option maxRecDepth 20000 in
theorem run_storeNumAt (w : World) (g : Nat) (t : TypeId) (b : Bool) (l : Nat → Int) (cs : Array Value) [h : Blk w g t cs] [z : Sz21 cs] : (storeNum (.pointer (some ⟨g, 0, none⟩)) (.agg (numC b l))).run Try.prog w = .ok () (w.setRow g (numC b l)) := by
  unfold storeNum Instr.storeAt
  simp only [Instr.sureAddr, Sem.run_bind, Sem.run_pure, Result.andThen_ok]
  exact run_storeNum w g t b l cs
attribute [go_sem ↓] loadAt_num storeAt_num
attribute [go_sem] run_loadNumAt run_storeNumAt
set_option maxRecDepth 20000 in
/-- a result that is a Num -/
theorem ret_num {fn : Func} {p : Tmp} {R : Ending → World → Prop} {a : Act} {w : World} (g : Nat) (t : TypeId) (cs : Array Value) (hr : fn.results = #[.cell p 156]) (hp : a.tmps.getD p undef = .pointer (some ⟨g, 0, none⟩)) (hd : a.defers = [])
    [h : Blk w g t cs] [z : Sz21 cs] (hR : R (.returned (.agg cs)) w) : bodyPost Try.prog fn R .ret a w :=
  bodyPost_ret (results_cell_row hr _ w g t cs (0, 0) _ hp h.out Try.underlying156 rfl (by rw [z.out]; exact infoN)) hd hR

set_option maxRecDepth 20000 in
/-- the zero Num as the walk writes it -/
theorem foldZ (b : Bool) : #[Value.bool b, .int .u64 0, .int .u64 0, .int .u64 0, .int .u64 0, .int .u64 0, .int .u64 0, .int .u64 0, .int .u64 0, .int .u64 0, .int .u64 0,
    .int .u64 0, .int .u64 0, .int .u64 0, .int .u64 0, .int .u64 0, .int .u64 0, .int .u64 0, .int .u64 0, .int .u64 0, .int .u64 0] = numC b (fun _ => 0) := (zeroC b).symm
attribute [go_sem] foldZ
end Go.Proofs.Ythgkhllkhhnlpaa
/- Blocks that are known whole: what a store of a whole row leaves, in a world of which it is known what it grew out of. -/
namespace Go.Proofs.Ythgkhllkhhnlpaa
open Go.RowKit

set_option maxRecDepth 20000 in
theorem blk_cell {w : World} {g : Nat} {t : TypeId} {cs : Array Value} (h : Blk w g t cs) (i : Nat) : w.cell? ⟨g, i, none⟩ = cs[i]? := by
  unfold World.cell?
  rw [h.out]
  simp
set_option maxRecDepth 20000 in
theorem blk_setRow {w : World} {g : Nat} {t : TypeId} {cs cs' : Array Value} (h : Blk w g t cs) : Blk (w.setRow g cs') g t cs' := ⟨setRow_heap w g cs cs' t (0, 0) h.out⟩
def rowOf (cs : Array Value) : Obj → Obj
  | .cells _ elem frozen => .cells cs elem frozen
  | o => o
set_option maxRecDepth 20000 in
theorem setRow_size' (w : World) (g : Nat) (cs : Array Value) : (w.setRow g cs).heap.size = w.heap.size := setRow_size w g cs
set_option maxRecDepth 20000 in
theorem setRow_get_ne (w : World) (g k : Nat) (cs : Array Value) (h : g ≠ k) : (w.setRow g cs).heap[k]? = w.heap[k]? := by
  show ((w.heap.modify g (rowOf cs)))[k]? = _
  rw [Array.getElem?_modify, if_neg h]
set_option maxRecDepth 20000 in
theorem blk_setRow_ne {w : World} {g k : Nat} {t : TypeId} {cs cs' : Array Value} (h : Blk w k t cs) (n : g ≠ k) : Blk (w.setRow g cs') k t cs := ⟨(setRow_get_ne w g k cs' n).trans h.out⟩
set_option maxRecDepth 20000 in
theorem mo_setRow {V W : World} (h : Mo V W) {g : Nat} (hg : V.heap.size ≤ g) (cs : Array Value) : Mo V (W.setRow g cs) := by
  obtain ⟨J, d, rfl⟩ := h
  refine ⟨J.modify (g - V.heap.size) (rowOf cs), d, ?_⟩
  have e : ((V.heap ++ J).modify g (rowOf cs)) = V.heap ++ J.modify (g - V.heap.size) (rowOf cs) := by
    generalize rowOf cs = f
    refine Array.ext_getElem? fun k => ?_
    rw [Array.getElem?_modify, Array.getElem?_append, Array.getElem?_append, Array.getElem?_modify]
    by_cases c : k < V.heap.size
    · rw [if_pos c, if_pos c, if_neg (show ¬ g = k by omega)]
    · rw [if_neg c, if_neg c]
      by_cases q : g = k
      · rw [if_pos q, if_pos (show g - V.heap.size = k - V.heap.size by omega)]
      · rw [if_neg q, if_neg (show ¬ g - V.heap.size = k - V.heap.size by omega)]
  show World.mk ((V.heap ++ J).modify g (rowOf cs)) _ _ _ _ = World.mk _ _ _ _ _
  rw [e]
  rfl
set_option maxRecDepth 20000 in
theorem Mo.size {V W : World} (h : Mo V W) : V.heap.size ≤ W.heap.size := h.below.size
set_option maxRecDepth 20000 in
theorem Mo.ltW {V W : World} (h : Mo V W) {b : Nat} (k : LtW b V) : LtW b W := ⟨Nat.lt_of_lt_of_le k.out h.size⟩
set_option maxRecDepth 20000 in
theorem blk_setCell {w : World} {g : Nat} {t : TypeId} {cs : Array Value} (h : Blk w g t cs) (i : Nat) (v : Value) : Blk (w.setCell ⟨g, i, none⟩ v) g t (cs.setIfInBounds i v) := ⟨heap_setCell_same w g i cs t v h.out⟩
set_option maxRecDepth 20000 in
theorem blk_setCell_ne {w : World} {g k : Nat} {t : TypeId} {cs : Array Value} (h : Blk w k t cs) (n : g ≠ k) (i : Nat) (v : Value) : Blk (w.setCell ⟨g, i, none⟩ v) k t cs := ⟨(heap_setCell_other w ⟨g, i, none⟩ k v (Ne.symm n)).trans h.out⟩
set_option maxRecDepth 20000 in
theorem mo_setCell {V W : World} (h : Mo V W) {g : Nat} (hg : V.heap.size ≤ g) (i : Nat) (v : Value) : Mo V (W.setCell ⟨g, i, none⟩ v) := Mo.of (h.below.setCell (p := ⟨g, i, none⟩) hg v)
set_option maxRecDepth 20000 in
theorem mo_grown {V w w' : World} {row : Option Nat} (h : Mo V w) (hg : w.grownBy w' row) (hr : ∀ k, row = some k → V.heap.size ≤ k) : Mo V w' := Mo.of (h.below.grown hg h.size hr)
set_option maxRecDepth 20000 in
theorem mo_drewN {V W : World} (h : Mo V W) (n : Nat) : Mo V (W.drewN n) := h.trans Mor.out
set_option maxRecDepth 20000 in
/-- a row that a call owns, as a block that is known whole -/
theorem owns_blk {w : World} {base : Nat} {e : TypeId} {v : Value} {n : Nat} {xs : List Value} (h : w.ownsRow base e 1 v n xs) :
    (v = .slice none 0 0 ∧ n = 0 ∧ xs = []) ∨ ∃ g cap cur, v = .slice (some ⟨g, 0, none⟩) n cap ∧ base ≤ g ∧ Blk w g e cur ∧ n ≤ cap ∧ cap ≤ maxLen ∧ cur.size = cap ∧ cur.toList.take n = xs := by
  obtain ⟨h1, h2⟩ := h
  rcases h2 with ⟨rfl, rfl⟩ | ⟨g, cap, cur, rfl, hb, hg, h3, h4, h5, h6⟩
  · exact .inl ⟨rfl, rfl, List.eq_nil_of_length_eq_zero (by simpa using h1)⟩
  · exact .inr ⟨g, cap, cur, rfl, hb, ⟨hg⟩, h3, h4, by simpa using h5, by simpa using h6⟩
set_option maxRecDepth 20000 in
theorem owns_mo {w w' : World} {base : Nat} {e : TypeId} {size : Nat} {v : Value} {n : Nat} {xs : List Value} (h : w.ownsRow base e size v n xs) (hM : Mo w w') : w'.ownsRow base e size v n xs := by
  refine ⟨h.1, ?_⟩
  rcases h.2 with hn | ⟨g, cap, cur, rfl, hb, hg, rest⟩
  · exact .inl hn
  · exact .inr ⟨g, cap, cur, rfl, hb, (hM.below.block g (Array.getElem?_eq_some_iff.1 hg).1).trans hg, rest⟩
set_option maxRecDepth 20000 in
theorem blk_frozen {w : World} {g : Nat} {t : TypeId} {cs : Array Value} (h : Blk w g t cs) (i : Nat) : w.frozen? ⟨g, i, none⟩ = false := by
  unfold World.frozen?
  rw [h.out]
  simp
set_option maxRecDepth 20000 in
instance blk_lt (w : World) (g : Nat) (t : TypeId) (cs : Array Value) [h : Blk w g t cs] : LtW g w := ⟨h.lt⟩
set_option maxRecDepth 20000 in
theorem Mo.blk {a b : World} (h : Mo a b) {g : Nat} {t : TypeId} {cs : Array Value} (k : Blk a g t cs) : Blk b g t cs := by
  obtain ⟨J, d, rfl⟩ := h
  infer_instance
class MoC (a : outParam World) (b : World) : Prop where
  out : Mo a b
set_option maxRecDepth 20000 in
instance (priority := low) moc_blk (a b : World) (g : Nat) (t : TypeId) (cs : Array Value) [h : MoC a b] [k : Blk a g t cs] : Blk b g t cs := h.out.blk k
set_option maxRecDepth 20000 in
/-- a world in which a block is known is one that laid it -/
theorem blk_world {W : World} {g : Nat} {t : TypeId} {cs : Array Value} (h : Blk W g t cs) : ∃ (V : World) (J : Array Obj) (d : Nat), V.heap.size = g ∧ W = more (V.alloc (.cells cs t)) J d := by
  have hl := h.lt
  have hv : W.heap[g] = .cells cs t (0, 0) := (Array.getElem?_eq_some_iff.1 h.out).2
  refine ⟨{ W with heap := W.heap.extract 0 g }, W.heap.extract (g + 1) W.heap.size, W.drawn, by simp; omega, ?_⟩
  show W = World.mk _ _ _ _ _
  cases W with
  | mk heap tape drawn os output =>
    simp only at hl hv ⊢
    congr 1
    refine Array.ext_getElem? fun k => ?_
    show heap[k]? = ((heap.extract 0 g).push (.cells cs t) ++ heap.extract (g + 1) heap.size)[k]?
    simp only [Array.getElem?_append, Array.size_push, Array.size_extract, Array.getElem?_push, Array.getElem?_extract]
    rcases Nat.lt_trichotomy k g with c | c | c
    · rw [if_pos (by omega), if_neg (by omega), if_pos (by omega)]; simp
    · subst c
      rw [if_pos (by omega), if_pos (by omega), Array.getElem?_eq_getElem hl, hv]
    · rw [if_neg (by omega)]
      by_cases e : k < heap.size
      · rw [if_pos (by omega)]; congr 1; omega
      · rw [if_neg (by omega), Array.getElem?_eq_none (by omega)]
end Go.Proofs.Ythgkhllkhhnlpaa
/- Whole structs stored into whole blocks, by the world's form: what no program's type enters. -/
namespace Go.Proofs.Ythgkhllkhhnlpaa
open Go.RowKit

set_option maxRecDepth 20000 in
/-- a cell of a block that is known whole (as local rules of go_sem) -/
theorem blk_cell' (w : World) (g i : Nat) (t : TypeId) (cs : Array Value) [h : Blk w g t cs] : w.cell? ⟨g, i, none⟩ = cs[i]? := blk_cell h i
set_option maxRecDepth 20000 in
theorem blk_frozen' (w : World) (g i : Nat) (t : TypeId) (cs : Array Value) [h : Blk w g t cs] : w.frozen? ⟨g, i, none⟩ = false := blk_frozen h i
class One1 (v : Value) : Prop where
  out : v.oneCell' = true
set_option maxRecDepth 20000 in
instance (k : IntKind) (n : Int) : One1 (.int k n) := ⟨rfl⟩
set_option maxRecDepth 20000 in
instance (b : Bool) : One1 (.bool b) := ⟨rfl⟩
set_option maxRecDepth 20000 in
instance (a : Option Addr) (n c : Nat) : One1 (.slice a n c) := ⟨rfl⟩
set_option maxRecDepth 20000 in
instance (a : Option Addr) : One1 (.pointer a) := ⟨rfl⟩
class OneL (l : List Value) : Prop where
  out : ∀ v ∈ l, v.oneCell' = true
set_option maxRecDepth 20000 in
instance : OneL [] := ⟨by simp⟩
set_option maxRecDepth 20000 in
instance (v : Value) (l : List Value) [a : One1 v] [b : OneL l] : OneL (v :: l) := ⟨fun x hx => by
  rcases List.mem_cons.1 hx with rfl | h
  · exact a.out
  · exact b.out x h⟩
class LenL (l : List Value) (n : outParam Nat) : Prop where
  out : l.length = n
set_option maxRecDepth 20000 in
instance : LenL [] 0 := ⟨rfl⟩
set_option maxRecDepth 20000 in
instance (v : Value) (l : List Value) (n : Nat) [h : LenL l n] : LenL (v :: l) (n + 1) := ⟨by rw [List.length_cons, h.out]⟩
set_option maxRecDepth 20000 in
theorem run_storeG (T : TypeId) (n : Nat) (hi : (Try.prog.info? T).map (·.size) = some n) (w : World) (g : Nat) (t : TypeId) (l l' : List Value) [b : Blk w g t l'.toArray] (h1 : l.length = n) (h2 : l'.length = n) [o : OneL l] :
    (Instr.storeAt T (.pointer (some ⟨g, 0, none⟩)) (.agg l.toArray)).run Try.prog w = .ok () (w.setRow g l.toArray) := by
  unfold Instr.storeAt
  simp only [Instr.sureAddr, Sem.run_bind, Sem.run_pure, Result.andThen_ok]
  exact run_storeVar_row w g t T l'.toArray l.toArray b.out (by simpa [h1] using hi) (by simp [h1, h2]) (by simpa using o.out)
set_option maxRecDepth 20000 in
/-- a result that is a struct in a cell, and another one -/
theorem ret_cell_tmp {fn : Func} {p u : Tmp} {T : TypeId} {R : Ending → World → Prop} {a : Act} {w : World} (hr : fn.results = #[.cell p T, .tmp u]) (g : Nat) (v : Value) (hp : a.tmps.getD p undef = .pointer (some ⟨g, 0, none⟩)) (hd : a.defers = [])
    (hl : (loadVar T ⟨g, 0, none⟩).run Try.prog w = .ok v w) (hR : R (.returned (.tuple #[v, a.tmps.getD u undef])) w) : bodyPost Try.prog fn R .ret a w :=
  bodyPost_ret (v := .tuple #[v, a.tmps.getD u undef]) (by
    rw [results_cell_tmp hr, hp]
    have e : (asAddr (.pointer (some ⟨g, 0, none⟩))).run Try.prog w = .ok (⟨g, 0, none⟩ : Addr) w := rfl
    rw [e, Result.andThen_ok, hl, Result.andThen_ok]) hd hR
end Go.Proofs.Ythgkhllkhhnlpaa
/- A slice's cells, opened: any program. -/
namespace Go.Proofs.Ythgkhllkhhnlpaa
open Go.RowKit Go.ChangeShapes Go.WideShapes Go.Deep

section
variable {H : Type} {enc : TypeId × Value → H} {w : World} {base : Nat} {spare : Nat → Bool} {held : Bool}
set_option maxRecDepth 20000 in
theorem weightsAll_mem {P : Program} {e : TypeId} : ∀ {l : List (DataW H)} {d : DataW H}, d ∈ l → ∀ n ∈ d.weights P e, n ∈ DataW.weightsAll P e l
  | x :: xs, d, h, n, hn => by
    rw [DataW.weightsAll]
    rcases List.mem_cons.1 h with rfl | h
    · exact List.mem_append_left _ hn
    · exact List.mem_append_right _ (weightsAll_mem h n hn)
set_option maxRecDepth 20000 in
/-- a slice: its cells, how each reads, what it weighs -/
theorem open_rowsW {t e : TypeId} {fuel n : Nat} {v : Value} {x : DataW H × List MemPlace} (ht : Try.prog.underlying t = some (.slice e)) (hC : Try.prog.cellsOf e = n) (hn : 0 < n) (h : DataW.trod enc Try.prog w base spare held fuel t [v] = some x)
    (hz : ∀ k ∈ x.1.weights Try.prog t, k ≤ reachBytes) :
    (v = .slice none 0 0) ∨ ∃ (a : Addr) (len cap : Nat), v = .slice (some a) len cap ∧ len ≤ cap ∧ len * Try.prog.bytesOf e ≤ reachBytes ∧ (0 < len → a.spot = none) ∧
      ∀ i, i < len → ∃ (cs : List Value) (m : Nat) (y : DataW H × List MemPlace), cs.length = n ∧ (∀ j, j < n → w.cell? ⟨a.block, a.off + i * n + j, none⟩ = cs[j]?) ∧ DataW.trod enc Try.prog w base spare held m e cs = some y ∧ ∀ k ∈ y.1.weights Try.prog e, k ≤ reachBytes := by
  rcases open_slice ht h with ⟨h0, _⟩ | ⟨a, len, cap, m, q, D, Pl, hcs, hb, hl, hm, hmm, hx, hi⟩
  · exact .inl (by simpa using h0)
  · rw [hC] at hi
    subst hx
    rw [DataW.weights, ht] at hz
    simp only at hz
    have hle : len ≤ m := by rw [hmm]; split <;> omega
    have hsp : 0 < len → a.spot = none := fun hp => by
      obtain ⟨cs, hc, -⟩ := hi 0 (by omega)
      obtain ⟨_, hlen, hat⟩ := World.cells?_some hc
      have := hat 0 hn
      rw [List.getElem?_eq_getElem (by omega)] at this
      simpa [Addr.add] using World.cell?_spot this
    have hw := hz _ (List.mem_cons_self ..)
    simp only [List.length_map, List.length_range] at hw
    refine .inr ⟨a, len, cap, by simpa using hcs, hl, Nat.le_trans (Nat.mul_le_mul_right _ (by omega)) hw, hsp, fun i him => ?_⟩
    obtain ⟨cs, hc, ht'⟩ := hi i (by omega)
    obtain ⟨_, hlen, hat⟩ := World.cells?_some hc
    refine ⟨cs, q, _, hlen, fun j hj => ?_, ht', fun k hk => hz k (List.mem_cons_of_mem _ (List.mem_append_left _ (weightsAll_mem (List.mem_map.2 ⟨i, List.mem_range.2 him, rfl⟩) k hk)))⟩
    have hs := hsp (by omega)
    obtain ⟨b, off, spot⟩ := a
    simp only at hs
    subst hs
    rw [← hat j hj, Go.WideShapes.add_plain, Go.WideShapes.add_plain]
end
set_option maxRecDepth 20000 in
theorem reach21 : reachBytes = 140737488351232 := by decide
set_option maxRecDepth 20000 in
theorem one_cell {cs : List Value} (h : cs.length = 1) : ∃ a, cs = [a] := by
  match cs, h with
  | [a], _ => exact ⟨a, rfl⟩
set_option maxRecDepth 20000 in
theorem two_cells {cs : List Value} (h : cs.length = 2) : ∃ a b, cs = [a, b] := by
  match cs, h with
  | [a, b], _ => exact ⟨a, b, rfl⟩
end Go.Proofs.Ythgkhllkhhnlpaa
/- Structs and arrays of bools and integers, of however many cells, kept whole: which cells they have, how they are compared, how they come in. -/
namespace Go.Proofs.Ythgkhllkhhnlpaa
open Go.RowKit

/-- the kind of a cell: a bool, or an integer -/
inductive CK where
  | b
  | i (k : IntKind)
def CK.fits : CK → Value → Prop
  | .b, .bool _ => True
  | .i k, .int q n => q = k ∧ (Lit.int k n).wf = true
  | _, _ => False
def Fits : List CK → List Value → Prop
  | [], [] => True
  | k :: ks, v :: vs => k.fits v ∧ Fits ks vs
  | _, _ => False
set_option maxRecDepth 20000 in
theorem Fits.len : ∀ {ks : List CK} {vs : List Value}, Fits ks vs → vs.length = ks.length
  | [], [], _ => rfl
  | _ :: _, _ :: _, h => by rw [List.length_cons, List.length_cons, h.2.len]
  | [], _ :: _, h => h.elim
  | _ :: _, [], h => h.elim
set_option maxRecDepth 20000 in
theorem fits_append : ∀ {a b : List CK} {u v : List Value}, Fits a u → Fits b v → Fits (a ++ b) (u ++ v)
  | [], _, [], _, _, h => h
  | _ :: _, _, _ :: _, _, g, h => ⟨g.1, fits_append g.2 h⟩
  | [], _, _ :: _, _, g, _ => g.elim
  | _ :: _, _, [], _, g, _ => g.elim
set_option maxRecDepth 20000 in
theorem fits_split : ∀ {a b : List CK} {v : List Value}, Fits (a ++ b) v → Fits a (v.take a.length) ∧ Fits b (v.drop a.length)
  | [], _, _, h => ⟨trivial, h⟩
  | _ :: _, _, _ :: _, h => ⟨⟨h.1, (fits_split h.2).1⟩, (fits_split h.2).2⟩
  | _ :: _, _, [], h => h.elim
set_option maxRecDepth 20000 in
theorem Fits.one : ∀ {ks : List CK} {vs : List Value}, Fits ks vs → ∀ v ∈ vs, v.oneCell' = true
  | [], [], _ => by simp
  | k :: ks, v :: vs, h => by
    intro x hx
    rcases List.mem_cons.1 hx with rfl | hx
    · have := h.1
      cases k <;> cases x <;> first | rfl | exact this.elim
    · exact h.2.one x hx
  | [], _ :: _, h => h.elim
  | _ :: _, [], h => h.elim

def kindsF (P : Program) (K : TypeId → Option (List CK)) : List Field → Nat → Option (List CK)
  | [], _ => some []
  | f :: r, o => if f.offset = o ∧ (f.name != "_") = true then (K f.type).bind fun a => if a.length = P.cellsOf f.type then (kindsF P K r (o + a.length)).map (a ++ ·) else none else none
/-- the kinds of a type's cells -/
def kinds (P : Program) : Nat → TypeId → Option (List CK)
  | 0, _ => none
  | d + 1, t =>
    match P.underlying t with
    | some .bool => some [.b]
    | some (.int k) => some [.i k]
    | some (.array n e) => (kinds P d e).bind fun a => if a.length = P.cellsOf e ∧ n * P.cellsOf e = P.cellsOf t then some (List.replicate n a).flatten else none
    | some (.struct fs) => (kindsF P (kinds P d) fs.toList 0).bind fun a => if a.length = P.cellsOf t then some a else none
    | _ => none
section
variable {P : Program}

set_option maxRecDepth 20000 in
theorem kindsF_lits {d : Nat} {K : TypeId → Option (List CK)} (hK : ∀ t ks, K t = some ks → ∀ cs, Fits ks cs → ∃ ls, P.keyLits d t cs = some ls) :
    ∀ (fs : List Field) (o : Nat) (ks : List CK), kindsF P K fs o = some ks → ∀ cs : List Value, Fits ks ((cs.drop o).take ks.length) →
      (∀ f ∈ fs, (f.name != "_") = true) ∧ ∃ xs, fs.mapM (fun f => P.keyLits d f.type ((cs.drop f.offset).take (P.cellsOf f.type))) = some xs
  | [], _, _, _, _, _ => ⟨by simp, [], rfl⟩
  | f :: r, o, ks, h, cs, hc => by
    unfold kindsF at h
    split at h
    case isFalse => cases h
    case isTrue hf =>
      obtain ⟨a, ha, h⟩ := Option.bind_eq_some_iff.1 h
      split at h
      case isFalse => cases h
      case isTrue hl =>
        obtain ⟨b, hb, rfl⟩ := Option.map_eq_some_iff.1 h
        obtain ⟨s1, s2⟩ := fits_split hc
        rw [List.take_take, List.length_append, Nat.min_eq_left (by omega)] at s1
        have s2' : Fits b ((cs.drop (o + a.length)).take b.length) := by
          rw [List.drop_take, List.length_append, List.drop_drop] at s2
          simpa using s2
        obtain ⟨n1, xs, hx⟩ := kindsF_lits hK r (o + a.length) b hb cs s2'
        obtain ⟨ls, hls⟩ := hK _ _ ha _ s1
        refine ⟨fun g hg => ?_, ls :: xs, ?_⟩
        · rcases List.mem_cons.1 hg with rfl | hg
          · exact hf.2
          · exact n1 g hg
        · rw [List.mapM_cons, hf.1, ← hl, hls]
          simp only [Option.bind_eq_bind, Option.bind_some, hx]
          rfl
set_option maxRecDepth 20000 in
theorem rep_lits {d : Nat} {e : TypeId} {a : List CK} {c : Nat} (hl : a.length = c) (hK : ∀ cs, Fits a cs → ∃ ls, P.keyLits d e cs = some ls) (cs : List Value) :
    ∀ (m s : Nat), Fits (List.replicate m a).flatten ((cs.drop (s * c)).take (m * c)) → ∃ xs, (List.range' s m).mapM (fun i => P.keyLits d e ((cs.drop (i * c)).take c)) = some xs
  | 0, _, _ => ⟨[], rfl⟩
  | m + 1, s, h => by
    rw [List.replicate_succ, List.flatten_cons] at h
    obtain ⟨s1, s2⟩ := fits_split h
    rw [hl] at s1 s2
    rw [List.take_take, Nat.min_eq_left (by rw [Nat.add_mul]; omega)] at s1
    have s2' : Fits (List.replicate m a).flatten ((cs.drop ((s + 1) * c)).take (m * c)) := by
      rw [List.drop_take, List.drop_drop] at s2
      rw [Nat.add_mul, Nat.one_mul]
      rw [Nat.add_mul, Nat.one_mul, Nat.add_sub_cancel] at s2
      exact s2
    obtain ⟨xs, hx⟩ := rep_lits hl hK cs m (s + 1) s2'
    obtain ⟨ls, hls⟩ := hK _ s1
    refine ⟨ls :: xs, ?_⟩
    rw [List.range'_succ, List.mapM_cons, hls]
    simp only [Option.bind_eq_bind, Option.bind_some, hx]
    rfl
set_option maxRecDepth 20000 in
theorem kinds_lits : ∀ (d : Nat) (t : TypeId) (ks : List CK), kinds P d t = some ks → ∀ cs : List Value, Fits ks cs → ∃ ls, P.keyLits d t cs = some ls
  | 0, _, _, h, _, _ => by simp [kinds] at h
  | d + 1, t, ks, h, cs, hc => by
    unfold kinds at h
    unfold Program.keyLits
    split at h
    case h_1 hu =>
      cases h
      rw [hu]
      match cs, hc with
      | [.bool b], _ => exact ⟨_, rfl⟩
    case h_2 k hu =>
      cases h
      rw [hu]
      match cs, hc with
      | [.int q n], hc => exact ⟨[.int k n], by simp [hc.1.1, hc.1.2]⟩
    case h_3 n e hu =>
      rw [hu]
      obtain ⟨a, ha, h⟩ := Option.bind_eq_some_iff.1 h
      split at h
      case isFalse => cases h
      case isTrue hl =>
        cases h
        have hlen := hc.len
        simp only [List.length_flatten, List.map_replicate, List.sum_replicate_nat] at hlen
        obtain ⟨xs, hx⟩ := rep_lits hl.1 (kinds_lits d e a ha) cs n 0 (by
          rw [Nat.zero_mul, List.drop_zero, List.take_of_length_le (by rw [hlen, hl.1]; exact Nat.le_refl _)]
          exact hc)
        refine ⟨xs.flatten, ?_⟩
        simp only
        rw [if_pos (by rw [hlen, hl.1, hl.2]), List.range_eq_range', hx]
        rfl
    case h_4 fs hu =>
      rw [hu]
      obtain ⟨a, ha, h⟩ := Option.bind_eq_some_iff.1 h
      split at h
      case isFalse => cases h
      case isTrue hl =>
        cases h
        have hlen := hc.len
        obtain ⟨n1, xs, hx⟩ := kindsF_lits (kinds_lits d) fs.toList 0 ks ha cs (by
          rw [List.drop_zero, List.take_of_length_le (by rw [hlen]; exact Nat.le_refl _)]
          exact hc)
        refine ⟨xs.flatten, ?_⟩
        simp only
        rw [if_pos ⟨by rw [hlen, hl], Array.all_eq_true_iff_forall_mem.2 fun f hf => n1 f (Array.mem_toList_iff.2 hf)⟩, hx]
        rfl
    case h_5 => cases h

set_option maxRecDepth 20000 in
theorem kindsF_trod {H : Type} {enc : TypeId × Value → H} {w : World} {base : Nat} {spare : Nat → Bool} {held : Bool} {fuel : Nat} {K : TypeId → Option (List CK)}
    (hK : ∀ t ks, K t = some ks → ∀ cs x, DataW.trod enc P w base spare held fuel t cs = some x → Fits ks cs) :
    ∀ (fs : List Field) (o : Nat) (ks : List CK), kindsF P K fs o = some ks → ∀ (cs : List Value) xs, fs.mapM (fun f => DataW.trod enc P w base spare held fuel f.type ((cs.drop f.offset).take (P.cellsOf f.type))) = some xs → Fits ks ((cs.drop o).take ks.length)
  | [], _, ks, h, cs, _, _ => by
    unfold kindsF at h
    cases h
    rw [List.length_nil, List.take_zero]
    trivial
  | f :: r, o, ks, h, cs, xs, hx => by
    unfold kindsF at h
    split at h
    case isFalse => cases h
    case isTrue hf =>
      obtain ⟨a, ha, h⟩ := Option.bind_eq_some_iff.1 h
      split at h
      case isFalse => cases h
      case isTrue hl =>
        obtain ⟨b, hb, rfl⟩ := Option.map_eq_some_iff.1 h
        rw [List.mapM_cons] at hx
        simp only [Option.bind_eq_bind] at hx
        obtain ⟨y, hy, hx⟩ := Option.bind_eq_some_iff.1 hx
        obtain ⟨ys, hys, _⟩ := Option.bind_eq_some_iff.1 hx
        have s1 := hK _ _ ha _ _ hy
        rw [hf.1, ← hl] at s1
        have s2 := kindsF_trod hK r (o + a.length) b hb cs ys hys
        have := fits_append s1 s2
        rw [List.length_append, List.take_add, List.drop_drop]
        exact this
set_option maxRecDepth 20000 in
theorem rep_trod {H : Type} {enc : TypeId × Value → H} {w : World} {base : Nat} {spare : Nat → Bool} {held : Bool} {fuel : Nat} {e : TypeId} {a : List CK} {c : Nat}
    (hK : ∀ cs x, DataW.trod enc P w base spare held fuel e cs = some x → Fits a cs) (cs : List Value) :
    ∀ (m s : Nat) xs, (List.range' s m).mapM (fun i => DataW.trod enc P w base spare held fuel e ((cs.drop (i * c)).take c)) = some xs → Fits (List.replicate m a).flatten ((cs.drop (s * c)).take (m * c))
  | 0, _, _, _ => by simp [Fits]
  | m + 1, s, xs, hx => by
    rw [List.range'_succ, List.mapM_cons] at hx
    simp only [Option.bind_eq_bind] at hx
    obtain ⟨y, hy, hx⟩ := Option.bind_eq_some_iff.1 hx
    obtain ⟨ys, hys, _⟩ := Option.bind_eq_some_iff.1 hx
    have s1 := hK _ _ hy
    have s2 := rep_trod hK cs m (s + 1) ys hys
    have := fits_append s1 s2
    rw [List.replicate_succ, List.flatten_cons, Nat.add_mul, Nat.one_mul, Nat.add_comm (m * c) c, List.take_add, List.drop_drop]
    rw [Nat.add_mul, Nat.one_mul] at this
    exact this
set_option maxRecDepth 20000 in
theorem kinds_trod {H : Type} {enc : TypeId × Value → H} {w : World} {base : Nat} {spare : Nat → Bool} {held : Bool} : ∀ (d fuel : Nat) (t : TypeId) (ks : List CK), kinds P d t = some ks → ∀ (cs : List Value) x, DataW.trod enc P w base spare held fuel t cs = some x → Fits ks cs
  | 0, _, _, _, h, _, _, _ => by simp [kinds] at h
  | d + 1, 0, _, _, _, _, _, hx => by simp [DataW.trod] at hx
  | d + 1, fuel + 1, t, ks, h, cs, x, hx => by
    unfold kinds at h
    unfold DataW.trod at hx
    split at h
    case h_1 hu =>
      cases h
      rw [hu] at hx
      split at hx <;> simp_all [Fits, CK.fits]
    case h_2 k hu =>
      cases h
      rw [hu] at hx
      split at hx <;> simp_all [Fits, CK.fits]
    case h_3 n e hu =>
      rw [hu] at hx
      obtain ⟨a, ha, h⟩ := Option.bind_eq_some_iff.1 h
      split at h
      case isFalse => cases h
      case isTrue hl =>
        cases h
        simp only at hx
        split at hx
        case isFalse => cases hx
        case isTrue hlen =>
          obtain ⟨xs, hxs, _⟩ := Option.map_eq_some_iff.1 hx
          rw [List.range_eq_range'] at hxs
          have := rep_trod (kinds_trod d fuel e a ha) cs n 0 xs hxs
          rw [Nat.zero_mul, List.drop_zero, List.take_of_length_le (by rw [hlen, hl.2]; exact Nat.le_refl _)] at this
          exact this
    case h_4 fs hu =>
      rw [hu] at hx
      obtain ⟨a, ha, h⟩ := Option.bind_eq_some_iff.1 h
      split at h
      case isFalse => cases h
      case isTrue hl =>
        cases h
        simp only at hx
        split at hx
        case isFalse => cases hx
        case isTrue hlen =>
          obtain ⟨xs, hxs, _⟩ := Option.map_eq_some_iff.1 hx
          have := kindsF_trod (kinds_trod d fuel) fs.toList 0 ks ha cs xs hxs
          rw [List.drop_zero, List.take_of_length_le (by rw [hlen, hl]; exact Nat.le_refl _)] at this
          exact this
    case h_5 => cases h
set_option maxRecDepth 20000 in
theorem kinds_len : ∀ {d : Nat} {t : TypeId} {ks : List CK}, kinds P d t = some ks → (∃ n e, P.underlying t = some (.array n e)) ∨ (∃ fs, P.underlying t = some (.struct fs)) → ks.length = P.cellsOf t
  | 0, _, _, h, _ => by simp [kinds] at h
  | d + 1, t, ks, h, hr => by
    unfold kinds at h
    rcases hr with ⟨n, e, hu⟩ | ⟨fs, hu⟩
    · rw [hu] at h
      obtain ⟨a, ha, h⟩ := Option.bind_eq_some_iff.1 h
      split at h
      case isFalse => cases h
      case isTrue hl =>
        cases h
        simp only [List.length_flatten, List.map_replicate, List.sum_replicate_nat]
        rw [hl.1, hl.2]
    · rw [hu] at h
      obtain ⟨a, ha, h⟩ := Option.bind_eq_some_iff.1 h
      split at h
      case isFalse => cases h
      case isTrue hl =>
        cases h
        exact hl
/-- whole types -/
def wholeB (P : Program) (t : TypeId) : Bool := match P.underlying t with | some (.array _ _) | some (.struct _) => true | _ => false
set_option maxRecDepth 20000 in
theorem keyOf_fits {d : Nat} {t : TypeId} {ks : List CK} (hw : wholeB P t = true) (hk : P.keyType t = true) (hd : d = P.types.size + 1) (h : kinds P d t = some ks) {cs : List Value} (hc : Fits ks cs) : ∃ l, keyOf P t (.agg cs.toArray) = some l := by
  obtain ⟨ls, hls⟩ := kinds_lits d t ks h cs hc
  subst hd
  unfold wholeB at hw
  unfold keyOf
  split at hw
  · rename_i n e hu
    have hl := kinds_len h (.inl ⟨n, e, hu⟩)
    have hf : (Value.agg cs.toArray).formed P t = true := by
      simp only [Value.formed, hu]
      simp [hc.len, hl]
    rw [hu]
    simp only [hk, hf, Bool.and_self, if_true]
    exact ⟨_, by rw [show (Value.agg cs.toArray).cells.toList = cs from rfl, hls]; rfl⟩
  · rename_i fs hu
    have hl := kinds_len h (.inr ⟨fs, hu⟩)
    have hf : (Value.agg cs.toArray).formed P t = true := by
      simp only [Value.formed, hu]
      simp [hc.len, hl]
    rw [hu]
    simp only [hk, hf, Bool.and_self, if_true]
    exact ⟨_, by rw [show (Value.agg cs.toArray).cells.toList = cs from rfl, hls]; rfl⟩
  · cases hw
end
end Go.Proofs.Ythgkhllkhhnlpaa
/- Whole structs over this program: loaded, stored, compared. -/
namespace Go.Proofs.Ythgkhllkhhnlpaa
open Go.RowKit

noncomputable def ksOf (T : TypeId) : List CK := (kinds Try.prog (Try.prog.types.size + 1) T).getD []
/-- are two rows of cells one? -/
noncomputable def eqA (xs ys : Array Value) : Bool := @decide (xs = ys) (Classical.propDecidable _)
set_option maxRecDepth 20000 in
theorem eqA_iff {xs ys : Array Value} : eqA xs ys = true ↔ xs = ys := by unfold eqA; exact @decide_eq_true_iff _ (Classical.propDecidable _)
set_option maxRecDepth 20000 in
theorem eqA_self (xs : Array Value) : eqA xs xs = true := eqA_iff.2 rfl
/-- a struct or an array that can be a key: of n cells -/
class FlatT (T : TypeId) (n : outParam Nat) : Prop where
  whole : wholeB Try.prog T = true
  key : Try.prog.keyType T = true
  lt : decide (T < Try.prog.types.size) = true
  ks : kinds Try.prog (Try.prog.types.size + 1) T = some (ksOf T)
  len : (ksOf T).length = n
  info : (Try.prog.info? T).map (·.size) = some n
/-- a struct or an array of n cells -/
class RowT (T : TypeId) (n : outParam Nat) : Prop where
  row : (match Try.prog.underlying T with | some d => d.isRow | none => false) = true
  info : (Try.prog.info? T).map (·.size) = some n
class SzA (cs : Array Value) (n : outParam Nat) : Prop where
  out : cs.size = n
class OneA (cs : Array Value) : Prop where
  out : cs.all (·.oneCell') = true
set_option maxRecDepth 20000 in
theorem smallP : Try.prog.types.size + 2 ≤ 10000 := by decide
set_option maxRecDepth 20000 in
theorem laidP : laidOutB Try.prog = true := by kernel_rfl
set_option maxRecDepth 20000 in
theorem law_flat {T : TypeId} {n : Nat} (h : FlatT T n) : Maps.Keyed Try.prog T := by
  have hw := h.whole
  unfold wholeB at hw
  exact Maps.Keyed.of_law (deep_law_gate laidP smallP (of_decide_eq_true h.lt) h.key hw)
set_option maxRecDepth 20000 in
theorem key_flat {T : TypeId} {n : Nat} (h : FlatT T n) {cs : Array Value} (hc : Fits (ksOf T) cs.toList) : ∃ l, keyOf Try.prog T (.agg cs) = some l :=
  keyOf_fits h.whole h.key rfl h.ks hc
set_option maxRecDepth 20000 in
theorem run_eql_flat {T : TypeId} {n : Nat} (h : FlatT T n) (w : World) {xs ys : Array Value} (hx : Fits (ksOf T) xs.toList) (hy : Fits (ksOf T) ys.toList) :
    (binOp .eql T (.agg xs) (.agg ys)).run Try.prog w = .ok (.bool (eqA xs ys)) w := by
  obtain ⟨lx, ex⟩ := key_flat h hx
  obtain ⟨ly, ey⟩ := key_flat h hy
  have hw := h.whole
  unfold wholeB at hw
  obtain ⟨r, hr, hiff⟩ := run_equal_deep (P := Try.prog) w (m := Try.prog.types.size + 1) (by have := smallP; omega) h.key hw ex ey
  rw [run_eql_struct]
  have hr' : (Op.equalIn 10000 T (.agg xs) (.agg ys)).run Try.prog w = .ok r w := hr
  rw [hr', Result.andThen_ok]
  have e : r = eqA xs ys := by
    rw [Bool.eq_iff_iff, hiff, eqA_iff]
    constructor
    · intro e
      have := (law_flat h).inj ex (e ▸ ey)
      injection this
    · intro e
      subst e
      rw [ex] at ey
      injection ey
  rw [e]
set_option maxRecDepth 20000 in
theorem run_neq_flat {T : TypeId} {n : Nat} (h : FlatT T n) (w : World) {xs ys : Array Value} (hx : Fits (ksOf T) xs.toList) (hy : Fits (ksOf T) ys.toList) :
    (binOp .neq T (.agg xs) (.agg ys)).run Try.prog w = .ok (.bool (!eqA xs ys)) w := by
  have e := run_eql_flat h w hx hy
  rw [run_eql_struct] at e
  rw [run_neq_struct]
  cases hq : (Op.equalIn 10000 T (.agg xs) (.agg ys)).run Try.prog w with
  | ok b w' =>
    rw [hq, Result.andThen_ok] at e
    rw [Result.andThen_ok]
    injection e with e1 e2
    injection e1 with e1
    rw [e1, e2]
  | _ => rw [hq] at e; cases e
/-- folded operations: their laws speak of whole structs -/
def loadF (T : TypeId) (v : Value) : Sem Value := Instr.loadAt T v
def storeF (T : TypeId) (v x : Value) : Sem Unit := Instr.storeAt T v x
def eqlF (T : TypeId) (x y : Value) : Sem Value := binOp .eql T x y
def neqF (T : TypeId) (x y : Value) : Sem Value := binOp .neq T x y
def buildF (T : TypeId) (l : Array (Nat × Value)) : Sem Value := Instr.build T l
/-- cells from o on, n of them, in the place of what was there -/
def splice (cs : Array Value) (o : Nat) (v : Array Value) : Array Value := cs.extract 0 o ++ v ++ cs.extract (o + v.size) cs.size
set_option maxRecDepth 20000 in
theorem run_loadF (T : TypeId) (n : Nat) [h : RowT T n] (w : World) (g o : Nat) (t : TypeId) (cs : Array Value) (k : Nat) [b : Blk w g t cs] [z : SzA cs k] (hk : o + n ≤ k) :
    (loadF T (.pointer (some ⟨g, o, none⟩))).run Try.prog w = .ok (.agg (cs.extract o (o + n))) w := by
  have hr := h.row
  split at hr
  case h_2 => cases hr
  case h_1 d hu =>
    have hz := z.out
    have e : cs.extract o (o + n) = ((cs.toList.drop o).take n).toArray := by
      apply Array.toList_inj.1
      simp [Array.toList_extract]
    rw [e]
    refine run_loadAt_mid w g o T _ d ?_ hu hr ?_
    · intro j v hv
      rw [blk_cell b]
      rw [List.getElem?_take] at hv
      split at hv
      · rw [List.getElem?_drop] at hv
        rw [← hv]; simp
      · cases hv
    · rw [h.info]
      congr 1
      simp
      omega
set_option maxRecDepth 20000 in
theorem run_loadF0 (T : TypeId) (n : Nat) [h : RowT T n] (w : World) (g : Nat) (t : TypeId) (cs : Array Value) [b : Blk w g t cs] [z : SzA cs n] :
    (loadF T (.pointer (some ⟨g, 0, none⟩))).run Try.prog w = .ok (.agg cs) w := by
  have := run_loadF T n w g 0 t cs n (Nat.le_of_eq (Nat.zero_add n))
  have hz := z.out
  rw [this]
  congr 2
  simp [← hz]
set_option maxRecDepth 20000 in
theorem run_storeF0 (T : TypeId) (n : Nat) [h : RowT T n] (w : World) (g : Nat) (t : TypeId) (cs v : Array Value) [b : Blk w g t cs] [z : SzA cs n] [y : SzA v n] [o : OneA v] :
    (storeF T (.pointer (some ⟨g, 0, none⟩)) (.agg v)).run Try.prog w = .ok () (w.setRow g v) := by
  unfold storeF Instr.storeAt
  simp only [Instr.sureAddr, Sem.run_bind, Sem.run_pure, Result.andThen_ok]
  exact run_storeVar_row w g t T cs v b.out (by rw [y.out]; exact h.info) (by rw [z.out, y.out]) o.out

set_option maxRecDepth 20000 in
instance fl_wide : FlatT 43 2 := ⟨by kernel_rfl, by kernel_rfl, by kernel_rfl, by kernel_rfl, by kernel_rfl, by kernel_rfl⟩
set_option maxRecDepth 20000 in
instance fl_ends : FlatT 38 18 := ⟨by kernel_rfl, by kernel_rfl, by kernel_rfl, by kernel_rfl, by kernel_rfl, by kernel_rfl⟩
set_option maxRecDepth 20000 in
instance row_wide : RowT 43 2 := ⟨by kernel_rfl, by kernel_rfl⟩
set_option maxRecDepth 20000 in
instance row_ends : RowT 38 18 := ⟨by kernel_rfl, by kernel_rfl⟩
end Go.Proofs.Ythgkhllkhhnlpaa
/- A struct stored into the midst of a block; literal rows; results. -/
namespace Go.Proofs.Ythgkhllkhhnlpaa
open Go.RowKit

set_option maxRecDepth 20000 in
instance (l : List Value) (n : Nat) [h : LenL l n] : SzA l.toArray n := ⟨by rw [List.size_toArray]; exact h.out⟩
set_option maxRecDepth 20000 in
instance (l : List Value) [h : OneL l] : OneA l.toArray := ⟨by rw [Array.all_eq_true_iff_forall_mem]; intro v hv; exact h.out v (by simpa using hv)⟩
set_option maxRecDepth 20000 in
theorem one_of_fits {T : TypeId} {cs : Array Value} (h : Fits (ksOf T) cs.toList) : OneA cs := ⟨by rw [Array.all_eq_true_iff_forall_mem]; intro v hv; exact h.one v (by simpa using hv)⟩
set_option maxRecDepth 20000 in
instance one_append (a b : Array Value) [ha : OneA a] [hb : OneA b] : OneA (a ++ b) := ⟨by rw [Array.all_append, ha.out, hb.out]; rfl⟩
set_option maxRecDepth 20000 in
theorem setCell_row {w : World} {g : Nat} {t : TypeId} {cs : Array Value} (b : Blk w g t cs) (o : Nat) (v : Value) : w.setCell ⟨g, o, none⟩ v = w.setRow g (cs.setIfInBounds o v) := by
  have h1 := heap_setCell_same w g o cs t v b.out
  show World.mk _ _ _ _ _ = World.mk _ _ _ _ _
  congr 1
  refine Array.ext_getElem? fun k => ?_
  by_cases e : g = k
  · subst e
    have h2 := setRow_heap w g cs (cs.setIfInBounds o v) t (0, 0) b.out
    exact h1.trans h2.symm
  · have h2 := heap_setCell_other w ⟨g, o, none⟩ k v (Ne.symm e)
    have h3 := setRow_get_ne w g k (cs.setIfInBounds o v) e
    exact h2.trans h3.symm
set_option maxRecDepth 20000 in
theorem setRow_setRow (w : World) (g : Nat) (a b : Array Value) : (w.setRow g a).setRow g b = w.setRow g b := by
  show World.mk _ _ _ _ _ = World.mk _ _ _ _ _
  congr 1
  refine Array.ext_getElem? fun k => ?_
  by_cases e : g = k
  · subst e
    simp only [World.setRow, Array.getElem?_modify, if_true, Option.map_map]
    cases w.heap[g]? with
    | none => rfl
    | some o => cases o <;> rfl
  · simp only [World.setRow, Array.getElem?_modify, if_neg e]
def spliceL (cs : List Value) (o : Nat) (v : List Value) : List Value := cs.take o ++ v ++ cs.drop (o + v.length)
set_option maxRecDepth 20000 in
theorem spliceL_cons (cs : List Value) (o : Nat) (x : Value) (v : List Value) (h : o < cs.length) : spliceL (cs.set o x) (o + 1) v = spliceL cs o (x :: v) := by
  unfold spliceL
  have e1 : (cs.set o x).take (o + 1) = cs.take o ++ [x] := by
    rw [List.take_add_one, List.take_set, List.getElem?_set_self h, List.set_eq_of_length_le (by rw [List.length_take]; omega)]
    rfl
  have e2 : (cs.set o x).drop (o + 1 + v.length) = cs.drop (o + (x :: v).length) := by
    rw [List.drop_set, if_pos (by omega), List.length_cons]
    congr 1
    omega
  rw [e1, e2]
  simp
set_option maxRecDepth 20000 in
theorem setCells_row : ∀ (v : List Value) (o : Nat) (w : World) (g : Nat) (t : TypeId) (cs : List Value), Blk w g t cs.toArray → o + v.length ≤ cs.length → w.setCells g o v = w.setRow g (spliceL cs o v).toArray
  | [], o, w, g, t, cs, b, _ => by
    have e : spliceL cs o [] = cs := by unfold spliceL; simp
    rw [e]
    show w = _
    show World.mk _ _ _ _ _ = World.mk _ _ _ _ _
    congr 1
    refine Array.ext_getElem? fun k => ?_
    by_cases e : g = k
    · subst e
      rw [b.out]
      exact (setRow_heap w g cs.toArray cs.toArray t (0, 0) b.out).symm
    · exact (setRow_get_ne w g k cs.toArray e).symm
  | x :: v, o, w, g, t, cs, b, h => by
    rw [List.length_cons] at h
    have e : w.setCell ⟨g, o, none⟩ x = w.setRow g (cs.set o x).toArray := by rw [setCell_row b]; simp
    rw [World.setCells, e, setCells_row v (o + 1) _ g t (cs.set o x) (blk_setRow b) (by rw [List.length_set]; omega), setRow_setRow, spliceL_cons _ _ _ _ (by omega)]
set_option maxRecDepth 20000 in
theorem run_storeF (T : TypeId) (n : Nat) [h : RowT T n] (w : World) (g o : Nat) (t : TypeId) (cs v : List Value) (k : Nat) [b : Blk w g t cs.toArray] [z : SzA cs.toArray k] [y : SzA v.toArray n] [q : OneA v.toArray] (hk : o + n ≤ k) :
    (storeF T (.pointer (some ⟨g, o, none⟩)) (.agg v.toArray)).run Try.prog w = .ok () (w.setRow g (spliceL cs o v).toArray) := by
  have z1 : cs.length = k := by have := z.out; simpa using this
  have y1 : v.length = n := by have := y.out; simpa using this
  unfold storeF
  rw [run_storeAt_mid w g o T v.toArray (fun j hj => ⟨by rw [blk_cell b]; simp; simp at hj; omega, blk_frozen b _⟩) (by rw [h.info]; simp [y1]) q.out]
  rw [setCells_row v o w g t cs b (by omega)]
set_option maxRecDepth 20000 in
theorem run_loadFo (T : TypeId) (n : Nat) [h : RowT T n] (w : World) (g o : Nat) (t : TypeId) (cs : Array Value) (k : Nat) [b : Blk w g t cs] [z : SzA cs k] (_h0 : 0 < o) (hk : o + n ≤ k) :
    (loadF T (.pointer (some ⟨g, o, none⟩))).run Try.prog w = .ok (.agg (cs.extract o (o + n))) w := run_loadF T n w g o t cs k hk
set_option maxRecDepth 20000 in
theorem run_loadFz (T : TypeId) (n : Nat) [h : RowT T n] (w : World) (g : Nat) (t : TypeId) (cs : Array Value) (k : Nat) [b : Blk w g t cs] [z : SzA cs k] (hk : n < k) :
    (loadF T (.pointer (some ⟨g, 0, none⟩))).run Try.prog w = .ok (.agg (cs.extract 0 n)) w := by
  have := run_loadF T n w g 0 t cs k (by omega)
  rwa [Nat.zero_add] at this
set_option maxRecDepth 20000 in
theorem loadVar_flat (T : TypeId) {n : Nat} [h : RowT T n] {w : World} {g : Nat} {t : TypeId} {cs : Array Value} (b : Blk w g t cs) (hs : cs.size = n) : (loadVar T ⟨g, 0, none⟩).run Try.prog w = .ok (.agg cs) w := by
  have : SzA cs n := ⟨hs⟩
  have := run_loadF0 T n w g t cs
  unfold loadF Instr.loadAt at this
  simpa only [Instr.sureAddr, Sem.run_bind, Sem.run_pure, Result.andThen_ok] using this
end Go.Proofs.Ythgkhllkhhnlpaa
/- What a call that writes into some blocks keeps. -/
namespace Go.Proofs.Ythgkhllkhhnlpaa
open Go.RowKit

/-! ### what a call with such blocks keeps -/
/-- w' is w, but for the blocks of S, and with more blocks -/
structure KpS (S : Nat → Prop) (w w' : World) : Prop where
  os : w'.os = w.os
  tape : w'.tape = w.tape
  output : w'.output = w.output
  size : w.heap.size ≤ w'.heap.size
  block : ∀ k, k < w.heap.size → ¬ S k → w'.heap[k]? = w.heap[k]?
set_option maxRecDepth 20000 in
theorem KpS.mono {S S' : Nat → Prop} {w w' : World} (h : KpS S w w') (k : ∀ i, i < w.heap.size → S i → S' i) : KpS S' w w' := ⟨h.os, h.tape, h.output, h.size, fun i hi n => h.block i hi fun s => n (k i hi s)⟩
set_option maxRecDepth 20000 in
theorem KpS.trans {S S' : Nat → Prop} {a b c : World} (h : KpS S a b) (k : KpS S' b c) (q : ∀ i, i < a.heap.size → S' i → S i) : KpS S a c :=
  ⟨k.os.trans h.os, k.tape.trans h.tape, k.output.trans h.output, Nat.le_trans h.size k.size, fun i hi n => (k.block i (Nat.lt_of_lt_of_le hi h.size) fun s => n (q i hi s)).trans (h.block i hi n)⟩
set_option maxRecDepth 20000 in
theorem KpS.of_mo {S : Nat → Prop} {w w' : World} (h : Mo w w') : KpS S w w' := ⟨h.below.os, h.below.tape, h.below.output, h.below.size, fun i hi _ => h.below.block i hi⟩
set_option maxRecDepth 20000 in
theorem KpS.mo {S : Nat → Prop} {V w w' : World} (h : KpS S w w') (m : Mo V w) (s : ∀ k, k < w.heap.size → S k → V.heap.size ≤ k) : Mo V w' :=
  Mo.of (m.below.trans ⟨h.os, h.tape, h.output, Nat.le_trans m.size h.size |> fun _ => h.size, fun k hk => h.block k (Nat.lt_of_lt_of_le hk m.size) fun q => by have := s k (Nat.lt_of_lt_of_le hk m.size) q; omega⟩)
set_option maxRecDepth 20000 in
theorem KpS.of_row {S : Nat → Prop} {w w' : World} {g : Nat} (h : w.grownBy w' (some g)) (s : S g) : KpS S w w' :=
  ⟨h.os, h.tape, h.output, h.size, fun i hi n => h.block i hi fun e => n (by injection e with e; rw [e]; exact s)⟩
set_option maxRecDepth 20000 in
theorem kpS_setCell {S : Nat → Prop} (w : World) (g i : Nat) (v : Value) (s : S g) : KpS S w (w.setCell ⟨g, i, none⟩ v) :=
  ⟨rfl, rfl, rfl, by simp [World.setCell], fun k _ n => heap_setCell_other w ⟨g, i, none⟩ k v fun e => n (by rw [e]; exact s)⟩
set_option maxRecDepth 20000 in
theorem kpS_setRow {S : Nat → Prop} (w : World) (g : Nat) (cs : Array Value) (s : S g) : KpS S w (w.setRow g cs) :=
  ⟨rfl, rfl, rfl, Nat.le_of_eq (setRow_size' w g cs).symm, fun k _ n => setRow_get_ne w g k cs fun e => n (by rw [← e]; exact s)⟩
set_option maxRecDepth 20000 in
theorem KpS.refl (S : Nat → Prop) (w : World) : KpS S w w := KpS.of_mo (Mo.refl w)
set_option maxRecDepth 20000 in
theorem KpS.cell {S : Nat → Prop} {w w' : World} (h : KpS S w w') {g : Nat} (s : S g) (i : Nat) (v : Value) : KpS S w (w'.setCell ⟨g, i, none⟩ v) := h.trans (kpS_setCell w' g i v s) fun _ _ q => q
set_option maxRecDepth 20000 in
theorem KpS.row {S : Nat → Prop} {w w' : World} (h : KpS S w w') {g : Nat} (s : S g) (cs : Array Value) : KpS S w (w'.setRow g cs) := h.trans (kpS_setRow w' g cs s) fun _ _ q => q
set_option maxRecDepth 20000 in
theorem KpS.blk {S : Nat → Prop} {w w' : World} (h : KpS S w w') {g : Nat} {t : TypeId} {cs : Array Value} (b : Blk w g t cs) (n : ¬ S g) : Blk w' g t cs := ⟨(h.block g b.lt n).trans b.out⟩

end Go.Proofs.Ythgkhllkhhnlpaa
