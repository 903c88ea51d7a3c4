/- Written by gen/bundle36.py: Grid, Grid2, Grid3, Grid6, AllanP, Grid4, Grid5 in one text. -/
import Derived.Test.YthgkhllkhhnlpaaBlkS
import Derived.Deep.MidRow
import Derived.Test.YthgkhllkhhnlpaaDivS
import Derived.Test.YthgkhllkhhnlpaaWideS
import Derived.Laws.MakeOwn
import Derived.Laws.AppendOwn
/- allan's grid in memory: slots in a ring, totals of ten octaves. -/
namespace Go.Proofs.Ythgkhllkhhnlpaa
open Go.RowKit

/-! ### rows of chunks -/
set_option maxRecDepth 20000 in
theorem chunk_len {α : Type} (n c : Nat) (f : Nat → List α) (hf : ∀ i, (f i).length = c) : ((List.range n).flatMap f).length = n * c := by
  rw [List.length_flatMap]
  simp only [hf]
  rw [List.map_const', List.sum_replicate_nat]; simp
set_option maxRecDepth 20000 in
theorem chunk_get {α : Type} (n c : Nat) (f : Nat → List α) (hf : ∀ i, (f i).length = c) (i j : Nat) (hi : i < n) (hj : j < c) : ((List.range n).flatMap f)[i * c + j]? = (f i)[j]? := by
  induction n with
  | zero => omega
  | succ n ih =>
    rw [List.range_succ, List.flatMap_append]
    have hl := chunk_len n c f hf
    by_cases e : i < n
    · have : i * c + j < n * c := by
        have : (i + 1) * c ≤ n * c := Nat.mul_le_mul_right c e
        rw [Nat.add_mul] at this; omega
      rw [List.getElem?_append_left (by omega), ih e]
    · obtain rfl : i = n := by omega
      rw [List.getElem?_append_right (by omega), hl, show i * c + j - i * c = j by omega]
      simp
def updF {α : Type} (f : Nat → α) (i : Nat) (x : α) : Nat → α := fun j => if j = i then x else f j
set_option maxRecDepth 20000 in
theorem updF_same {α : Type} (f : Nat → α) (i : Nat) (x : α) : updF f i x i = x := if_pos rfl
set_option maxRecDepth 20000 in
theorem updF_ne {α : Type} (f : Nat → α) {i j : Nat} (x : α) (h : j ≠ i) : updF f i x j = f j := if_neg h
set_option maxRecDepth 20000 in
/-- two rows of chunks are one if all their cells are -/
theorem chunk_ext {α : Type} (n c : Nat) (f : Nat → List α) (hf : ∀ i, (f i).length = c) (l : List α) (hl : l.length = n * c) (hc : 0 < c) (h : ∀ i j, i < n → j < c → l[i * c + j]? = (f i)[j]?) : l = (List.range n).flatMap f := by
  refine List.ext_getElem? fun k => ?_
  by_cases hk : k < n * c
  · have h1 : k / c < n := Nat.div_lt_of_lt_mul (by rw [Nat.mul_comm]; exact hk)
    have h2 : k % c < c := Nat.mod_lt _ hc
    have e : k = k / c * c + k % c := by rw [Nat.mul_comm]; exact (Nat.div_add_mod k c).symm
    rw [e, h _ _ h1 h2, chunk_get n c f hf _ _ h1 h2]
  · rw [List.getElem?_eq_none (by omega), List.getElem?_eq_none (by rw [chunk_len n c f hf]; omega)]

/-! ### slots -/
structure Slot where
  some : Bool
  num : Int
  off : Int
  del : Int
abbrev slotL (s : Slot) : List Value := [.bool s.some, .int .i64 s.num, .int .i64 s.off, .int .i64 s.del]
abbrev slotC (s : Slot) : Array Value := #[.bool s.some, .int .i64 s.num, .int .i64 s.off, .int .i64 s.del]
def slot0 : Slot := ⟨false, 0, 0, 0⟩
def ringC (R : Nat) (f : Nat → Slot) : Array Value := ((List.range R).flatMap fun i => slotL (f i)).toArray
set_option maxRecDepth 20000 in
theorem ringC_size (R : Nat) (f : Nat → Slot) : (ringC R f).size = R * 4 := by
  unfold ringC; rw [List.size_toArray, chunk_len _ 4 _ (fun _ => rfl)]
set_option maxRecDepth 20000 in
theorem ringC_get (R : Nat) (f : Nat → Slot) (i j : Nat) (hi : i < R) (hj : j < 4) : (ringC R f)[i * 4 + j]? = (slotL (f i))[j]? := by
  unfold ringC; rw [List.getElem?_toArray, chunk_get _ 4 _ (fun _ => rfl) i j hi hj]
set_option maxRecDepth 20000 in
theorem ringC_set (R : Nat) (f : Nat → Slot) (i : Nat) (hi : i < R) (s : Slot) :
    ((((ringC R f).setIfInBounds (i * 4) (.bool s.some)).setIfInBounds (i * 4 + 1) (.int .i64 s.num)).setIfInBounds (i * 4 + 2) (.int .i64 s.off)).setIfInBounds (i * 4 + 3) (.int .i64 s.del) = ringC R (updF f i s) := by
  have hs := ringC_size R f
  refine Array.ext' ?_
  unfold ringC at hs ⊢
  refine chunk_ext R 4 _ (fun _ => rfl) _ (by simp only [Array.toList_setIfInBounds, List.length_set]; simpa using hs) (by omega) fun t j ht hj => ?_
  have hlen : ((List.range R).flatMap fun i => slotL (f i)).length = R * 4 := chunk_len _ 4 _ (fun _ => rfl)
  simp only [Array.toList_setIfInBounds, List.getElem?_set, List.length_set, hlen]
  by_cases e : t = i
  · subst e
    rw [updF_same]
    rcases (show j = 0 ∨ j = 1 ∨ j = 2 ∨ j = 3 by omega) with rfl | rfl | rfl | rfl
    · rw [if_neg (by omega), if_neg (by omega), if_neg (by omega), if_pos (by omega), if_pos (by omega)]; rfl
    · rw [if_neg (by omega), if_neg (by omega), if_pos (by omega), if_pos (by omega)]; rfl
    · rw [if_neg (by omega), if_pos (by omega), if_pos (by omega)]; rfl
    · rw [if_pos (by omega), if_pos (by omega)]; rfl
  · rw [updF_ne _ _ e, if_neg (by omega), if_neg (by omega), if_neg (by omega), if_neg (by omega), chunk_get _ 4 _ (fun _ => rfl) t j ht hj]

/-! ### totals -/
abbrev Tot := Nat → Int × Int
abbrev totP (x : Int × Int) : List Value := [.int .i64 x.1, .int .i64 (hiW x.2), .int .u64 (loW x.2)]
def totL (t : Tot) : List Value := (List.range 10).flatMap fun k => totP (t k)
def totC (t : Tot) : Array Value := (totL t).toArray
def tot0 : Tot := fun _ => (0, 0)
set_option maxRecDepth 20000 in
theorem totL_len (t : Tot) : (totL t).length = 30 := chunk_len 10 3 _ (fun _ => rfl)
set_option maxRecDepth 20000 in
theorem totC_size (t : Tot) : (totC t).size = 30 := by unfold totC; rw [List.size_toArray, totL_len]
set_option maxRecDepth 20000 in
theorem totC_get (t : Tot) (k j : Nat) (hk : k < 10) (hj : j < 3) : (totC t)[k * 3 + j]? = (totP (t k))[j]? := by
  unfold totC totL; rw [List.getElem?_toArray, chunk_get _ 3 _ (fun _ => rfl) k j hk hj]
set_option maxRecDepth 20000 in
theorem totC_g0 (t : Tot) (k : Nat) (hk : k < 10) : (totC t)[k * 3]? = some (.int .i64 (t k).1) := totC_get t k 0 hk (by omega)
set_option maxRecDepth 20000 in
theorem totC_g1 (t : Tot) (k : Nat) (hk : k < 10) : (totC t)[k * 3 + 1]? = some (.int .i64 (hiW (t k).2)) := totC_get t k 1 hk (by omega)
set_option maxRecDepth 20000 in
theorem totC_g2 (t : Tot) (k : Nat) (hk : k < 10) : (totC t)[k * 3 + 2]? = some (.int .u64 (loW (t k).2)) := totC_get t k 2 hk (by omega)
set_option maxRecDepth 20000 in
theorem totC_set (t : Tot) (k : Nat) (hk : k < 10) (c s : Int) :
    (((totC t).setIfInBounds (k * 3) (.int .i64 c)).setIfInBounds (k * 3 + 1) (.int .i64 (hiW s))).setIfInBounds (k * 3 + 2) (.int .u64 (loW s)) = totC (updF t k (c, s)) := by
  refine Array.ext' ?_
  unfold totC
  refine chunk_ext 10 3 (fun k' => totP (updF t k (c, s) k')) (fun _ => rfl) _ (by simp only [Array.toList_setIfInBounds, List.length_set, totL_len]) (by omega) fun i j hi hj => ?_
  have hlen := totL_len t
  simp only [Array.toList_setIfInBounds, List.getElem?_set, List.length_set, hlen]
  by_cases e : i = k
  · subst e
    rw [updF_same]
    rcases (show j = 0 ∨ j = 1 ∨ j = 2 by omega) with rfl | rfl | rfl
    · rw [if_neg (by omega), if_neg (by omega), if_pos (by omega), if_pos (by omega)]; rfl
    · rw [if_neg (by omega), if_pos (by omega), if_pos (by omega)]; rfl
    · rw [if_pos (by omega), if_pos (by omega)]; rfl
  · rw [updF_ne _ _ e, if_neg (by omega), if_neg (by omega), if_neg (by omega)]
    exact chunk_get 10 3 (fun k => totP (t k)) (fun _ => rfl) i j hi hj
set_option maxRecDepth 20000 in
theorem totC_one (t : Tot) : (totC t).all (·.oneCell') = true := by
  rw [Array.all_eq_true_iff_forall_mem]
  intro v hv
  simp only [totC, totL, List.mem_toArray, List.mem_flatMap, totP, List.mem_cons, List.not_mem_nil, or_false] at hv
  obtain ⟨k, _, rfl | rfl | rfl⟩ := hv <;> rfl
set_option maxRecDepth 20000 in
theorem foldTot : #[Value.int .i64 0, .int .i64 0, .int .u64 0, .int .i64 0, .int .i64 0, .int .u64 0, .int .i64 0, .int .i64 0, .int .u64 0, .int .i64 0, .int .i64 0, .int .u64 0, .int .i64 0, .int .i64 0, .int .u64 0,
    .int .i64 0, .int .i64 0, .int .u64 0, .int .i64 0, .int .i64 0, .int .u64 0, .int .i64 0, .int .i64 0, .int .u64 0, .int .i64 0, .int .i64 0, .int .u64 0, .int .i64 0, .int .i64 0, .int .u64 0] = totC tot0 := by rfl

/-! ### the grid -/
def gridC (w o : Int) (r R C : Nat) (nw : Slot) (t : Tot) : Array Value :=
  #[.int .i64 w, .int .i64 o, .slice (some ⟨r, 0, none⟩) R C, .bool nw.some, .int .i64 nw.num, .int .i64 nw.off, .int .i64 nw.del] ++ totC t
set_option maxRecDepth 20000 in
theorem gridC_size (w o : Int) (r R C : Nat) (nw : Slot) (t : Tot) : (gridC w o r R C nw t).size = 37 := by unfold gridC; rw [Array.size_append, totC_size]; rfl
set_option maxRecDepth 20000 in
theorem gridC_lo (w o : Int) (r R C : Nat) (nw : Slot) (t : Tot) (i : Nat) (hi : i < 7) : (gridC w o r R C nw t)[i]? = #[.int .i64 w, .int .i64 o, .slice (some ⟨r, 0, none⟩) R C, .bool nw.some, .int .i64 nw.num, .int .i64 nw.off, .int .i64 nw.del][i]? := by
  unfold gridC; rw [Array.getElem?_append_left (by simpa using hi)]
set_option maxRecDepth 20000 in
theorem gridC_hi (w o : Int) (r R C : Nat) (nw : Slot) (t : Tot) (i : Nat) : (gridC w o r R C nw t)[7 + i]? = (totC t)[i]? := by
  unfold gridC; rw [Array.getElem?_append_right (by simp)]; congr 1; simp
set_option maxRecDepth 20000 in
theorem gridC_nw (w o : Int) (r R C : Nat) (nw s : Slot) (t : Tot) :
    ((((gridC w o r R C nw t).setIfInBounds 3 (.bool s.some)).setIfInBounds 4 (.int .i64 s.num)).setIfInBounds 5 (.int .i64 s.off)).setIfInBounds 6 (.int .i64 s.del) = gridC w o r R C s t := by
  refine Array.ext_getElem? fun i => ?_
  by_cases c : i < 7
  · rw [gridC_lo _ _ _ _ _ s _ i c]
    have hs := gridC_size w o r R C nw t
    simp only [Array.getElem?_setIfInBounds, Array.size_setIfInBounds, hs]
    rcases (show i = 0 ∨ i = 1 ∨ i = 2 ∨ i = 3 ∨ i = 4 ∨ i = 5 ∨ i = 6 by omega) with rfl | rfl | rfl | rfl | rfl | rfl | rfl <;> simp [gridC_lo]
  · obtain ⟨j, rfl⟩ : ∃ j, i = 7 + j := ⟨i - 7, by omega⟩
    rw [gridC_hi, Array.getElem?_setIfInBounds_ne (by omega), Array.getElem?_setIfInBounds_ne (by omega), Array.getElem?_setIfInBounds_ne (by omega), Array.getElem?_setIfInBounds_ne (by omega), gridC_hi]
end Go.Proofs.Ythgkhllkhhnlpaa
/- allan's grid in memory: totals are loaded and stored whole; at, find, with. -/
namespace Go.Proofs.Ythgkhllkhhnlpaa
open Go.RowKit

set_option maxRecDepth 20000 in
theorem infoTot : (Try.prog.info? 126).map (·.size) = some 30 := by kernel_rfl
set_option maxRecDepth 20000 in
theorem blk_range {w : World} {g o : Nat} {t : TypeId} {cs : Array Value} (h : Blk w g t cs) (l : List Value) (hl : ∀ j v, l[j]? = some v → cs[o + j]? = some v) : w.rangeAt g o l := by
  intro j v hv
  rw [blk_cell h]
  exact hl j v hv
set_option maxRecDepth 20000 in
theorem blk_there {w : World} {g o n : Nat} {t : TypeId} {cs : Array Value} (h : Blk w g t cs) (hn : o + n ≤ cs.size) : w.there g o n := by
  intro j hj
  refine ⟨?_, blk_frozen h _⟩
  rw [blk_cell h, Array.getElem?_eq_getElem (by omega)]
  rfl
/-- totals that lie in a block from a place on -/
class TotAt (w : World) (g o : Nat) (t : outParam Tot) : Prop where
  out : w.rangeAt g o (totL t)
set_option maxRecDepth 20000 in
theorem totL_get (t : Tot) (j : Nat) : (totL t)[j]? = (totC t)[j]? := by unfold totC; rw [List.getElem?_toArray]
set_option maxRecDepth 20000 in
instance (w : World) (g : Nat) (ty : TypeId) (t : Tot) [h : Blk w g ty (totC t)] : TotAt w g 0 t := ⟨blk_range h _ fun j v hv => by rw [Nat.zero_add, ← totL_get]; exact hv⟩
set_option maxRecDepth 20000 in
instance (x y : Int) (w : World) (g : Nat) (ty : TypeId) (r R C : Nat) (nw : Slot) (t : Tot) [h : Blk w g ty (gridC x y r R C nw t)] : TotAt w g 7 t := ⟨blk_range h _ fun j v hv => by rw [gridC_hi, ← totL_get]; exact hv⟩
def loadTot (v : Value) : Sem Value := Instr.loadAt 126 v
def storeTot (v x : Value) : Sem Unit := Instr.storeAt 126 v x
set_option maxRecDepth 20000 in
theorem loadAt_tot (v : Value) : Instr.loadAt 126 v = loadTot v := rfl
set_option maxRecDepth 20000 in
theorem storeAt_tot (v x : Value) : Instr.storeAt 126 v x = storeTot v x := rfl
set_option maxRecDepth 20000 in
theorem run_loadTot (w : World) (g o : Nat) (t : Tot) [h : TotAt w g o t] : (loadTot (.pointer (some ⟨g, o, none⟩))).run Try.prog w = .ok (.agg (totC t)) w :=
  run_loadAt_mid w g o _ (totL t) _ h.out Try.underlying126 rfl (by rw [totL_len]; exact infoTot)
class Sz30 (cs : Array Value) : Prop where
  out : cs.size = 30
set_option maxRecDepth 20000 in
instance (t : Tot) : Sz30 (totC t) := ⟨totC_size t⟩
set_option maxRecDepth 20000 in
theorem run_storeTot (w : World) (g : Nat) (ty : TypeId) (t : Tot) (cs : Array Value) [h : Blk w g ty cs] [z : Sz30 cs] : (storeTot (.pointer (some ⟨g, 0, none⟩)) (.agg (totC t))).run Try.prog w = .ok () (w.setRow g (totC t)) := by
  unfold storeTot Instr.storeAt
  simp only [Instr.sureAddr, Sem.run_bind, Sem.run_pure, Result.andThen_ok]
  exact run_storeVar_row w g ty _ cs (totC t) h.out (by rw [totC_size]; exact infoTot) (by rw [z.out, totC_size]) (totC_one t)
set_option maxRecDepth 20000 in
theorem run_storeTot_mid (x y : Int) (w : World) (g : Nat) (ty : TypeId) (r R C : Nat) (nw : Slot) (t t' : Tot) [h : Blk w g ty (gridC x y r R C nw t)] : (storeTot (.pointer (some ⟨g, 7, none⟩)) (.agg (totC t'))).run Try.prog w = .ok () (w.setCells g 7 (totC t').toList) :=
  run_storeAt_mid w g 7 _ (totC t') (by rw [totC_size]; exact blk_there h (by rw [gridC_size]; omega)) (by rw [totC_size]; exact infoTot) (totC_one t')
attribute [go_sem ↓] loadAt_tot storeAt_tot
attribute [go_sem] run_loadTot run_storeTot run_storeTot_mid foldTot
attribute [go_sem] totC_g0 totC_g1 totC_g2 totC_set
set_option maxRecDepth 20000 in
theorem ret_tot {fn : Func} {p : Tmp} {R : Ending → World → Prop} {a : Act} {w : World} (g : Nat) (ty : TypeId) (t : Tot) (hr : fn.results = #[.cell p 126]) (hp : a.tmps.getD p undef = .pointer (some ⟨g, 0, none⟩)) (hd : a.defers = [])
    [h : Blk w g ty (totC t)] (hR : R (.returned (.agg (totC t))) w) : bodyPost Try.prog fn R .ret a w :=
  bodyPost_ret (results_cell_row hr _ w g ty (totC t) (0, 0) _ hp h.out Try.underlying126 rfl (by rw [totC_size]; exact infoTot)) hd hR
/-- a row over which others are written -/
def over (cs : Array Value) : Nat → List Value → Array Value
  | _, [] => cs
  | o, v :: r => over (cs.setIfInBounds o v) (o + 1) r
set_option maxRecDepth 20000 in
theorem blk_setCells {g : Nat} {t : TypeId} : ∀ (vs : List Value) (o : Nat) {w : World} {cs : Array Value}, Blk w g t cs → Blk (w.setCells g o vs) g t (over cs o vs)
  | [], _, _, _, h => h
  | v :: r, o, _, _, h => blk_setCells r (o + 1) (blk_setCell h o v)
set_option maxRecDepth 20000 in
theorem blk_setCells_ne {g k : Nat} {t : TypeId} {cs : Array Value} (n : g ≠ k) : ∀ (vs : List Value) (o : Nat) {w : World}, Blk w k t cs → Blk (w.setCells g o vs) k t cs
  | [], _, _, h => h
  | v :: r, o, _, h => blk_setCells_ne n r (o + 1) (blk_setCell_ne h n o v)
set_option maxRecDepth 20000 in
theorem mo_setCells {V : World} {g : Nat} (hg : V.heap.size ≤ g) : ∀ (vs : List Value) (o : Nat) {w : World}, Mo V w → Mo V (w.setCells g o vs)
  | [], _, _, h => h
  | v :: r, o, _, h => mo_setCells hg r (o + 1) (mo_setCell h hg o v)
set_option maxRecDepth 20000 in
theorem over_get : ∀ (vs : List Value) (o : Nat) (cs : Array Value) (i : Nat), o + vs.length ≤ cs.size → (over cs o vs)[i]? = if o ≤ i ∧ i < o + vs.length then vs[i - o]? else cs[i]?
  | [], o, cs, i, _ => by rw [if_neg (by simp only [List.length_nil]; omega)]; rfl
  | v :: r, o, cs, i, h => by
    simp only [List.length_cons] at h ⊢
    rw [over, over_get r (o + 1) _ i (by simp; omega)]
    by_cases c : i = o
    · subst c
      rw [if_neg (by omega), if_pos (by omega), Array.getElem?_setIfInBounds_self_of_lt (by omega)]
      simp
    · rw [Array.getElem?_setIfInBounds_ne (by omega)]
      by_cases d : o + 1 ≤ i ∧ i < o + 1 + r.length
      · rw [if_pos d, if_pos (by omega), show i - o = i - (o + 1) + 1 by omega, List.getElem?_cons_succ]
      · rw [if_neg d, if_neg (by omega)]
set_option maxRecDepth 20000 in
theorem gridC_over (x y : Int) (r R C : Nat) (nw : Slot) (t t' : Tot) : over (gridC x y r R C nw t) 7 (totC t').toList = gridC x y r R C nw t' := by
  have hl : (totC t').toList.length = 30 := by rw [Array.length_toList, totC_size]
  refine Array.ext_getElem? fun i => ?_
  rw [over_get _ _ _ _ (by rw [hl, gridC_size]; omega), hl]
  by_cases c : i < 7
  · rw [if_neg (by omega), gridC_lo _ _ _ _ _ _ _ _ c, gridC_lo _ _ _ _ _ _ _ _ c]
  · obtain ⟨j, rfl⟩ : ∃ j, i = 7 + j := ⟨i - 7, by omega⟩
    by_cases d : j < 30
    · rw [if_pos (by omega), show 7 + j - 7 = j by omega, Array.getElem?_toList, gridC_hi]
    · rw [if_neg (by omega), gridC_hi, gridC_hi, Array.getElem?_eq_none (by rw [totC_size]; omega), Array.getElem?_eq_none (by rw [totC_size]; omega)]
set_option maxRecDepth 20000 in
theorem blk_tot {w : World} {g : Nat} {ty : TypeId} {x y : Int} {r R C : Nat} {nw : Slot} {t t' : Tot} (h : Blk w g ty (gridC x y r R C nw t)) : Blk (w.setCells g 7 (totC t').toList) g ty (gridC x y r R C nw t') := by
  have := blk_setCells (totC t').toList 7 h
  rwa [gridC_over] at this

/-! ### at, find -/
set_option maxRecDepth 20000 in
theorem inW_div {s n : Int} (h : InW s) (hn : 0 < n) : InW (s / n) := by
  obtain ⟨h1, h2⟩ := h
  refine ⟨Int.le_ediv_of_mul_le hn ?_, Int.ediv_lt_of_lt_mul hn ?_⟩
  · have : (-170141183460469231731687303715884105728) * n ≤ (-170141183460469231731687303715884105728) * 1 := Int.mul_le_mul_of_nonpos_left (by decide) (by omega)
    omega
  · have : 170141183460469231731687303715884105728 * 1 ≤ 170141183460469231731687303715884105728 * n := Int.mul_le_mul_of_nonneg_left (by omega) (by decide)
    omega
def idx (R : Nat) (x : Int) : Nat := (x % R).toNat
set_option maxRecDepth 20000 in
theorem idx_lt {R : Nat} (h : 0 < R) (x : Int) : idx R x < R := by
  unfold idx
  have := Int.emod_lt_of_pos x (show (0 : Int) < R by omega)
  have := Int.emod_nonneg x (show (R : Int) ≠ 0 by omega)
  omega
set_option maxRecDepth 20000 in
theorem tmod_pos (x R : Int) (h : 0 < R) : (x.tmod R + R).tmod R = x % R ∧ -R < x.tmod R ∧ x.tmod R < R := by
  rcases Int.le_total 0 x with c | c
  · have h1 := Int.emod_lt_of_pos x h
    have h2 := Int.emod_nonneg x (show R ≠ 0 by omega)
    rw [Int.tmod_eq_emod_of_nonneg c, Int.tmod_eq_emod_of_nonneg (by omega), Int.add_emod_right, Int.emod_emod]
    exact ⟨rfl, by omega, h1⟩
  · obtain ⟨y, rfl⟩ : ∃ y, x = -y := ⟨-x, by omega⟩
    have h1 := Int.emod_lt_of_pos y h
    have h2 := Int.emod_nonneg y (show R ≠ 0 by omega)
    have e : y.tmod R = y % R := Int.tmod_eq_emod_of_nonneg (by omega)
    rw [Int.neg_tmod, e, Int.tmod_eq_emod_of_nonneg (by omega), Int.add_emod_right]
    refine ⟨?_, by omega, by omega⟩
    have d := Int.mul_ediv_add_emod y R
    rw [show -y = -(y % R) + R * (-(y / R)) by rw [Int.mul_neg]; omega, Int.add_mul_emod_self_left]
/-- what a ring holds of a number -/
def fnd (R : Nat) (f : Nat → Slot) (x : Int) : Int × Bool := ((f (idx R x)).off, (f (idx R x)).some && (f (idx R x)).num == x)
set_option maxRecDepth 20000 in
theorem at_any (p r R C : Nat) (x : Int) (W : World) (hR : 0 < R) (hR2 : R ≤ 1025) (hc : W.cell? ⟨p, 2, none⟩ = some (.slice (some ⟨r, 0, none⟩) R C)) :
    Calls Try.prog 55 #[.pointer (some ⟨p, 0, none⟩), .int .i64 x] W fun e w' => e = .returned (.int .i64 (idx R x)) ∧ W = w' := by
  obtain ⟨t1, t2, t3⟩ := tmod_pos x R (by omega)
  have e := Lib.hid (show (x.tmod R + R) % R = (idx R x : Int) by
    rw [← Int.tmod_eq_emod_of_nonneg (show 0 ≤ x.tmod R + R by omega), t1]; unfold idx
    have := Int.emod_nonneg x (show (R : Int) ≠ 0 by omega)
    omega)
  have hz : ¬ R = 0 := by omega
  have hz' : ((R : Int) == 0) = false := by simp; omega
  clear t1
  go_enter Try.func55, Try.ntmps55
  go_wp2_with fail
  go_ret
  exact ⟨congrArg (fun z => Ending.returned (Value.int .i64 z)) e.out, rfl⟩
abbrev ringAt (W : World) (r i : Nat) (s : Slot) : Prop := W.cell? ⟨r, i * 4, none⟩ = some (.bool s.some) ∧ W.cell? ⟨r, i * 4 + 1, none⟩ = some (.int .i64 s.num) ∧ W.cell? ⟨r, i * 4 + 2, none⟩ = some (.int .i64 s.off) ∧ W.cell? ⟨r, i * 4 + 3, none⟩ = some (.int .i64 s.del)
/-- slots that lie in a block, whatever stands behind them -/
class RingAt (w : World) (r R : Nat) (f : outParam (Nat → Slot)) : Prop where
  out : ∃ cur : Array Value, w.heap[r]? = some (.cells cur 123 (0, 0)) ∧ R * 4 ≤ cur.size ∧ ∀ i j, i < R → j < 4 → cur[i * 4 + j]? = (slotL (f i))[j]?
set_option maxRecDepth 20000 in
theorem RingAt.lt {w : World} {r R : Nat} {f : Nat → Slot} (h : RingAt w r R f) : r < w.heap.size := by
  obtain ⟨cur, h1, _⟩ := h.out
  exact (Array.getElem?_eq_some_iff.1 h1).1
set_option maxRecDepth 20000 in
theorem ringAt_blk {w : World} {r R : Nat} {f : Nat → Slot} (h : Blk w r 123 (ringC R f)) : RingAt w r R f := ⟨_, h.out, by rw [ringC_size]; omega, fun i j hi hj => ringC_get R f i j hi hj⟩
set_option maxRecDepth 20000 in
theorem RingAt.of_same {w w' : World} {r R : Nat} {f : Nat → Slot} (h : RingAt w r R f) (e : w'.heap[r]? = w.heap[r]?) : RingAt w' r R f := by
  obtain ⟨cur, h1, h2⟩ := h.out
  exact ⟨cur, e.trans h1, h2⟩
set_option maxRecDepth 20000 in
instance (w : World) (o : Obj) (r R : Nat) (f : Nat → Slot) [h : RingAt w r R f] : RingAt (w.alloc o) r R f := h.of_same (Below.heap_alloc w o r h.lt)
set_option maxRecDepth 20000 in
instance (w : World) (J : Array Obj) (d r R : Nat) (f : Nat → Slot) [h : RingAt w r R f] : RingAt (more w J d) r R f := h.of_same (more_get w J d r h.lt)
set_option maxRecDepth 20000 in
instance (w : World) (r R : Nat) (f : Nat → Slot) [h : RingAt w r R f] : RingAt w.drew r R f := ⟨h.out⟩
set_option maxRecDepth 20000 in
instance (w : World) (k r R : Nat) (f : Nat → Slot) [h : RingAt w r R f] : RingAt (w.drewN k) r R f := ⟨h.out⟩
set_option maxRecDepth 20000 in
theorem Mo.ring {a b : World} (h : Mo a b) {r R : Nat} {f : Nat → Slot} (k : RingAt a r R f) : RingAt b r R f := by
  obtain ⟨J, d, rfl⟩ := h
  infer_instance
set_option maxRecDepth 20000 in
theorem ringAt_setCell_ne {w : World} {r R k : Nat} {f : Nat → Slot} (h : RingAt w r R f) (n : k ≠ r) (i : Nat) (v : Value) : RingAt (w.setCell ⟨k, i, none⟩ v) r R f := h.of_same (heap_setCell_other w ⟨k, i, none⟩ r v (Ne.symm n))
set_option maxRecDepth 20000 in
theorem ringAt_setCells_ne {k r R : Nat} {f : Nat → Slot} (n : k ≠ r) : ∀ (vs : List Value) (o : Nat) {w : World}, RingAt w r R f → RingAt (w.setCells k o vs) r R f
  | [], _, _, h => h
  | v :: l, o, _, h => ringAt_setCells_ne n l (o + 1) (ringAt_setCell_ne h n o v)
set_option maxRecDepth 20000 in
theorem ringAt_setRow_ne {w : World} {r R k : Nat} {f : Nat → Slot} (h : RingAt w r R f) (n : k ≠ r) (cs : Array Value) : RingAt (w.setRow k cs) r R f := h.of_same (setRow_get_ne w k r cs n)
set_option maxRecDepth 20000 in
theorem ringAt_frozen {w : World} {r R : Nat} {f : Nat → Slot} (h : RingAt w r R f) (i : Nat) : w.frozen? ⟨r, i, none⟩ = false := by
  obtain ⟨cur, h1, _⟩ := h.out
  exact blk_frozen ⟨h1⟩ i
set_option maxRecDepth 20000 in
theorem ring_at {W : World} {r R : Nat} {f : Nat → Slot} (h : RingAt W r R f) (i : Nat) (hi : i < R) : ringAt W r i (f i) := by
  obtain ⟨cur, h1, _, h2⟩ := h.out
  have hb : Blk W r 123 cur := ⟨h1⟩
  exact ⟨by rw [blk_cell hb]; exact h2 i 0 hi (by omega), by rw [blk_cell hb]; exact h2 i 1 hi (by omega), by rw [blk_cell hb]; exact h2 i 2 hi (by omega), by rw [blk_cell hb]; exact h2 i 3 hi (by omega)⟩
set_option maxRecDepth 20000 in
theorem ringAt_set {W : World} {r R : Nat} {f : Nat → Slot} (h : RingAt W r R f) (i : Nat) (hi : i < R) (s : Slot) :
    RingAt ((((W.setCell ⟨r, i * 4, none⟩ (.bool s.some)).setCell ⟨r, i * 4 + 1, none⟩ (.int .i64 s.num)).setCell ⟨r, i * 4 + 2, none⟩ (.int .i64 s.off)).setCell ⟨r, i * 4 + 3, none⟩ (.int .i64 s.del)) r R (updF f i s) := by
  obtain ⟨cur, h1, hz, h2⟩ := h.out
  have hb : Blk W r 123 cur := ⟨h1⟩
  have := blk_setCell (blk_setCell (blk_setCell (blk_setCell hb (i * 4) (.bool s.some)) (i * 4 + 1) (.int .i64 s.num)) (i * 4 + 2) (.int .i64 s.off)) (i * 4 + 3) (.int .i64 s.del)
  refine ⟨_, this.out, by simpa using hz, fun k j hk hj => ?_⟩
  simp only [Array.getElem?_setIfInBounds, Array.size_setIfInBounds]
  by_cases e : k = i
  · subst e
    rw [updF_same]
    rcases (show j = 0 ∨ j = 1 ∨ j = 2 ∨ j = 3 by omega) with rfl | rfl | rfl | rfl
    · rw [if_neg (by omega), if_neg (by omega), if_neg (by omega), if_pos (by omega), if_pos (by omega)]; rfl
    · rw [if_neg (by omega), if_neg (by omega), if_pos (by omega), if_pos (by omega)]; rfl
    · rw [if_neg (by omega), if_pos (by omega), if_pos (by omega)]; rfl
    · rw [if_pos (by omega), if_pos (by omega)]; rfl
  · rw [updF_ne _ _ e, if_neg (by omega), if_neg (by omega), if_neg (by omega), if_neg (by omega)]
    exact h2 k j hk hj
set_option maxRecDepth 20000 in
set_option maxHeartbeats 1000000 in
theorem find_any (p r R C : Nat) (f : Nat → Slot) (x : Int) (W : World) (hR : 0 < R) (hR2 : R ≤ 1025) (hc : W.cell? ⟨p, 2, none⟩ = some (.slice (some ⟨r, 0, none⟩) R C)) (hB : RingAt W r R f) :
    Calls Try.prog 83 #[.pointer (some ⟨p, 0, none⟩), .int .i64 x] W fun e w' => e = .returned (.tuple #[.int .i64 (fnd R f x).1, .bool (fnd R f x).2]) ∧ Mo W w' := by
  have A := Lib.hid (fun (W' : World) (h : W'.cell? ⟨p, 2, none⟩ = some (.slice (some ⟨r, 0, none⟩) R C)) => at_any p r R C x W' hR hR2 h)
  have hi := idx_lt hR x
  obtain ⟨c0, c1, c2, c3⟩ := ring_at hB (idx R x) hi
  have LP : LtW p W := LtW.of_cell hc
  have LR : LtW r W := LtW.of_cell c0
  have e := Lib.hid (show fnd R f x = ((f (idx R x)).off, (f (idx R x)).some && (f (idx R x)).num == x) from rfl)
  have i1 : (0 : Int) ≤ (idx R x : Int) := by omega
  have i2 : (idx R x : Int) < R := by omega
  generalize fnd R f x = res at *
  generalize f (idx R x) = s at *
  generalize idx R x = i at *
  obtain ⟨sm, nm, of, dl⟩ := s
  simp only at c0 c1 c2 c3 e
  clear hB
  go_enter Try.func83, Try.ntmps83
  go_wp2_with fail
  go_region_held3 (fun w' => w'.cell? ⟨p, 2, none⟩ = some (.slice (some ⟨r, 0, none⟩) R C) ∧ w'.cell? ⟨r, i * 4, none⟩ = some (.bool sm) ∧ w'.cell? ⟨r, i * 4 + 1, none⟩ = some (.int .i64 nm) ∧ w'.cell? ⟨r, i * 4 + 2, none⟩ = some (.int .i64 of) ∧ w'.cell? ⟨r, i * 4 + 3, none⟩ = some (.int .i64 dl)) (simp [go_sem, hc, c0, c1, c2, c3])
    (first
    | ((with_reducible refine (A.out _ (by simp [go_sem, hc])).mono ?_); rintro e1 w1 ⟨rfl, rfl⟩))
  all_goals
    rename_i hHeld
    clear hHeld
    cases sm
    · go_wp2_with fail
      refine wp_region_mo (by kernel_rfl) (by kernel_rfl) ?_
      repeat (go_big_quiet_step (fail))
      refine wpQuiet_nil ?_
      intro _ hw'
      obtain ⟨⟨J9, d9⟩, hw''⟩ := hw'
      subst hw''
      go_wp2_with fail
      go_ret2
      rw [e.out]
      exact ⟨rfl, Mor.out⟩
    · go_wp2_with fail
      refine wp_region_mo (by kernel_rfl) (by kernel_rfl) ?_
      repeat (go_big_quiet_step (fail))
      refine wpQuiet_nil ?_
      intro _ hw'
      obtain ⟨⟨J9, d9⟩, hw''⟩ := hw'
      subst hw''
      go_wp2_with fail
      go_ret2
      rw [e.out]
      exact ⟨rfl, Mor.out⟩
end Go.Proofs.Ythgkhllkhhnlpaa
/- allan's with: the sums with a slot behind all others. -/
namespace Go.Proofs.Ythgkhllkhhnlpaa
open Go.RowKit

/-- one octave more -/
def withS (R : Nat) (f : Nat → Slot) (s : Slot) (t : Tot) (k : Nat) : Tot :=
  if (s.some && (fnd R f (wrap64 (s.num - 2 ^ k))).2 && (fnd R f (wrap64 (s.num - 2 * 2 ^ k))).2) = true then
    updF t k ((t k).1 + 1, (t k).2 + (s.off - 2 * (fnd R f (wrap64 (s.num - 2 ^ k))).1 + (fnd R f (wrap64 (s.num - 2 * 2 ^ k))).1) * (s.off - 2 * (fnd R f (wrap64 (s.num - 2 ^ k))).1 + (fnd R f (wrap64 (s.num - 2 * 2 ^ k))).1))
  else t
def withK (R : Nat) (f : Nat → Slot) (s : Slot) (t : Tot) (n : Nat) : Tot := (List.range n).foldl (withS R f s) t
set_option maxRecDepth 20000 in
theorem withK_succ (R : Nat) (f : Nat → Slot) (s : Slot) (t : Tot) (n : Nat) : withK R f s t (n + 1) = withS R f s (withK R f s t n) n := by
  unfold withK; rw [List.range_succ, List.foldl_append]; rfl
set_option maxRecDepth 20000 in
theorem withS_ne (R : Nat) (f : Nat → Slot) (s : Slot) (t : Tot) {k j : Nat} (h : j ≠ k) : withS R f s t k j = t j := by
  unfold withS; split
  · exact updF_ne _ _ h
  · rfl
set_option maxRecDepth 20000 in
theorem withK_above (R : Nat) (f : Nat → Slot) (s : Slot) (t : Tot) (n j : Nat) (h : n ≤ j) : withK R f s t n j = t j := by
  induction n with
  | zero => rfl
  | succ n ih => rw [withK_succ, withS_ne _ _ _ _ (by omega), ih (by omega)]
/-- offsets that are no more than 2^47 from 0 -/
def Near (x : Int) : Prop := -140737488355328 ≤ x ∧ x ≤ 140737488355328

set_option maxRecDepth 20000 in
theorem sq_bd' {x B : Int} (h1 : -B ≤ x) (h2 : x ≤ B) : x * x ≤ B * B := by
  rcases Int.le_total 0 x with c | c
  · exact Int.mul_le_mul h2 h2 c (by omega)
  · rw [← Int.neg_mul_neg x x]; exact Int.mul_le_mul (by omega) (by omega) (by omega) (by omega)
set_option maxRecDepth 20000 in
theorem sq_nn' (x : Int) : 0 ≤ x * x := by
  rcases Int.le_total 0 x with c | c
  · exact Int.mul_nonneg c c
  · rw [← Int.neg_mul_neg x x]; exact Int.mul_nonneg (by omega) (by omega)
set_option maxRecDepth 20000 in
theorem two_pow_10 {k : Nat} (h : k < 10) : (1 : Int) ≤ 2 ^ k ∧ (2 : Int) ^ k ≤ 512 := by
  rcases (show k = 0 ∨ k = 1 ∨ k = 2 ∨ k = 3 ∨ k = 4 ∨ k = 5 ∨ k = 6 ∨ k = 7 ∨ k = 8 ∨ k = 9 by omega) with rfl | rfl | rfl | rfl | rfl | rfl | rfl | rfl | rfl | rfl <;> decide
set_option maxRecDepth 20000 in
set_option maxHeartbeats 4000000 in
theorem with_any (p r R C o : Nat) (x : Int) (nw s : Slot) (t : Tot) (ty : TypeId) (f : Nat → Slot) (W : World) (hR : 0 < R) (hR2 : R ≤ 1025) (ho : o ≤ 10)
    (n1 : -9223372036854775808 ≤ s.num) (n2 : s.num ≤ 9223372036854775807) (o1 : Near s.off) (hf : ∀ i, Near (f i).off)
    (hc : ∀ k, k < 10 → 0 ≤ (t k).1 ∧ (t k).1 ≤ 1000000 ∧ 0 ≤ (t k).2 ∧ (t k).2 ≤ 85070591730234615865843651857942052864)
    (hB : Blk W p ty (gridC x o r R C nw t)) (hB' : RingAt W r R f) :
    Calls Try.prog 54 #[.pointer (some ⟨p, 0, none⟩), .agg (slotC s)] W fun e w' => e = .returned (.agg (totC (withK R f s t o))) ∧ Mo W w' := by
  have c1 : W.cell? ⟨p, 1, none⟩ = some (.int .i64 o) := by rw [blk_cell hB, gridC_lo _ _ _ _ _ _ _ _ (by omega)]; rfl
  have c2 : W.cell? ⟨p, 2, none⟩ = some (.slice (some ⟨r, 0, none⟩) R C) := by rw [blk_cell hB, gridC_lo _ _ _ _ _ _ _ _ (by omega)]; rfl
  have LP : LtW p W := LtW.of_cell c1
  have LR : LtW r W := ⟨hB'.lt⟩
  have F1 := Lib.hid (fun (W' : World) (z : Int) (h : W'.cell? ⟨p, 2, none⟩ = some (.slice (some ⟨r, 0, none⟩) R C)) (h' : RingAt W' r R f) => find_any p r R C f z W' hR hR2 h h')
  have HF := Lib.hid hf
  have HC := Lib.hid hc
  have WS := Lib.hid (withK_succ R f s t)
  have WA := Lib.hid (withK_above R f s t)
  have WZ : withK R f s t 0 = t := rfl
  clear hf hc
  obtain ⟨sm, nm, of, dl⟩ := s
  simp only at n1 n2 o1
  go_enter Try.func54, Try.ntmps54
  go_wp2_with fail
  go_loopw [21] (fun i wr => ∃ k : Nat, k ≤ o ∧ i = .int .i64 k ∧ Mo (((W.alloc (.cells (slotC ⟨sm, nm, of, dl⟩) 123)).alloc (.cells (totC tot0) 126)).alloc (.cells (totC (withK R f ⟨sm, nm, of, dl⟩ t k)) 126)) wr) (fun i _ => o - (intOf i).toNat)
  case atStart => exact ⟨0, by omega, rfl, by rw [WZ]; exact Mo.refl _⟩
  case round =>
    obtain ⟨k, hk, rfl, J, d, rfl⟩ := hrel
    by_cases ck : k < o
    · have hw := WS.out k
      unfold withS at hw
      simp only at hw
      have htk := WA.out k k (Nat.le_refl _)
      rw [htk] at hw
      obtain ⟨m, hm⟩ : ∃ m : Int, (2 : Int) ^ k = m := ⟨_, rfl⟩
      have hmb := two_pow_10 (show k < 10 by omega)
      rw [hm] at hw hmb
      obtain ⟨m1, m2⟩ := hmb
      have hm2 : wrap64 (2 ^ k) = m := by rw [hm]; unfold wrap64; omega
      have FA := fun W' h h' => F1.out W' (wrap64 (nm - m)) h h'
      have FB := fun W' h h' => F1.out W' (wrap64 (nm - 2 * m)) h h'
      obtain ⟨q1, q2, q3, q4⟩ := HC.out k (by omega)
      have na : Near (fnd R f (wrap64 (nm - m))).1 := HF.out _
      have nb : Near (fnd R f (wrap64 (nm - 2 * m))).1 := HF.out _
      clear hm WS WA WZ F1 HF HC
      generalize fnd R f (wrap64 (nm - m)) = ra at *
      generalize fnd R f (wrap64 (nm - 2 * m)) = rb at *
      generalize withK R f ⟨sm, nm, of, dl⟩ t k = tk at *
      have HK : Hid (∃ T', withK R f ⟨sm, nm, of, dl⟩ t (k + 1) = T') := Lib.hid ⟨_, rfl⟩
      generalize hT : withK R f ⟨sm, nm, of, dl⟩ t (k + 1) = tk' at hw
      replace hT := Lib.hid hT
      clear HK
      generalize t k = tt at *
      obtain ⟨cc, ss⟩ := tt
      obtain ⟨a, ab⟩ := ra
      obtain ⟨b, bb⟩ := rb
      obtain ⟨na1, na2⟩ := na
      obtain ⟨nb1, nb2⟩ := nb
      obtain ⟨o1, o2⟩ := o1
      simp only at na1 na2 nb1 nb2 hw FA FB q1 q2 q3 q4
      replace FA := Lib.hid FA
      replace FB := Lib.hid FB
      have hk10 : k < 10 := by omega
      by_cases hall : (sm && ab && bb) = true
      · have hd : sm = true ∧ ab = true ∧ bb = true := by revert hall; cases sm <;> cases ab <;> cases bb <;> decide
        obtain ⟨rfl, rfl, rfl⟩ := hd
        rw [if_pos (by decide)] at hw
        have M1 := Lib.hid (fun W => mul_any (of - 2 * a + b) (of - 2 * a + b) (by omega) (by omega) (by omega) (by omega) W)
        have dd := sq_bd' (x := of - 2 * a + b) (B := 562949953421312) (by omega) (by omega)
        have d0 := sq_nn' (of - 2 * a + b)
        have A1 := Lib.hid (fun W => add_any ss ((of - 2 * a + b) * (of - 2 * a + b)) (by unfold InW; omega) (by unfold InW; omega) W)
        rw [cl_in (by unfold InW; omega)] at A1
        have hw' := Lib.hid hw
        clear hw hall dd d0
        generalize (of - 2 * a + b) * (of - 2 * a + b) = sq at *
        go_wp2_with fail
        refine (FA.out _ (by simp [go_sem, c2]) (by infer_instance)).mono ?_; rintro e w1 ⟨rfl, J1, d1, rfl⟩
        go_wp2_with fail
        refine (FB.out _ (by simp [go_sem, c2]) (by infer_instance)).mono ?_; rintro e w1 ⟨rfl, J2, d2, rfl⟩
        go_wp2_with fail
        refine wp_region_mo_tail' 16 (by kernel_rfl) (by kernel_rfl) ?_
        simp only [List.take_succ_cons, List.take_zero, List.drop_succ_cons, List.drop_zero]
        repeat (go_big_quiet_step (first | (with_reducible exact quiet_mo (M1.out _)) | (with_reducible exact quiet_mo (A1.out _))))
        refine wpQuiet_nil ?_
        intro _ hw2
        obtain ⟨⟨J9, d9⟩, hw''⟩ := hw2
        subst hw''
        go_wp2_with fail
        go_roundw
        case rel => exact ⟨k + 1, by omega, by go_num, by rw [hT.out, hw'.out]; exact Mor.out⟩
        case measure => simp [intOf]; omega
      · rw [if_neg hall] at hw
        have hw' := Lib.hid hw
        clear hw
        cases sm <;> cases ab <;> cases bb <;> first
          | (exact absurd (by decide) hall)
          | (clear hall
             go_wp2_with fail
             refine (FA.out _ (by simp [go_sem, c2]) (by infer_instance)).mono ?_; rintro e w1 ⟨rfl, J1, d1, rfl⟩
             go_wp2_with fail
             refine (FB.out _ (by simp [go_sem, c2]) (by infer_instance)).mono ?_; rintro e w1 ⟨rfl, J2, d2, rfl⟩
             go_wp2_with fail
             go_roundw
             case rel => exact ⟨k + 1, by omega, by go_num, by rw [hT.out, hw'.out]; exact Mor.out⟩
             case measure => simp [intOf]; omega)
    · obtain rfl : k = o := by omega
      clear WS WA WZ F1 HF HC
      go_wp2_with fail
      exact ret_tot (W.heap.size + 1) 126 (withK R f ⟨sm, nm, of, dl⟩ t k) Try.results54 rfl rfl ⟨rfl, Mor.out⟩
end Go.Proofs.Ythgkhllkhhnlpaa
/- allan: Live. -/
namespace Go.Proofs.Ythgkhllkhhnlpaa
open Go.RowKit

/-- is a slot held that is at most so far behind? -/
def nigh (a : Int) (o : Nat) (s : Slot) : Bool := s.some && decide ((a - s.num) % 18446744073709551616 ≤ 2 ^ o)
def liveN (f : Nat → Slot) (a : Int) (o : Nat) : Nat → Nat
  | 0 => 0
  | i + 1 => liveN f a o i + (if nigh a o (f i) then 1 else 0)
set_option maxRecDepth 20000 in
theorem liveN_le (f : Nat → Slot) (a : Int) (o n : Nat) : liveN f a o n ≤ n := by
  induction n with
  | zero => exact Nat.le_refl _
  | succ n ih => unfold liveN; split <;> omega
set_option maxRecDepth 20000 in
theorem u64_sub (a b : Int) : IntKind.u64.wrap (wrap64 (a - b)) = (a - b) % 18446744073709551616 := by rw [IntKind.wrap_u64]; unfold wrap64; omega

set_option maxRecDepth 20000 in
theorem u64_pow {o : Nat} (h : o ≤ 10) : IntKind.u64.wrap (2 ^ o) = 2 ^ o := by
  rcases (show o = 0 ∨ o = 1 ∨ o = 2 ∨ o = 3 ∨ o = 4 ∨ o = 5 ∨ o = 6 ∨ o = 7 ∨ o = 8 ∨ o = 9 ∨ o = 10 by omega) with rfl | rfl | rfl | rfl | rfl | rfl | rfl | rfl | rfl | rfl | rfl <;> decide
set_option maxRecDepth 20000 in
set_option maxHeartbeats 4000000 in
theorem live_grid (p r R C o : Nat) (x : Int) (nw : Slot) (t : Tot) (ty : TypeId) (f : Nat → Slot) (W : World) (hR : 0 < R) (hR2 : R ≤ 1025) (ho : o ≤ 10) (hnw : nw.some = true)
    (hB : Blk W p ty (gridC x o r R C nw t)) (hB' : RingAt W r R f) :
    Calls Try.prog 44 #[.pointer (some ⟨p, 0, none⟩)] W fun e w' => e = .returned (.int .i64 (liveN f nw.num o R + 1)) ∧ Mo W w' := by
  have c1 : W.cell? ⟨p, 1, none⟩ = some (.int .i64 o) := by rw [blk_cell hB, gridC_lo _ _ _ _ _ _ _ _ (by omega)]; rfl
  have c2 : W.cell? ⟨p, 2, none⟩ = some (.slice (some ⟨r, 0, none⟩) R C) := by rw [blk_cell hB, gridC_lo _ _ _ _ _ _ _ _ (by omega)]; rfl
  have c3 : W.cell? ⟨p, 3, none⟩ = some (.bool true) := by rw [blk_cell hB, gridC_lo _ _ _ _ _ _ _ _ (by omega), ← hnw]; rfl
  have c4 : W.cell? ⟨p, 4, none⟩ = some (.int .i64 nw.num) := by rw [blk_cell hB, gridC_lo _ _ _ _ _ _ _ _ (by omega)]; rfl
  have LP : LtW p W := LtW.of_cell c1
  have LR : LtW r W := ⟨hB'.lt⟩
  have RA := Lib.hid (fun i (hi : i < R) => ring_at hB' i hi)
  have LL := Lib.hid (liveN_le f nw.num o)
  clear hB hB' hnw
  generalize nw.num = a at *
  clear nw
  go_enter Try.func44, Try.ntmps44
  go_wp2_with fail
  go_loopw [3, 21] (fun n i wr => ∃ k : Nat, k ≤ R ∧ i = .int .i64 k ∧ n = .int .i64 (liveN f a o k + 1) ∧ Mo W wr) (fun _ i _ => R - (intOf i).toNat)
  case atStart => exact ⟨0, by omega, rfl, rfl, Mor.out⟩
  case round =>
    obtain ⟨k, hk, rfl, rfl, J, d, rfl⟩ := hrel
    by_cases ck : k < R
    · obtain ⟨e0, e1, e2, e3⟩ := RA.out k ck
      have hn : liveN f a o (k + 1) = liveN f a o k + (if nigh a o (f k) then 1 else 0) := rfl
      have hl := LL.out k
      unfold nigh at hn
      generalize f k = s at *
      obtain ⟨sm, nm, of, dl⟩ := s
      simp only at e0 e1 e2 e3 hn
      have us := u64_sub a nm
      obtain ⟨l', hl'⟩ : ∃ l', liveN f a o (k + 1) = l' := ⟨_, rfl⟩
      rw [hl'] at hn
      have HL := Lib.hid hl'
      clear hl'
      generalize liveN f a o k = l at *
      have i1 : (k : Int) < R := by omega
      cases sm
      · have hn' : l' = l := by simpa using hn
        subst hn'
        clear hn RA LL
        go_wp2_with fail
        refine wp_region_mo (by kernel_rfl) (by kernel_rfl) ?_
        repeat (go_big_quiet_step (fail))
        refine wpQuiet_nil ?_
        intro _ hw'
        obtain ⟨⟨J9, d9⟩, hw''⟩ := hw'
        subst hw''
        go_wp2_with fail
        go_roundw
        case rel => exact ⟨k + 1, by omega, by go_num, by rw [HL.out], Mor.out⟩
        case measure => simp [intOf]; omega
      · by_cases near : (a - nm) % 18446744073709551616 ≤ 2 ^ o
        · have ht : decide ((a - nm) % 18446744073709551616 ≤ IntKind.u64.wrap (2 ^ o)) = true := by rw [u64_pow ho]; exact decide_eq_true near
          have hn' := Lib.hid (show l' = l + 1 by simpa [near] using hn)
          clear hn
          clear RA LL near
          go_wp2_with fail
          refine wp_region_mo (by kernel_rfl) (by kernel_rfl) ?_
          repeat (go_big_quiet_step (fail))
          refine wpQuiet_nil ?_
          intro _ hw'
          obtain ⟨⟨J9, d9⟩, hw''⟩ := hw'
          subst hw''
          go_wp2_with fail
          go_roundw
          case rel => exact ⟨k + 1, by omega, by go_num, by rw [HL.out, hn'.out]; go_num, Mor.out⟩
          case measure => simp [intOf]; omega
        · have ht : decide ((a - nm) % 18446744073709551616 ≤ IntKind.u64.wrap (2 ^ o)) = false := by rw [u64_pow ho]; exact decide_eq_false near
          have hn' := Lib.hid (show l' = l by simpa [near] using hn)
          clear hn
          clear RA LL near
          go_wp2_with fail
          refine wp_region_mo (by kernel_rfl) (by kernel_rfl) ?_
          repeat (go_big_quiet_step (fail))
          refine wpQuiet_nil ?_
          intro _ hw'
          obtain ⟨⟨J9, d9⟩, hw''⟩ := hw'
          subst hw''
          go_wp2_with fail
          go_roundw
          case rel => exact ⟨k + 1, by omega, by go_num, by rw [HL.out, hn'.out], Mor.out⟩
          case measure => simp [intOf]; omega
    · obtain rfl : k = R := by omega
      clear RA LL
      go_wp2_with fail
      go_ret
      exact ⟨rfl, Mor.out⟩
set_option maxRecDepth 20000 in
theorem live_none (p r R C o : Nat) (x : Int) (nw : Slot) (t : Tot) (ty : TypeId) (W : World) (hnw : nw.some = false) (hB : Blk W p ty (gridC x o r R C nw t)) :
    Calls Try.prog 44 #[.pointer (some ⟨p, 0, none⟩)] W fun e w' => e = .returned (.int .i64 0) ∧ Mo W w' := by
  have c3 : W.cell? ⟨p, 3, none⟩ = some (.bool false) := by rw [blk_cell hB, gridC_lo _ _ _ _ _ _ _ _ (by omega), ← hnw]; rfl
  clear hB
  go_enter Try.func44, Try.ntmps44
  go_wp2_with fail
  go_ret
  exact ⟨rfl, Mor.out⟩
set_option maxRecDepth 20000 in
theorem live_nil (W : World) : Calls Try.prog 44 #[.pointer none] W fun e w' => e = .returned (.int .i64 0) ∧ Mo W w' := by
  go_enter Try.func44, Try.ntmps44
  go_wp2_with fail
  go_ret
  exact ⟨rfl, Mor.out⟩
set_option maxRecDepth 20000 in
theorem told_gnil (W : World) : Calls Try.prog 36 #[.pointer none] W fun e w' => e = .returned (.slice none 0 0) ∧ Mo W w' := by
  go_enter Try.func36, Try.ntmps36
  go_wp2_with fail
  go_ret
  exact ⟨rfl, Mor.out⟩
set_option maxRecDepth 20000 in
theorem copy_nil (W : World) : Calls Try.prog 74 #[.pointer none] W fun e w' => e = .returned (.pointer none) ∧ Mo W w' := by
  go_enter Try.func74, Try.ntmps74
  go_wp2_with fail
  go_ret
  exact ⟨rfl, Mor.out⟩
end Go.Proofs.Ythgkhllkhhnlpaa
/- allan's slots as a list: what the ring and the totals hold of them; plain. -/
namespace Go.Proofs.Ythgkhllkhhnlpaa
open Go.RowKit

set_option maxRecDepth 20000 in
theorem snoc_ind {α : Type} {P : List α → Prop} (h0 : P []) (h1 : ∀ L s, P L → P (L ++ [s])) (L : List α) : P L := by
  rw [← List.reverse_reverse L]
  generalize L.reverse = M
  induction M with
  | nil => exact h0
  | cons x xs ih => rw [List.reverse_cons]; exact h1 _ _ ih
/-- slots that rise -/
def Rises (M : List Slot) : Prop := M.Pairwise (fun a b => a.num < b.num)
structure Fine (s : Slot) : Prop where
  some : s.some = true
  n1 : -9223372036854775808 ≤ s.num
  n2 : s.num ≤ 9223372036854775807
  near : Near s.off
def lk (L : List Slot) (y : Int) : Option Slot := L.find? (fun a => a.num == y)
set_option maxRecDepth 20000 in
theorem lk_some {L : List Slot} {y : Int} {a : Slot} (h : lk L y = some a) : a ∈ L ∧ a.num = y := by
  unfold lk at h
  exact ⟨List.mem_of_find?_eq_some h, by have := List.find?_some h; simpa using this⟩
set_option maxRecDepth 20000 in
theorem lk_none {L : List Slot} {y : Int} (h : lk L y = none) : ∀ a ∈ L, a.num ≠ y := by
  unfold lk at h
  intro a ha e
  have := List.find?_eq_none.1 h a ha
  simp [e] at this
set_option maxRecDepth 20000 in
theorem rises_uniq {L : List Slot} (h : Rises L) {a b : Slot} (ha : a ∈ L) (hb : b ∈ L) (e : a.num = b.num) : a = b := by
  unfold Rises at h
  induction h with
  | nil => cases ha
  | cons hx _ ih =>
    rcases List.mem_cons.1 ha with rfl | ha' <;> rcases List.mem_cons.1 hb with rfl | hb'
    · rfl
    · have := hx b hb'; omega
    · have := hx a ha'; omega
    · exact ih ha' hb'

/-- a slot more -/
def push (R o : Nat) (g : (Nat → Slot) × Tot) (s : Slot) : (Nat → Slot) × Tot := (updF g.1 (idx R s.num) s, withK R g.1 s g.2 o)
def held (R o : Nat) (L : List Slot) : (Nat → Slot) × Tot := L.foldl (push R o) (fun _ => slot0, tot0)
set_option maxRecDepth 20000 in
theorem held_snoc (R o : Nat) (L : List Slot) (s : Slot) : held R o (L ++ [s]) = push R o (held R o L) s := by unfold held; rw [List.foldl_append]; rfl
/-- what a place of the ring holds: the last slot there -/
structure RingOk (R : Nat) (L : List Slot) (f : Nat → Slot) : Prop where
  in_ : ∀ i, (f i).some = true → f i ∈ L ∧ idx R (f i).num = i
  out : ∀ s ∈ L, (f (idx R s.num)).some = true ∧ s.num ≤ (f (idx R s.num)).num
  zero : ∀ i, (f i).some = false → f i = slot0
set_option maxRecDepth 20000 in
theorem ringOk {R o : Nat} (L : List Slot) : (∀ s ∈ L, Fine s) → Rises L → RingOk R L (held R o L).1 := by
  refine snoc_ind (P := fun L => (∀ s ∈ L, Fine s) → Rises L → RingOk R L (held R o L).1) ?_ ?_ L
  · intro _ _
    exact ⟨fun i h => by simp [held, slot0] at h, fun s h => (by cases h), fun i _ => rfl⟩
  · intro L s ih hF hR
    have hR' : Rises L := (List.pairwise_append.1 hR).1
    have hlast : ∀ a ∈ L, a.num < s.num := fun a ha => (List.pairwise_append.1 hR).2.2 a ha s (by simp)
    have ih := ih (fun a ha => hF a (by simp [ha])) hR'
    have hs := hF s (by simp)
    rw [held_snoc]
    unfold push
    simp only
    generalize (held R o L).1 = f at *
    refine ⟨fun i h => ?_, fun a ha => ?_, fun i h => ?_⟩
    · by_cases e : i = idx R s.num
      · subst e; rw [updF_same]; exact ⟨by simp, rfl⟩
      · rw [updF_ne _ _ e] at h ⊢
        exact ⟨by simp [(ih.in_ i h).1], (ih.in_ i h).2⟩
    · by_cases e : idx R a.num = idx R s.num
      · rw [e, updF_same]
        refine ⟨hs.some, ?_⟩
        rcases List.mem_append.1 ha with h | h
        · have := hlast a h; omega
        · have : a = s := by simpa using h
          rw [this]; exact Int.le_refl _
      · rw [updF_ne _ _ e]
        rcases List.mem_append.1 ha with h | h
        · exact ih.out a h
        · have : a = s := by simpa using h
          rw [this] at e; exact absurd rfl e
    · by_cases e : i = idx R s.num
      · subst e; rw [updF_same] at h; rw [hs.some] at h; cases h
      · rw [updF_ne _ _ e] at h ⊢; exact ih.zero i h
set_option maxRecDepth 20000 in
theorem idx_eq {R : Nat} (hR : 0 < R) {x y : Int} (h : idx R x = idx R y) : ∃ q : Int, y = x + R * q := by
  unfold idx at h
  have h1 := Int.emod_nonneg x (show (R : Int) ≠ 0 by omega)
  have h2 := Int.emod_nonneg y (show (R : Int) ≠ 0 by omega)
  have e1 := Int.mul_ediv_add_emod x R
  have e2 := Int.mul_ediv_add_emod y R
  refine ⟨y / R - x / R, ?_⟩
  rw [Int.mul_sub]
  omega
set_option maxRecDepth 20000 in
theorem idx_far {R : Nat} (hR : 0 < R) {x y : Int} (h : idx R x = idx R y) (hlt : x < y) : x + R ≤ y := by
  obtain ⟨q, rfl⟩ := idx_eq hR h
  have : 0 < q := by
    rcases Int.lt_or_le 0 q with c | c
    · exact c
    · have := Int.mul_nonpos_of_nonneg_of_nonpos (show (0 : Int) ≤ R by omega) c; omega
  have : (R : Int) * 1 ≤ R * q := Int.mul_le_mul_of_nonneg_left (by omega) (by omega)
  omega
set_option maxRecDepth 20000 in
/-- what is found of a number that is m ahead of one behind all -/
theorem fnd_lk {R o : Nat} {L : List Slot} (hR : 0 < R) (hF : ∀ s ∈ L, Fine s) (hr : Rises L) (n m : Int) (n1 : -9223372036854775808 ≤ n) (n2 : n ≤ 9223372036854775807) (hn : ∀ a ∈ L, a.num < n) (m1 : 1 ≤ m) (m2 : m < R) (m3 : m ≤ 1024) :
    (∀ a, lk L (n - m) = some a → fnd R (held R o L).1 (wrap64 (n - m)) = (a.off, true)) ∧ (lk L (n - m) = none → (fnd R (held R o L).1 (wrap64 (n - m))).2 = false) := by
  have ok := ringOk (R := R) (o := o) L hF hr
  generalize (held R o L).1 = f at *
  unfold fnd
  constructor
  · intro a ha
    obtain ⟨h1, h2⟩ := lk_some ha
    have fa := hF a h1
    have hw : wrap64 (n - m) = a.num := by rw [← h2]; unfold wrap64; have := fa.n1; have := fa.n2; omega
    rw [hw]
    obtain ⟨o1, o2⟩ := ok.out a h1
    obtain ⟨i1, i2⟩ := ok.in_ _ o1
    have e : f (idx R a.num) = a := by
      rcases Int.lt_or_le a.num (f (idx R a.num)).num with c | c
      · have := idx_far hR i2.symm c
        have := hn _ i1
        omega
      · exact rises_uniq hr i1 h1 (by omega)
    rw [e, fa.some]
    simp
  · intro h
    have hne := lk_none h
    rw [Bool.and_eq_false_iff]
    by_cases c : (f (idx R (wrap64 (n - m)))).some = true
    · right
      obtain ⟨i1, i2⟩ := ok.in_ _ c
      have a1 := hn _ i1
      have a2 := hne _ i1
      rw [beq_eq_false_iff_ne]
      intro e
      rw [e] at a1 a2
      unfold wrap64 at a1 a2
      omega
    · left; simpa using c

/-- what a slot brings, those ahead of it known -/
def con (k : Nat) (pre : List Slot) (s : Slot) : Int × Int :=
  match lk pre (s.num - 2 ^ k), lk pre (s.num - 2 * 2 ^ k) with
  | some a, some b => (1, (s.off - 2 * a.off + b.off) * (s.off - 2 * a.off + b.off))
  | _, _ => (0, 0)
def sumN (k : Nat) (L : List Slot) : Nat → Int × Int
  | 0 => (0, 0)
  | n + 1 => ((sumN k L n).1 + (con k (L.take n) (L.getD n slot0)).1, (sumN k L n).2 + (con k (L.take n) (L.getD n slot0)).2)
set_option maxRecDepth 20000 in
theorem sumN_append (k : Nat) (L r : List Slot) (n : Nat) (h : n ≤ L.length) : sumN k (L ++ r) n = sumN k L n := by
  induction n with
  | zero => rfl
  | succ n ih =>
    unfold sumN
    rw [ih (by omega), List.take_append_of_le_length (by omega)]
    have : (L ++ r).getD n slot0 = L.getD n slot0 := by simp [List.getD, List.getElem?_append_left (show n < L.length by omega)]
    rw [this]
set_option maxRecDepth 20000 in
theorem sumN_snoc (k : Nat) (L : List Slot) (s : Slot) : sumN k (L ++ [s]) (L.length + 1) = ((sumN k L L.length).1 + (con k L s).1, (sumN k L L.length).2 + (con k L s).2) := by
  show ((sumN k (L ++ [s]) L.length).1 + _, (sumN k (L ++ [s]) L.length).2 + _) = _
  rw [sumN_append k L [s] _ (Nat.le_refl _), List.take_left']
  · simp [List.getD]
  · rfl
set_option maxRecDepth 20000 in
theorem two_pow_le {k o : Nat} (h : k < o) : 2 * (2 : Int) ^ k ≤ 2 ^ o := by
  have h1 : (2 : Nat) ^ (k + 1) ≤ 2 ^ o := Nat.pow_le_pow_right (by decide) h
  have e1 : (2 : Int) ^ o = ((2 ^ o : Nat) : Int) := by simp
  have e2 : (2 : Int) ^ (k + 1) = ((2 ^ (k + 1) : Nat) : Int) := by simp
  rw [← Int.mul_comm, ← Int.pow_succ, e1, e2]
  omega
set_option maxRecDepth 20000 in
theorem two_pow_pos (k : Nat) : (1 : Int) ≤ 2 ^ k := by
  have : (0 : Int) < 2 ^ k := Int.pow_pos (by decide)
  omega
set_option maxRecDepth 20000 in
theorem withS_con {R o : Nat} {L : List Slot} (ho : o ≤ 10) (hRo : R = 2 ^ o + 1) (hF : ∀ s ∈ L, Fine s) (hr : Rises L) (s : Slot) (hs : Fine s) (hn : ∀ a ∈ L, a.num < s.num) (t : Tot) (k : Nat) (hk : k < o) :
    withS R (held R o L).1 s t k k = ((t k).1 + (con k L s).1, (t k).2 + (con k L s).2) := by
  have p1 := two_pow_pos k
  have p2 := two_pow_le hk
  have p3 : (2 : Int) ^ o ≤ 1024 := by
    have h1 : (2 : Nat) ^ o ≤ 2 ^ 10 := Nat.pow_le_pow_right (by decide) ho
    rw [show (2 : Int) ^ o = ((2 ^ o : Nat) : Int) by simp]; omega
  have hR' : (R : Int) = 2 ^ o + 1 := by rw [hRo]; simp
  obtain ⟨A1, A2⟩ := fnd_lk (R := R) (o := o) (by omega) hF hr s.num (2 ^ k) hs.n1 hs.n2 hn (by omega) (by omega) (by omega)
  obtain ⟨B1, B2⟩ := fnd_lk (R := R) (o := o) (by omega) hF hr s.num (2 * 2 ^ k) hs.n1 hs.n2 hn (by omega) (by omega) (by omega)
  unfold withS con
  rw [hs.some, Bool.true_and]
  cases ha : lk L (s.num - 2 ^ k) with
  | none => rw [A2 ha]; simp
  | some a =>
    rw [A1 a ha]
    cases hb : lk L (s.num - 2 * 2 ^ k) with
    | none => rw [B2 hb]; simp
    | some b =>
      rw [B1 b hb]
      simp [updF_same]
set_option maxRecDepth 20000 in
theorem withK_con {R o : Nat} {L : List Slot} (ho : o ≤ 10) (hRo : R = 2 ^ o + 1) (hF : ∀ s ∈ L, Fine s) (hr : Rises L) (s : Slot) (hs : Fine s) (hn : ∀ a ∈ L, a.num < s.num) (t : Tot) (n : Nat) (hno : n ≤ o) (k : Nat) :
    withK R (held R o L).1 s t n k = if k < n then ((t k).1 + (con k L s).1, (t k).2 + (con k L s).2) else t k := by
  induction n with
  | zero => rw [if_neg (by omega)]; rfl
  | succ n ih =>
    rw [withK_succ]
    by_cases e : k = n
    · subst e
      rw [withS_con ho hRo hF hr s hs hn _ k (by omega), ih (by omega), if_neg (by omega), if_pos (by omega)]
    · rw [withS_ne _ _ _ _ e, ih (by omega)]
      by_cases c : k < n
      · rw [if_pos c, if_pos (by omega)]
      · rw [if_neg c, if_neg (by omega)]
set_option maxRecDepth 20000 in
/-- the totals are those of all slots -/
theorem held_tot {R o : Nat} (L : List Slot) (ho : o ≤ 10) (hRo : R = 2 ^ o + 1) (k : Nat) : (∀ s ∈ L, Fine s) → Rises L → (held R o L).2 k = if k < o then sumN k L L.length else (0, 0) := by
  refine snoc_ind (P := fun L => (∀ s ∈ L, Fine s) → Rises L → (held R o L).2 k = if k < o then sumN k L L.length else (0, 0)) ?_ ?_ L
  · intro _ _
    simp [held, tot0, sumN]
  · intro L s ih hF hr
    have hr' : Rises L := (List.pairwise_append.1 hr).1
    have hlast : ∀ a ∈ L, a.num < s.num := fun a ha => (List.pairwise_append.1 hr).2.2 a ha s (by simp)
    have hF' : ∀ a ∈ L, Fine a := fun a ha => hF a (by simp [ha])
    have ih := ih hF' hr'
    rw [held_snoc]
    unfold push
    simp only
    rw [withK_con ho hRo hF' hr' s (hF s (by simp)) hlast _ o (Nat.le_refl _), ih]
    by_cases c : k < o
    · rw [if_pos c, if_pos c, if_pos c, List.length_append, List.length_singleton, sumN_snoc]
    · rw [if_neg c, if_neg c, if_neg c]
set_option maxRecDepth 20000 in
/-- bounds of what is summed -/
theorem con_bd (k : Nat) (pre : List Slot) (s : Slot) (hF : ∀ a ∈ pre, Fine a) (hs : Near s.off) : 0 ≤ (con k pre s).1 ∧ (con k pre s).1 ≤ 1 ∧ 0 ≤ (con k pre s).2 ∧ (con k pre s).2 ≤ 316912650057057350374175801344 := by
  unfold con
  cases ha : lk pre (s.num - 2 ^ k) with
  | none => simp
  | some a =>
    cases hb : lk pre (s.num - 2 * 2 ^ k) with
    | none => simp
    | some b =>
      obtain ⟨a1, a2⟩ := (hF a (lk_some ha).1).near
      obtain ⟨b1, b2⟩ := (hF b (lk_some hb).1).near
      obtain ⟨s1, s2⟩ := hs
      exact ⟨by simp, by simp, sq_nn' _, sq_bd' (B := 562949953421312) (by omega) (by omega)⟩
set_option maxRecDepth 20000 in
theorem sumN_bd (k : Nat) (L : List Slot) (hF : ∀ a ∈ L, Fine a) (n : Nat) (hn : n ≤ L.length) : 0 ≤ (sumN k L n).1 ∧ (sumN k L n).1 ≤ n ∧ 0 ≤ (sumN k L n).2 ∧ (sumN k L n).2 ≤ n * 316912650057057350374175801344 := by
  induction n with
  | zero => simp [sumN]
  | succ n ih =>
    obtain ⟨i1, i2, i3, i4⟩ := ih (by omega)
    have hg : L.getD n slot0 ∈ L := by simp [List.getD, List.getElem?_eq_getElem (show n < L.length by omega)]
    obtain ⟨c1, c2, c3, c4⟩ := con_bd k (L.take n) (L.getD n slot0) (fun a ha => hF a (List.mem_of_mem_take ha)) (hF _ hg).near
    unfold sumN
    simp only
    refine ⟨by omega, by omega, by omega, ?_⟩
    rw [show (((n + 1 : Nat)) : Int) = (n : Int) + 1 by simp, Int.add_mul]
    omega
end Go.Proofs.Ythgkhllkhhnlpaa
/- allan: New. -/
namespace Go.Proofs.Ythgkhllkhhnlpaa
open Go.RowKit

set_option maxRecDepth 20000 in
theorem infoSlot : (Try.prog.info? 123).map (fun i => (i.zero, i.size, i.bytes)) = some (some (.agg (slotC slot0)), 4, 32) := by kernel_rfl
set_option maxRecDepth 20000 in
theorem made_ring (R : Nat) : madeCells (Value.agg (slotC slot0)).cells (R * 4) = ringC R (fun _ => slot0) := by
  refine Array.ext_getElem? fun k => ?_
  by_cases h : k < R * 4
  · have e : k = k / 4 * 4 + k % 4 := by omega
    have hk : k / 4 < R := by omega
    have h2 : (ringC R (fun _ => slot0))[k]? = (slotL slot0)[k % 4]? := by
      conv => lhs; rw [e]
      exact ringC_get R (fun _ => slot0) (k / 4) (k % 4) hk (by omega)
    rw [h2]
    unfold madeCells
    rcases (show k % 4 = 0 ∨ k % 4 = 1 ∨ k % 4 = 2 ∨ k % 4 = 3 by omega) with c | c | c | c <;> simp [h, c, Value.cells, slot0]
  · rw [Array.getElem?_eq_none (by rw [size_madeCells]; omega), Array.getElem?_eq_none (by rw [ringC_size]; omega)]
set_option maxRecDepth 20000 in
set_option maxHeartbeats 1000000 in
theorem grid0 (x o : Int) (r R C : Nat) : #[Value.int .i64 x, .int .i64 o, .slice (some ⟨r, 0, none⟩) R C, .bool false, .int .i64 0, .int .i64 0, .int .i64 0, .int .i64 0, .int .i64 0, .int .u64 0, .int .i64 0, .int .i64 0, .int .u64 0, .int .i64 0, .int .i64 0, .int .u64 0, .int .i64 0, .int .i64 0, .int .u64 0, .int .i64 0, .int .i64 0, .int .u64 0, .int .i64 0, .int .i64 0, .int .u64 0, .int .i64 0, .int .i64 0, .int .u64 0, .int .i64 0, .int .i64 0, .int .u64 0, .int .i64 0, .int .i64 0, .int .u64 0, .int .i64 0, .int .i64 0, .int .u64 0] = gridC x o r R C slot0 tot0 := by
  unfold gridC
  rw [← foldTot]
  simp only [List.append_toArray, List.cons_append, List.nil_append, slot0]
set_option maxRecDepth 20000 in
set_option maxHeartbeats 1000000 in
theorem new_any (x : Int) (o : Nat) (W : World) (x1 : 1 ≤ x) (x2 : x ≤ 1152921504606846976) (o1 : 1 ≤ o) (o2 : o ≤ 10) :
    Calls Try.prog 27 #[.int .i64 x, .int .i64 o] W fun e w' => ∃ r p, e = .returned (.tuple #[.pointer (some ⟨p, 0, none⟩), .int .i64 0]) ∧ Blk w' p 128 (gridC x o r (2 ^ o + 1) (2 ^ o + 1) slot0 tot0) ∧ Blk w' r 123 (ringC (2 ^ o + 1) (fun _ => slot0)) ∧ W.heap.size ≤ p ∧ W.heap.size ≤ r ∧ r ≠ p ∧ Mo W w' := by
  obtain ⟨q, hq⟩ : ∃ q : Nat, 2 ^ o = q := ⟨_, rfl⟩
  have hb : q ≤ 1024 ∧ 1 ≤ q := by
    have h1 : (2 : Nat) ^ o ≤ 2 ^ 10 := Nat.pow_le_pow_right (by decide) o2
    have h2 : 0 < (2 : Nat) ^ o := Nat.pow_pos (by decide)
    omega
  have hw : wrap64 (2 ^ o) = (q : Int) := by
    rw [show (2 : Int) ^ o = ((2 ^ o : Nat) : Int) by simp, hq]; unfold wrap64; omega
  rw [hq]
  clear hq
  obtain ⟨i0, hi, hz0, hz1, hz2⟩ := info_parts infoSlot
  have hmk : ∀ w, (Instr.makeSlice 121 (.int .i64 ((q : Int) + 1)) (.int .i64 ((q : Int) + 1))).run Try.prog w = .ok (.slice (some ⟨w.heap.size, 0, none⟩) (q + 1) (q + 1)) (w.alloc (.cells (ringC (q + 1) (fun _ => slot0)) 123)) := fun w => by
    have := run_make w 121 123 i0 _ Try.underlying121 hi hz0 .i64 .i64 ((q : Int) + 1) ((q : Int) + 1) (by omega) (Int.le_refl _) (by rw [hz2]; omega) (by omega)
    rw [hz1, show ((q : Int) + 1).toNat = q + 1 by omega, made_ring] at this
    exact this
  clear hz0 hz1 hz2 hi
  go_enter Try.func27, Try.ntmps27
  go_wp2_with fail
  go_ret2
  exact ⟨W.heap.size, W.heap.size + 1, rfl, by rw [← grid0]; infer_instance, inferInstance, by omega, by omega, by omega, Mor.out⟩
set_option maxRecDepth 20000 in
theorem new_bad (x o : Int) (W : World) (h : x < 1 ∨ 1152921504606846976 < x ∨ o < 1 ∨ 10 < o) :
    Calls Try.prog 27 #[.int .i64 x, .int .i64 o] W fun e w' => e = .returned (.tuple #[.pointer none, .int .i64 2]) ∧ Mo W w' := by
  have go : ∀ b1 b2 b3 b4 : Bool, decide (x < 1) = b1 → decide (1152921504606846976 < x) = b2 → decide (o < 1) = b3 → decide (10 < o) = b4 → (b1 || b2 || b3 || b4) = true →
      Calls Try.prog 27 #[.int .i64 x, .int .i64 o] W fun e w' => e = .returned (.tuple #[.pointer none, .int .i64 2]) ∧ Mo W w' := by
    intro b1 b2 b3 b4 q1 q2 q3 q4 hb
    cases b1 <;> cases b2 <;> cases b3 <;> cases b4 <;> first
      | (exact absurd hb (by decide))
      | (clear hb h
         go_enter Try.func27, Try.ntmps27
         go_wp2_with fail
         go_ret2
         exact ⟨rfl, Mor.out⟩)
  refine go _ _ _ _ rfl rfl rfl rfl ?_
  simp only [Bool.or_eq_true, decide_eq_true_eq]
  omega
end Go.Proofs.Ythgkhllkhhnlpaa
/- allan: Told. -/
namespace Go.Proofs.Ythgkhllkhhnlpaa
open Go.RowKit

structure Tau where
  slots : Int
  count : Int
  sum : Int
  dev : Int
abbrev tauC (t : Tau) : Array Value := #[.int .i64 t.slots, .int .i64 t.count, .int .i64 (hiW t.sum), .int .u64 (loW t.sum), .int .u64 t.dev]
abbrev tauL (t : Tau) : List Value := [.int .i64 t.slots, .int .i64 t.count, .int .i64 (hiW t.sum), .int .u64 (loW t.sum), .int .u64 t.dev]
noncomputable def devT (c s : Int) : Int := if 0 < c then rootV (s / (2 * c)) else 0
noncomputable def tauT (t : Tot) (k : Nat) : Tau := ⟨2 ^ k, (t k).1, (t k).2, devT (t k).1 (t k).2⟩
noncomputable def tausT (t : Tot) (o : Nat) : List Tau := (List.range o).map (tauT t)
def tauRow (l : List Tau) : List Value := l.flatMap tauL
set_option maxRecDepth 20000 in
theorem tauRow_snoc (l : List Tau) (x : Tau) : tauRow (l ++ [x]) = tauRow l ++ tauL x := by unfold tauRow; simp
set_option maxRecDepth 20000 in
theorem tausT_succ (t : Tot) (k : Nat) : tausT t (k + 1) = tausT t k ++ [tauT t k] := by unfold tausT; rw [List.range_succ, List.map_append]; rfl
set_option maxRecDepth 20000 in
theorem tausT_len (t : Tot) (k : Nat) : (tausT t k).length = k := by unfold tausT; simp
set_option maxRecDepth 20000 in
theorem tauRow_len (l : List Tau) : (tauRow l).length = l.length * 5 := by
  unfold tauRow
  induction l with
  | nil => rfl
  | cons x xs ih => rw [List.flatMap_cons, List.length_append, ih, List.length_cons]; simp; omega
set_option maxRecDepth 20000 in
theorem news_of_blk {w : World} {g : Nat} {t : TypeId} {cs : Array Value} (h : Blk w g t cs) (l : List Value) (hl : l = cs.toList) : ∀ j u, l[j]? = some u → w.cell? ((⟨g, 0, none⟩ : Addr).add j) = some u := by
  intro j u hj
  have e : (⟨g, 0, none⟩ : Addr).add j = ⟨g, j, none⟩ := by rw [Addr.add_mid, Nat.zero_add]
  rw [e, blk_cell h, ← Array.getElem?_toList, ← hl]
  exact hj
set_option maxRecDepth 20000 in
theorem infoTau : (Try.prog.info? 117).map (fun i => (i.zero, i.size, i.bytes)) = some (some (.agg (tauC ⟨0, 0, 0, 0⟩)), 5, 40) := by kernel_rfl
set_option maxRecDepth 20000 in
theorem divzero (c s : Int) (h : ¬ 0 < c) : devT c s = 0 := by unfold devT; rw [if_neg h]
set_option maxRecDepth 20000 in
theorem divpos (c s : Int) (h : 0 < c) : devT c s = rootV (s / (2 * c)) := by unfold devT; rw [if_pos h]

set_option maxRecDepth 20000 in
theorem owns_base {w : World} {b b' : Nat} {e : TypeId} {size : Nat} {v : Value} {n : Nat} {xs : List Value} (h : w.ownsRow b e size v n xs) (hb : b' ≤ b) : w.ownsRow b' e size v n xs := by
  refine ⟨h.1, ?_⟩
  rcases h.2 with hn | ⟨g, cap, cur, rfl, hg, rest⟩
  · exact .inl hn
  · exact .inr ⟨g, cap, cur, rfl, Nat.le_trans hb hg, rest⟩
/-- what Told returns -/
def ToldRet (l : List Tau) (W : World) (e : Ending) (w' : World) : Prop := ∃ v, e = .returned v ∧ w'.ownsRow W.heap.size 117 5 v l.length (tauRow l) ∧ Mo W w'
set_option maxRecDepth 20000 in
set_option maxHeartbeats 4000000 in
theorem told_grid (p r R C o : Nat) (x : Int) (nw : Slot) (t : Tot) (ty : TypeId) (f : Nat → Slot) (W : World) (hR : 0 < R) (hR2 : R ≤ 1025) (ho : o ≤ 10)
    (n1 : -9223372036854775808 ≤ nw.num) (n2 : nw.num ≤ 9223372036854775807) (o1 : Near nw.off) (hf : ∀ i, Near (f i).off)
    (hc : ∀ k, k < 10 → 0 ≤ (t k).1 ∧ (t k).1 ≤ 1000000 ∧ 0 ≤ (t k).2 ∧ (t k).2 ≤ 85070591730234615865843651857942052864)
    (hc' : ∀ k, k < 10 → 0 ≤ (withK R f nw t o k).1 ∧ (withK R f nw t o k).1 ≤ 1000000 ∧ InW (withK R f nw t o k).2)
    (hB : Blk W p ty (gridC x o r R C nw t)) (hB' : RingAt W r R f) :
    Calls Try.prog 36 #[.pointer (some ⟨p, 0, none⟩)] W (ToldRet (tausT (withK R f nw t o) o) W) := by
  have c1 : W.cell? ⟨p, 1, none⟩ = some (.int .i64 o) := by rw [blk_cell hB, gridC_lo _ _ _ _ _ _ _ _ (by omega)]; rfl
  have c3 : W.cell? ⟨p, 3, none⟩ = some (.bool nw.some) := by rw [blk_cell hB, gridC_lo _ _ _ _ _ _ _ _ (by omega)]; rfl
  have c4 : W.cell? ⟨p, 4, none⟩ = some (.int .i64 nw.num) := by rw [blk_cell hB, gridC_lo _ _ _ _ _ _ _ _ (by omega)]; rfl
  have c5 : W.cell? ⟨p, 5, none⟩ = some (.int .i64 nw.off) := by rw [blk_cell hB, gridC_lo _ _ _ _ _ _ _ _ (by omega)]; rfl
  have c6 : W.cell? ⟨p, 6, none⟩ = some (.int .i64 nw.del) := by rw [blk_cell hB, gridC_lo _ _ _ _ _ _ _ _ (by omega)]; rfl
  have LP : LtW p W := LtW.of_cell c1
  have WI := Lib.hid (with_any p r R C o x nw nw t ty f W hR hR2 ho n1 n2 o1 hf hc hB hB')
  have HC := Lib.hid hc'
  clear hc hf hB hB' hc' n1 n2 o1
  generalize withK R f nw t o = tt at *
  obtain ⟨sm, nm, of, dl⟩ := nw
  simp only at c3 c4 c5 c6
  obtain ⟨i0, hi, hz0, hz1, hz2⟩ := info_parts infoTau
  go_enter Try.func36, Try.ntmps36
  go_wp2_with fail
  refine WI.out.mono ?_; rintro e w1 ⟨rfl, J1, d1, rfl⟩
  go_wp2_with fail
  have IH : Hid (∃ V, V = (more W J1 d1).alloc (.cells (totC tt) 126)) := Lib.hid ⟨_, rfl⟩
  obtain ⟨V, hV⟩ := IH.out
  rw [← hV]
  have MV : Mo W V := by rw [hV]; exact Mor.out
  have BV : Blk V (W.heap.size + J1.size) 126 (totC tt) := by rw [hV]; infer_instance
  clear hV IH
  generalize W.heap.size + J1.size = x3 at *
  go_loopw [4, 5, 22] (fun v _ i wr => ∃ k : Nat, k ≤ o ∧ i = .int .i64 k ∧ wr.ownsRow V.heap.size 117 5 v k (tauRow (tausT tt k)) ∧ Mo V wr) (fun _ _ i _ => o - (intOf i).toNat)
  case atStart => exact ⟨0, by omega, rfl, World.ownsRow_nil _ _ _ _, Mo.refl _⟩
  case round =>
    obtain ⟨k, hk, rfl, hown, hM⟩ := hrel
    by_cases ck : k < o
    · have hB := hM.blk BV
      obtain ⟨q1, q2, q3⟩ := HC.out k (by omega)
      have LX : LtW x3 wr := ⟨hB.lt⟩
      have e0 : wr.cell? ⟨x3, k * 3, none⟩ = some (.int .i64 (tt k).1) := by rw [blk_cell hB]; exact totC_g0 tt k (by omega)
      have e1 : wr.cell? ⟨x3, k * 3 + 1, none⟩ = some (.int .i64 (hiW (tt k).2)) := by rw [blk_cell hB]; exact totC_g1 tt k (by omega)
      have e2 : wr.cell? ⟨x3, k * 3 + 2, none⟩ = some (.int .u64 (loW (tt k).2)) := by rw [blk_cell hB]; exact totC_g2 tt k (by omega)
      have HT := Lib.hid (tausT_succ tt k)
      unfold tauT at HT
      generalize tt k = q at *
      obtain ⟨c, s⟩ := q
      simp only at q1 q2 q3 e0 e1 e2 HT
      obtain ⟨m, hm⟩ : ∃ m : Int, (2 : Int) ^ k = m := ⟨_, rfl⟩
      have hmb := two_pow_10 (show k < 10 by omega)
      rw [hm] at HT hmb
      have hm2 : wrap64 (2 ^ k) = m := by rw [hm]; unfold wrap64; omega
      have hm3 : IntKind.i64.wrap (2 ^ k) = m := by rw [hm, IntKind.wrap_i64]; omega
      have i1 : (0 : Int) ≤ k := by omega
      have i2 : (k : Int) < 10 := by omega
      clear hm
      go_wp2_with fail
      go_region_held3 (fun w' => w'.cell? ⟨x3, k * 3, none⟩ = some (.int .i64 c) ∧ w'.cell? ⟨x3, k * 3 + 1, none⟩ = some (.int .i64 (hiW s)) ∧ w'.cell? ⟨x3, k * 3 + 2, none⟩ = some (.int .u64 (loW s))) (simp [go_sem, e0, e1, e2])
        (fail)
      all_goals
        rename_i hHeld
        clear hHeld e0 e1 e2 hm2 hm3
        by_cases cp : 0 < c
        · have D1 := Lib.hid (fun w => div_any s (2 * c) q3 (by omega) (by omega) w)
          have R1 := Lib.hid (fun w => root_any (s / (2 * c)) (inW_div q3 (by omega)) w)
          go_wp2_with fail
          refine (D1.out _).mono ?_; rintro e w1 ⟨rfl, J4, d4, rfl⟩
          go_wp2_with fail
          refine (R1.out _).mono ?_; rintro e w1 ⟨rfl, J5, d5, rfl⟩
          go_wp2_with (at_builtin; refine wpList_append_own _ rfl _ _ 59 rfl V.heap.size 117 i0 (.agg (tauC ⟨0, 0, 0, 0⟩)) 5 40 Try.underlying59 hi hz0 hz1 hz2 rfl (by decide) _ _ _ rfl (owns_mo hown (Mor.out : Mo wr _)) _ 1 1 (tauL ⟨m, c, s, rootV (s / (2 * c))⟩) rfl rfl ?c1 ?c2 ?c3 ?c4 ?c5 ?_)
          case c1 => exact news_of_blk (cs := tauC ⟨m, c, s, rootV (s / (2 * c))⟩) (t := 117) (by infer_instance) _ rfl
          case c2 => simp [Value.oneCell']
          case c3 => unfold maxLen; omega
          case c4 => omega
          case c5 => exact (hM.trans (Mor.out : Mo wr _)).size
          intro v' w2 hown1 hgrow _
          have hM2 : Mo V w2 := mo_grown (hM.trans (Mor.out : Mo wr _)) hgrow (fun k e => (hown.lt k e).1)
          have hown2 : w2.ownsRow V.heap.size 117 5 v' (k + 1) (tauRow (tausT tt (k + 1))) := by rw [HT.out, tauRow_snoc, divpos c s cp]; exact hown1
          clear hown hown1 hgrow hB hM
          go_wp2_with fail
          go_roundw
          case rel => exact ⟨k + 1, by omega, by go_num, hown2, hM2⟩
          case measure => simp [intOf]; omega
        · have DZ := divzero c s cp
          have c0 : c = 0 := by omega
          subst c0
          go_wp2_with (at_builtin; refine wpList_append_own _ rfl _ _ 59 rfl V.heap.size 117 i0 (.agg (tauC ⟨0, 0, 0, 0⟩)) 5 40 Try.underlying59 hi hz0 hz1 hz2 rfl (by decide) _ _ _ rfl (owns_mo hown (Mor.out : Mo wr _)) _ 1 1 (tauL ⟨m, 0, s, 0⟩) rfl rfl ?d1 ?d2 ?d3 ?d4 ?d5 ?_)
          try (case d1 => exact news_of_blk (cs := tauC ⟨m, 0, s, 0⟩) (t := 117) (by infer_instance) _ rfl)
          case d2 => simp [Value.oneCell']
          case d3 => unfold maxLen; omega
          case d4 => omega
          case d5 => have := hM.size; first | omega | (simp; omega)
          intro v' w2 hown1 hgrow _
          have hM2 : Mo V w2 := mo_grown (hM.trans (Mor.out : Mo wr _)) hgrow (fun k e => (hown.lt k e).1)
          have hown2 : w2.ownsRow V.heap.size 117 5 v' (k + 1) (tauRow (tausT tt (k + 1))) := by rw [HT.out, tauRow_snoc, DZ]; exact hown1
          clear hown hown1 hgrow hB hM
          go_wp2_with fail
          go_roundw
          case rel => exact ⟨k + 1, by omega, by go_num, hown2, hM2⟩
          case measure => simp [intOf]; omega
    · obtain rfl : k = o := by omega
      clear HC WI
      have hl := tausT_len tt k
      go_wp2_with fail
      go_ret
      exact ⟨_, rfl, by rw [hl]; exact owns_base hown MV.size, MV.trans hM⟩
end Go.Proofs.Ythgkhllkhhnlpaa
