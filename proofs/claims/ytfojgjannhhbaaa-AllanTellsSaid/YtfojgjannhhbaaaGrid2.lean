/- allan's grid in memory: totals are loaded and stored whole; at, find, with. -/
import Derived.Test.YtfojgjannhhbaaaGrid
import Derived.Test.YtfojgjannhhbaaaDiv
import Derived.Test.YtfojgjannhhbaaaQTail
namespace Go.Proofs.Ytfojgjannhhbaaa
open Go.RowKit

set_option maxRecDepth 20000 in
theorem infoTot : (Try.prog.info? 60).map (·.size) = some 30 := by kernel_rfl
set_option maxRecDepth 20000 in
theorem blk_range {w : World} {g o : Nat} {t : TypeId} {cs : Array Value} (h : Blk w g t cs) (l : List Value) (hl : ∀ j v, l[j]? = some v → cs[o + j]? = some v) : w.rangeAt g o l := by
  intro j v hv
  rw [blk_cell h]
  exact hl j v hv
set_option maxRecDepth 20000 in
theorem blk_there {w : World} {g o n : Nat} {t : TypeId} {cs : Array Value} (h : Blk w g t cs) (hn : o + n ≤ cs.size) : w.there g o n := by
  intro j hj
  refine ⟨?_, blk_frozen h _⟩
  rw [blk_cell h, Array.getElem?_eq_getElem (by omega)]
  rfl
/-- totals that lie in a block from a place on -/
class TotAt (w : World) (g o : Nat) (t : outParam Tot) : Prop where
  out : w.rangeAt g o (totL t)
set_option maxRecDepth 20000 in
theorem totL_get (t : Tot) (j : Nat) : (totL t)[j]? = (totC t)[j]? := by unfold totC; rw [List.getElem?_toArray]
set_option maxRecDepth 20000 in
instance (w : World) (g : Nat) (ty : TypeId) (t : Tot) [h : Blk w g ty (totC t)] : TotAt w g 0 t := ⟨blk_range h _ fun j v hv => by rw [Nat.zero_add, ← totL_get]; exact hv⟩
set_option maxRecDepth 20000 in
instance (x y : Int) (w : World) (g : Nat) (ty : TypeId) (r R C : Nat) (nw : Slot) (t : Tot) [h : Blk w g ty (gridC x y r R C nw t)] : TotAt w g 7 t := ⟨blk_range h _ fun j v hv => by rw [gridC_hi, ← totL_get]; exact hv⟩
def loadTot (v : Value) : Sem Value := Instr.loadAt 60 v
def storeTot (v x : Value) : Sem Unit := Instr.storeAt 60 v x
set_option maxRecDepth 20000 in
theorem loadAt_tot (v : Value) : Instr.loadAt 60 v = loadTot v := rfl
set_option maxRecDepth 20000 in
theorem storeAt_tot (v x : Value) : Instr.storeAt 60 v x = storeTot v x := rfl
set_option maxRecDepth 20000 in
theorem run_loadTot (w : World) (g o : Nat) (t : Tot) [h : TotAt w g o t] : (loadTot (.pointer (some ⟨g, o, none⟩))).run Try.prog w = .ok (.agg (totC t)) w :=
  run_loadAt_mid w g o _ (totL t) _ h.out Try.underlying60 rfl (by rw [totL_len]; exact infoTot)
class Sz30 (cs : Array Value) : Prop where
  out : cs.size = 30
set_option maxRecDepth 20000 in
instance (t : Tot) : Sz30 (totC t) := ⟨totC_size t⟩
set_option maxRecDepth 20000 in
theorem run_storeTot (w : World) (g : Nat) (ty : TypeId) (t : Tot) (cs : Array Value) [h : Blk w g ty cs] [z : Sz30 cs] : (storeTot (.pointer (some ⟨g, 0, none⟩)) (.agg (totC t))).run Try.prog w = .ok () (w.setRow g (totC t)) := by
  unfold storeTot Instr.storeAt
  simp only [Instr.sureAddr, Sem.run_bind, Sem.run_pure, Result.andThen_ok]
  exact run_storeVar_row w g ty _ cs (totC t) h.out (by rw [totC_size]; exact infoTot) (by rw [z.out, totC_size]) (totC_one t)
set_option maxRecDepth 20000 in
theorem run_storeTot_mid (x y : Int) (w : World) (g : Nat) (ty : TypeId) (r R C : Nat) (nw : Slot) (t t' : Tot) [h : Blk w g ty (gridC x y r R C nw t)] : (storeTot (.pointer (some ⟨g, 7, none⟩)) (.agg (totC t'))).run Try.prog w = .ok () (w.setCells g 7 (totC t').toList) :=
  run_storeAt_mid w g 7 _ (totC t') (by rw [totC_size]; exact blk_there h (by rw [gridC_size]; omega)) (by rw [totC_size]; exact infoTot) (totC_one t')
attribute [go_sem ↓] loadAt_tot storeAt_tot
attribute [go_sem] run_loadTot run_storeTot run_storeTot_mid foldTot
attribute [go_sem] totC_g0 totC_g1 totC_g2 totC_set
set_option maxRecDepth 20000 in
theorem ret_tot {fn : Func} {p : Tmp} {R : Ending → World → Prop} {a : Act} {w : World} (g : Nat) (ty : TypeId) (t : Tot) (hr : fn.results = #[.cell p 60]) (hp : a.tmps.getD p undef = .pointer (some ⟨g, 0, none⟩)) (hd : a.defers = [])
    [h : Blk w g ty (totC t)] (hR : R (.returned (.agg (totC t))) w) : bodyPost Try.prog fn R .ret a w :=
  bodyPost_ret (results_cell_row hr _ w g ty (totC t) (0, 0) _ hp h.out Try.underlying60 rfl (by rw [totC_size]; exact infoTot)) hd hR
/-- a row over which others are written -/
def over (cs : Array Value) : Nat → List Value → Array Value
  | _, [] => cs
  | o, v :: r => over (cs.setIfInBounds o v) (o + 1) r
set_option maxRecDepth 20000 in
theorem blk_setCells {g : Nat} {t : TypeId} : ∀ (vs : List Value) (o : Nat) {w : World} {cs : Array Value}, Blk w g t cs → Blk (w.setCells g o vs) g t (over cs o vs)
  | [], _, _, _, h => h
  | v :: r, o, _, _, h => blk_setCells r (o + 1) (blk_setCell h o v)
set_option maxRecDepth 20000 in
theorem blk_setCells_ne {g k : Nat} {t : TypeId} {cs : Array Value} (n : g ≠ k) : ∀ (vs : List Value) (o : Nat) {w : World}, Blk w k t cs → Blk (w.setCells g o vs) k t cs
  | [], _, _, h => h
  | v :: r, o, _, h => blk_setCells_ne n r (o + 1) (blk_setCell_ne h n o v)
set_option maxRecDepth 20000 in
theorem mo_setCells {V : World} {g : Nat} (hg : V.heap.size ≤ g) : ∀ (vs : List Value) (o : Nat) {w : World}, Mo V w → Mo V (w.setCells g o vs)
  | [], _, _, h => h
  | v :: r, o, _, h => mo_setCells hg r (o + 1) (mo_setCell h hg o v)
set_option maxRecDepth 20000 in
theorem over_get : ∀ (vs : List Value) (o : Nat) (cs : Array Value) (i : Nat), o + vs.length ≤ cs.size → (over cs o vs)[i]? = if o ≤ i ∧ i < o + vs.length then vs[i - o]? else cs[i]?
  | [], o, cs, i, _ => by rw [if_neg (by simp only [List.length_nil]; omega)]; rfl
  | v :: r, o, cs, i, h => by
    simp only [List.length_cons] at h ⊢
    rw [over, over_get r (o + 1) _ i (by simp; omega)]
    by_cases c : i = o
    · subst c
      rw [if_neg (by omega), if_pos (by omega), Array.getElem?_setIfInBounds_self_of_lt (by omega)]
      simp
    · rw [Array.getElem?_setIfInBounds_ne (by omega)]
      by_cases d : o + 1 ≤ i ∧ i < o + 1 + r.length
      · rw [if_pos d, if_pos (by omega), show i - o = i - (o + 1) + 1 by omega, List.getElem?_cons_succ]
      · rw [if_neg d, if_neg (by omega)]
set_option maxRecDepth 20000 in
theorem gridC_over (x y : Int) (r R C : Nat) (nw : Slot) (t t' : Tot) : over (gridC x y r R C nw t) 7 (totC t').toList = gridC x y r R C nw t' := by
  have hl : (totC t').toList.length = 30 := by rw [Array.length_toList, totC_size]
  refine Array.ext_getElem? fun i => ?_
  rw [over_get _ _ _ _ (by rw [hl, gridC_size]; omega), hl]
  by_cases c : i < 7
  · rw [if_neg (by omega), gridC_lo _ _ _ _ _ _ _ _ c, gridC_lo _ _ _ _ _ _ _ _ c]
  · obtain ⟨j, rfl⟩ : ∃ j, i = 7 + j := ⟨i - 7, by omega⟩
    by_cases d : j < 30
    · rw [if_pos (by omega), show 7 + j - 7 = j by omega, Array.getElem?_toList, gridC_hi]
    · rw [if_neg (by omega), gridC_hi, gridC_hi, Array.getElem?_eq_none (by rw [totC_size]; omega), Array.getElem?_eq_none (by rw [totC_size]; omega)]
set_option maxRecDepth 20000 in
theorem blk_tot {w : World} {g : Nat} {ty : TypeId} {x y : Int} {r R C : Nat} {nw : Slot} {t t' : Tot} (h : Blk w g ty (gridC x y r R C nw t)) : Blk (w.setCells g 7 (totC t').toList) g ty (gridC x y r R C nw t') := by
  have := blk_setCells (totC t').toList 7 h
  rwa [gridC_over] at this

/-! ### at, find -/
set_option maxRecDepth 20000 in
theorem inW_div {s n : Int} (h : InW s) (hn : 0 < n) : InW (s / n) := by
  obtain ⟨h1, h2⟩ := h
  refine ⟨Int.le_ediv_of_mul_le hn ?_, Int.ediv_lt_of_lt_mul hn ?_⟩
  · have : (-170141183460469231731687303715884105728) * n ≤ (-170141183460469231731687303715884105728) * 1 := Int.mul_le_mul_of_nonpos_left (by decide) (by omega)
    omega
  · have : 170141183460469231731687303715884105728 * 1 ≤ 170141183460469231731687303715884105728 * n := Int.mul_le_mul_of_nonneg_left (by omega) (by decide)
    omega
def idx (R : Nat) (x : Int) : Nat := (x % R).toNat
set_option maxRecDepth 20000 in
theorem idx_lt {R : Nat} (h : 0 < R) (x : Int) : idx R x < R := by
  unfold idx
  have := Int.emod_lt_of_pos x (show (0 : Int) < R by omega)
  have := Int.emod_nonneg x (show (R : Int) ≠ 0 by omega)
  omega
set_option maxRecDepth 20000 in
theorem tmod_pos (x R : Int) (h : 0 < R) : (x.tmod R + R).tmod R = x % R ∧ -R < x.tmod R ∧ x.tmod R < R := by
  rcases Int.le_total 0 x with c | c
  · have h1 := Int.emod_lt_of_pos x h
    have h2 := Int.emod_nonneg x (show R ≠ 0 by omega)
    rw [Int.tmod_eq_emod_of_nonneg c, Int.tmod_eq_emod_of_nonneg (by omega), Int.add_emod_right, Int.emod_emod]
    exact ⟨rfl, by omega, h1⟩
  · obtain ⟨y, rfl⟩ : ∃ y, x = -y := ⟨-x, by omega⟩
    have h1 := Int.emod_lt_of_pos y h
    have h2 := Int.emod_nonneg y (show R ≠ 0 by omega)
    have e : y.tmod R = y % R := Int.tmod_eq_emod_of_nonneg (by omega)
    rw [Int.neg_tmod, e, Int.tmod_eq_emod_of_nonneg (by omega), Int.add_emod_right]
    refine ⟨?_, by omega, by omega⟩
    have d := Int.mul_ediv_add_emod y R
    rw [show -y = -(y % R) + R * (-(y / R)) by rw [Int.mul_neg]; omega, Int.add_mul_emod_self_left]
/-- what a ring holds of a number -/
def fnd (R : Nat) (f : Nat → Slot) (x : Int) : Int × Bool := ((f (idx R x)).off, (f (idx R x)).some && (f (idx R x)).num == x)
set_option maxRecDepth 20000 in
theorem at_any (p r R C : Nat) (x : Int) (W : World) (hR : 0 < R) (hR2 : R ≤ 1025) (hc : W.cell? ⟨p, 2, none⟩ = some (.slice (some ⟨r, 0, none⟩) R C)) :
    Calls Try.prog 24 #[.pointer (some ⟨p, 0, none⟩), .int .i64 x] W fun e w' => e = .returned (.int .i64 (idx R x)) ∧ W = w' := by
  obtain ⟨t1, t2, t3⟩ := tmod_pos x R (by omega)
  have e := Lib.hid (show (x.tmod R + R) % R = (idx R x : Int) by
    rw [← Int.tmod_eq_emod_of_nonneg (show 0 ≤ x.tmod R + R by omega), t1]; unfold idx
    have := Int.emod_nonneg x (show (R : Int) ≠ 0 by omega)
    omega)
  have hz : ¬ R = 0 := by omega
  have hz' : ((R : Int) == 0) = false := by simp; omega
  clear t1
  go_enter Try.func24, Try.ntmps24
  go_wp2_with fail
  go_ret
  exact ⟨congrArg (fun z => Ending.returned (Value.int .i64 z)) e.out, rfl⟩
abbrev ringAt (W : World) (r i : Nat) (s : Slot) : Prop := W.cell? ⟨r, i * 4, none⟩ = some (.bool s.some) ∧ W.cell? ⟨r, i * 4 + 1, none⟩ = some (.int .i64 s.num) ∧ W.cell? ⟨r, i * 4 + 2, none⟩ = some (.int .i64 s.off) ∧ W.cell? ⟨r, i * 4 + 3, none⟩ = some (.int .i64 s.del)
/-- slots that lie in a block, whatever stands behind them -/
class RingAt (w : World) (r R : Nat) (f : outParam (Nat → Slot)) : Prop where
  out : ∃ cur : Array Value, w.heap[r]? = some (.cells cur 57 (0, 0)) ∧ R * 4 ≤ cur.size ∧ ∀ i j, i < R → j < 4 → cur[i * 4 + j]? = (slotL (f i))[j]?
set_option maxRecDepth 20000 in
theorem RingAt.lt {w : World} {r R : Nat} {f : Nat → Slot} (h : RingAt w r R f) : r < w.heap.size := by
  obtain ⟨cur, h1, _⟩ := h.out
  exact (Array.getElem?_eq_some_iff.1 h1).1
set_option maxRecDepth 20000 in
theorem ringAt_blk {w : World} {r R : Nat} {f : Nat → Slot} (h : Blk w r 57 (ringC R f)) : RingAt w r R f := ⟨_, h.out, by rw [ringC_size]; omega, fun i j hi hj => ringC_get R f i j hi hj⟩
set_option maxRecDepth 20000 in
theorem RingAt.of_same {w w' : World} {r R : Nat} {f : Nat → Slot} (h : RingAt w r R f) (e : w'.heap[r]? = w.heap[r]?) : RingAt w' r R f := by
  obtain ⟨cur, h1, h2⟩ := h.out
  exact ⟨cur, e.trans h1, h2⟩
set_option maxRecDepth 20000 in
instance (w : World) (o : Obj) (r R : Nat) (f : Nat → Slot) [h : RingAt w r R f] : RingAt (w.alloc o) r R f := h.of_same (Below.heap_alloc w o r h.lt)
set_option maxRecDepth 20000 in
instance (w : World) (J : Array Obj) (d r R : Nat) (f : Nat → Slot) [h : RingAt w r R f] : RingAt (more w J d) r R f := h.of_same (more_get w J d r h.lt)
set_option maxRecDepth 20000 in
instance (w : World) (r R : Nat) (f : Nat → Slot) [h : RingAt w r R f] : RingAt w.drew r R f := ⟨h.out⟩
set_option maxRecDepth 20000 in
instance (w : World) (k r R : Nat) (f : Nat → Slot) [h : RingAt w r R f] : RingAt (w.drewN k) r R f := ⟨h.out⟩
set_option maxRecDepth 20000 in
theorem Mo.ring {a b : World} (h : Mo a b) {r R : Nat} {f : Nat → Slot} (k : RingAt a r R f) : RingAt b r R f := by
  obtain ⟨J, d, rfl⟩ := h
  infer_instance
set_option maxRecDepth 20000 in
theorem ringAt_setCell_ne {w : World} {r R k : Nat} {f : Nat → Slot} (h : RingAt w r R f) (n : k ≠ r) (i : Nat) (v : Value) : RingAt (w.setCell ⟨k, i, none⟩ v) r R f := h.of_same (heap_setCell_other w ⟨k, i, none⟩ r v (Ne.symm n))
set_option maxRecDepth 20000 in
theorem ringAt_setCells_ne {k r R : Nat} {f : Nat → Slot} (n : k ≠ r) : ∀ (vs : List Value) (o : Nat) {w : World}, RingAt w r R f → RingAt (w.setCells k o vs) r R f
  | [], _, _, h => h
  | v :: l, o, _, h => ringAt_setCells_ne n l (o + 1) (ringAt_setCell_ne h n o v)
set_option maxRecDepth 20000 in
theorem ringAt_setRow_ne {w : World} {r R k : Nat} {f : Nat → Slot} (h : RingAt w r R f) (n : k ≠ r) (cs : Array Value) : RingAt (w.setRow k cs) r R f := h.of_same (setRow_get_ne w k r cs n)
set_option maxRecDepth 20000 in
theorem ringAt_frozen {w : World} {r R : Nat} {f : Nat → Slot} (h : RingAt w r R f) (i : Nat) : w.frozen? ⟨r, i, none⟩ = false := by
  obtain ⟨cur, h1, _⟩ := h.out
  exact blk_frozen ⟨h1⟩ i
set_option maxRecDepth 20000 in
theorem ring_at {W : World} {r R : Nat} {f : Nat → Slot} (h : RingAt W r R f) (i : Nat) (hi : i < R) : ringAt W r i (f i) := by
  obtain ⟨cur, h1, _, h2⟩ := h.out
  have hb : Blk W r 57 cur := ⟨h1⟩
  exact ⟨by rw [blk_cell hb]; exact h2 i 0 hi (by omega), by rw [blk_cell hb]; exact h2 i 1 hi (by omega), by rw [blk_cell hb]; exact h2 i 2 hi (by omega), by rw [blk_cell hb]; exact h2 i 3 hi (by omega)⟩
set_option maxRecDepth 20000 in
theorem ringAt_set {W : World} {r R : Nat} {f : Nat → Slot} (h : RingAt W r R f) (i : Nat) (hi : i < R) (s : Slot) :
    RingAt ((((W.setCell ⟨r, i * 4, none⟩ (.bool s.some)).setCell ⟨r, i * 4 + 1, none⟩ (.int .i64 s.num)).setCell ⟨r, i * 4 + 2, none⟩ (.int .i64 s.off)).setCell ⟨r, i * 4 + 3, none⟩ (.int .i64 s.del)) r R (updF f i s) := by
  obtain ⟨cur, h1, hz, h2⟩ := h.out
  have hb : Blk W r 57 cur := ⟨h1⟩
  have := blk_setCell (blk_setCell (blk_setCell (blk_setCell hb (i * 4) (.bool s.some)) (i * 4 + 1) (.int .i64 s.num)) (i * 4 + 2) (.int .i64 s.off)) (i * 4 + 3) (.int .i64 s.del)
  refine ⟨_, this.out, by simpa using hz, fun k j hk hj => ?_⟩
  simp only [Array.getElem?_setIfInBounds, Array.size_setIfInBounds]
  by_cases e : k = i
  · subst e
    rw [updF_same]
    rcases (show j = 0 ∨ j = 1 ∨ j = 2 ∨ j = 3 by omega) with rfl | rfl | rfl | rfl
    · rw [if_neg (by omega), if_neg (by omega), if_neg (by omega), if_pos (by omega), if_pos (by omega)]; rfl
    · rw [if_neg (by omega), if_neg (by omega), if_pos (by omega), if_pos (by omega)]; rfl
    · rw [if_neg (by omega), if_pos (by omega), if_pos (by omega)]; rfl
    · rw [if_pos (by omega), if_pos (by omega)]; rfl
  · rw [updF_ne _ _ e, if_neg (by omega), if_neg (by omega), if_neg (by omega), if_neg (by omega)]
    exact h2 k j hk hj
set_option maxRecDepth 20000 in
set_option maxHeartbeats 1000000 in
theorem find_any (p r R C : Nat) (f : Nat → Slot) (x : Int) (W : World) (hR : 0 < R) (hR2 : R ≤ 1025) (hc : W.cell? ⟨p, 2, none⟩ = some (.slice (some ⟨r, 0, none⟩) R C)) (hB : RingAt W r R f) :
    Calls Try.prog 45 #[.pointer (some ⟨p, 0, none⟩), .int .i64 x] W fun e w' => e = .returned (.tuple #[.int .i64 (fnd R f x).1, .bool (fnd R f x).2]) ∧ Mo W w' := by
  have A := Lib.hid (fun (W' : World) (h : W'.cell? ⟨p, 2, none⟩ = some (.slice (some ⟨r, 0, none⟩) R C)) => at_any p r R C x W' hR hR2 h)
  have hi := idx_lt hR x
  obtain ⟨c0, c1, c2, c3⟩ := ring_at hB (idx R x) hi
  have LP : LtW p W := LtW.of_cell hc
  have LR : LtW r W := LtW.of_cell c0
  have e := Lib.hid (show fnd R f x = ((f (idx R x)).off, (f (idx R x)).some && (f (idx R x)).num == x) from rfl)
  have i1 : (0 : Int) ≤ (idx R x : Int) := by omega
  have i2 : (idx R x : Int) < R := by omega
  generalize fnd R f x = res at *
  generalize f (idx R x) = s at *
  generalize idx R x = i at *
  obtain ⟨sm, nm, of, dl⟩ := s
  simp only at c0 c1 c2 c3 e
  clear hB
  go_enter Try.func45, Try.ntmps45
  go_wp2_with fail
  go_region_held3 (fun w' => w'.cell? ⟨p, 2, none⟩ = some (.slice (some ⟨r, 0, none⟩) R C) ∧ w'.cell? ⟨r, i * 4, none⟩ = some (.bool sm) ∧ w'.cell? ⟨r, i * 4 + 1, none⟩ = some (.int .i64 nm) ∧ w'.cell? ⟨r, i * 4 + 2, none⟩ = some (.int .i64 of) ∧ w'.cell? ⟨r, i * 4 + 3, none⟩ = some (.int .i64 dl)) (simp [go_sem, hc, c0, c1, c2, c3])
    (first
    | ((with_reducible refine (A.out _ (by simp [go_sem, hc])).mono ?_); rintro e1 w1 ⟨rfl, rfl⟩))
  all_goals
    rename_i hHeld
    clear hHeld
    cases sm
    · go_wp2_with fail
      refine wp_region_mo (by kernel_rfl) (by kernel_rfl) ?_
      repeat (go_big_quiet_step (fail))
      refine wpQuiet_nil ?_
      intro _ hw'
      obtain ⟨⟨J9, d9⟩, hw''⟩ := hw'
      subst hw''
      go_wp2_with fail
      go_ret2
      rw [e.out]
      exact ⟨rfl, Mor.out⟩
    · go_wp2_with fail
      refine wp_region_mo (by kernel_rfl) (by kernel_rfl) ?_
      repeat (go_big_quiet_step (fail))
      refine wpQuiet_nil ?_
      intro _ hw'
      obtain ⟨⟨J9, d9⟩, hw''⟩ := hw'
      subst hw''
      go_wp2_with fail
      go_ret2
      rw [e.out]
      exact ⟨rfl, Mor.out⟩
end Go.Proofs.Ytfojgjannhhbaaa
