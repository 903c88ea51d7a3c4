/- server: an entry, plain and in memory. -/
import Derived.Test.YthgkhllkhhnlpaaSvA
import Derived.Test.YthgkhllkhhnlpaaShfB
import Derived.Test.YthgkhllkhhnlpaaCopy32
import Derived.Test.YthgkhllkhhnlpaaAccS
namespace Go.Proofs.Ythgkhllkhhnlpaa
open Go.RowKit Go.Maps

/-- what is kept of a server -/
structure Ent where
  a : Array Value
  c : Nat → Int
  s1 : St
  s2 : St
  s3 : St
  M : List Slot
  D : Sd
  st : List (Nat × Int × Int)
  more : Nat
def cntL (c : Nat → Int) : List Value := (List.range 9).map fun k => .int .i64 (c k)
def entC (a : Array Value) (c : Nat → Int) (p1 p2 p3 gv sv stv : Value) (more : Nat) : Array Value := (a.toList ++ cntL c ++ [p1, p2, p3, gv, sv, stv, .int .i64 (more : Nat)]).toArray
set_option maxRecDepth 20000 in
theorem cntL_len (c : Nat → Int) : (cntL c).length = 9 := by unfold cntL; simp
set_option maxRecDepth 20000 in
theorem cntL_get (c : Nat → Int) (k : Nat) (h : k < 9) : (cntL c)[k]? = some (.int .i64 (c k)) := by
  unfold cntL
  rw [List.getElem?_map, List.getElem?_range h]
  rfl
section
variable {a : Array Value} {c : Nat → Int} {p1 p2 p3 gv sv stv : Value} {more : Nat}
set_option maxRecDepth 20000 in
theorem entC_size (ha : a.size = 17) : (entC a c p1 p2 p3 gv sv stv more).size = 33 := by unfold entC; simp [cntL_len, ha]
set_option maxRecDepth 20000 in
theorem entC_lo (ha : a.size = 17) (k : Nat) (h : k < 17) : (entC a c p1 p2 p3 gv sv stv more)[k]? = a[k]? := by
  unfold entC
  rw [List.getElem?_toArray, List.getElem?_append_left (by simp [ha]; omega), List.getElem?_append_left (by simp [ha]; omega), Array.getElem?_toList]
set_option maxRecDepth 20000 in
theorem entC_cnt (ha : a.size = 17) (k : Nat) (h : k < 9) : (entC a c p1 p2 p3 gv sv stv more)[17 + k]? = some (.int .i64 (c k)) := by
  unfold entC
  rw [List.getElem?_toArray, List.getElem?_append_left (by simp [ha, cntL_len]; omega), List.getElem?_append_right (by simp [ha])]
  simp only [Array.length_toList, ha]
  rw [Nat.add_sub_cancel_left, cntL_get c k h]
set_option maxRecDepth 20000 in
theorem entC_hi (ha : a.size = 17) (k : Nat) : (entC a c p1 p2 p3 gv sv stv more)[26 + k]? = ([p1, p2, p3, gv, sv, stv, .int .i64 (more : Nat)] : List Value)[k]? := by
  unfold entC
  rw [List.getElem?_toArray, List.getElem?_append_right (by simp [ha, cntL_len])]
  simp only [List.length_append, Array.length_toList, ha, cntL_len]
  congr 1
  omega
end
set_option maxRecDepth 20000 in
theorem arr_ext_get {x y : Array Value} (h : ∀ i : Nat, x[i]? = y[i]?) : x = y := Array.ext_getElem? h
def incF (c : Nat → Int) (k : Nat) : Nat → Int := fun i => if i = k then c i + 1 else c i
set_option maxRecDepth 20000 in
theorem entC_split {a : Array Value} (ha : a.size = 17) {c : Nat → Int} {p1 p2 p3 gv sv stv : Value} {more : Nat} {y : Array Value} (hy : y.size = 33) (h1 : ∀ k, k < 17 → y[k]? = a[k]?) (h2 : ∀ k, k < 9 → y[17 + k]? = some (.int .i64 (c k))) (h3 : ∀ k, k < 7 → y[26 + k]? = ([p1, p2, p3, gv, sv, stv, .int .i64 (more : Nat)] : List Value)[k]?) : y = entC a c p1 p2 p3 gv sv stv more := by
  refine arr_ext_get fun i => ?_
  by_cases c1 : i < 17
  · rw [h1 i c1, entC_lo ha i c1]
  · by_cases c2 : i < 26
    · obtain ⟨k, rfl⟩ : ∃ k, i = 17 + k := ⟨i - 17, by omega⟩
      rw [h2 k (by omega), entC_cnt ha k (by omega)]
    · by_cases c3 : i < 33
      · obtain ⟨k, rfl⟩ : ∃ k, i = 26 + k := ⟨i - 26, by omega⟩
        rw [h3 k (by omega), entC_hi ha]
      · rw [Array.getElem?_eq_none (by omega), Array.getElem?_eq_none (by rw [entC_size ha]; omega)]
section
variable {a : Array Value} {c : Nat → Int} {p1 p2 p3 gv sv stv : Value} {more : Nat}
set_option maxRecDepth 20000 in
/-- one more of a class -/
theorem entC_inc (ha : a.size = 17) (k : Nat) (h : k < 9) : (entC a c p1 p2 p3 gv sv stv more).setIfInBounds (17 + k) (.int .i64 (c k + 1)) = entC a (incF c k) p1 p2 p3 gv sv stv more := by
  refine entC_split ha (by rw [Array.size_setIfInBounds, entC_size ha]) (fun i hi => ?_) (fun i hi => ?_) (fun i hi => ?_)
  · rw [Array.getElem?_setIfInBounds, if_neg (by omega), entC_lo ha i hi]
  · rw [Array.getElem?_setIfInBounds]
    unfold incF
    by_cases e : i = k
    · subst e
      rw [if_pos rfl, if_pos (by rw [entC_size ha]; omega), if_pos rfl]
    · rw [if_neg (by omega), entC_cnt ha i hi, if_neg e]
  · rw [Array.getElem?_setIfInBounds, if_neg (by omega), entC_hi ha]
set_option maxRecDepth 20000 in
theorem entC_grid (ha : a.size = 17) (v : Value) : (entC a c p1 p2 p3 gv sv stv more).setIfInBounds 29 v = entC a c p1 p2 p3 v sv stv more := by
  refine entC_split ha (by rw [Array.size_setIfInBounds, entC_size ha]) (fun i hi => ?_) (fun i hi => ?_) (fun i hi => ?_)
  · rw [Array.getElem?_setIfInBounds, if_neg (by omega), entC_lo ha i hi]
  · rw [Array.getElem?_setIfInBounds, if_neg (by omega), entC_cnt ha i hi]
  · rw [Array.getElem?_setIfInBounds, entC_hi ha]
    match i, hi with
    | 0, _ | 1, _ | 2, _ | 4, _ | 5, _ | 6, _ => rfl
    | 3, _ => rw [if_pos rfl, if_pos (by rw [entC_size ha]; omega)]; rfl
set_option maxRecDepth 20000 in
theorem entC_shift (ha : a.size = 17) (v : Value) : (entC a c p1 p2 p3 gv sv stv more).setIfInBounds 30 v = entC a c p1 p2 p3 gv v stv more := by
  refine entC_split ha (by rw [Array.size_setIfInBounds, entC_size ha]) (fun i hi => ?_) (fun i hi => ?_) (fun i hi => ?_)
  · rw [Array.getElem?_setIfInBounds, if_neg (by omega), entC_lo ha i hi]
  · rw [Array.getElem?_setIfInBounds, if_neg (by omega), entC_cnt ha i hi]
  · rw [Array.getElem?_setIfInBounds, entC_hi ha]
    match i, hi with
    | 0, _ | 1, _ | 2, _ | 3, _ | 5, _ | 6, _ => rfl
    | 4, _ => rw [if_pos rfl, if_pos (by rw [entC_size ha]; omega)]; rfl
set_option maxRecDepth 20000 in
theorem entC_steps (ha : a.size = 17) (v : Value) : (entC a c p1 p2 p3 gv sv stv more).setIfInBounds 31 v = entC a c p1 p2 p3 gv sv v more := by
  refine entC_split ha (by rw [Array.size_setIfInBounds, entC_size ha]) (fun i hi => ?_) (fun i hi => ?_) (fun i hi => ?_)
  · rw [Array.getElem?_setIfInBounds, if_neg (by omega), entC_lo ha i hi]
  · rw [Array.getElem?_setIfInBounds, if_neg (by omega), entC_cnt ha i hi]
  · rw [Array.getElem?_setIfInBounds, entC_hi ha]
    match i, hi with
    | 0, _ | 1, _ | 2, _ | 3, _ | 4, _ | 6, _ => rfl
    | 5, _ => rw [if_pos rfl, if_pos (by rw [entC_size ha]; omega)]; rfl
set_option maxRecDepth 20000 in
theorem entC_more (ha : a.size = 17) (n : Nat) : (entC a c p1 p2 p3 gv sv stv more).setIfInBounds 32 (.int .i64 (n : Nat)) = entC a c p1 p2 p3 gv sv stv n := by
  refine entC_split ha (by rw [Array.size_setIfInBounds, entC_size ha]) (fun i hi => ?_) (fun i hi => ?_) (fun i hi => ?_)
  · rw [Array.getElem?_setIfInBounds, if_neg (by omega), entC_lo ha i hi]
  · rw [Array.getElem?_setIfInBounds, if_neg (by omega), entC_cnt ha i hi]
  · rw [Array.getElem?_setIfInBounds, entC_hi ha]
    match i, hi with
    | 0, _ | 1, _ | 2, _ | 3, _ | 4, _ | 5, _ => rfl
    | 6, _ => rw [if_pos rfl, if_pos (by rw [entC_size ha]; omega)]; rfl
end
/-! ### steps -/
def stpC (s : Nat × Int × Int) : List Value := [.int .u64 (s.1 : Nat), .int .i64 s.2.1, .int .i64 s.2.2]
def stpL (l : List (Nat × Int × Int)) : List Value := l.flatMap stpC
set_option maxRecDepth 20000 in
theorem stpL_snoc (l : List (Nat × Int × Int)) (x : Nat × Int × Int) : stpL (l ++ [x]) = stpL l ++ stpC x := by unfold stpL; rw [List.flatMap_append]; simp
/-! ### in memory -/
abbrev ptrS (g : Nat) : Value := .pointer (some ⟨g, 0, none⟩)
abbrev nilS : Value := .pointer none
def entTys : List TypeId := [99, 136, 128, 123, 131, 145, 85]
/-- the blocks are of an entry's types -/
def TyIn (W : World) (F : List Nat) : Prop := ∀ k ∈ F, ∃ cs t f, W.heap[k]? = some (.cells cs t f) ∧ t ∈ entTys
structure EntOk (n : Nat) (E : Ent) : Prop where
  a : AdrP E.a
  sz : E.a.size = 17
  c : ∀ k, 0 ≤ E.c k ∧ E.c k ≤ n
  g : ∃ k : Nat, k ≤ n ∧ Good E.s1 k ∧ Good E.s2 k ∧ Good E.s3 k
  m : MOk E.M n
  d : E.D.c ≤ n
  st : E.st.length ≤ 16
  more : E.more ≤ n
/-- the grid and the detector of an entry that has them -/
structure LimbS (W : World) (b : Nat) (gv sv : Value) (F : List Nat) (o : Nat) (x : Int) (M : List Slot) (D : Sd) : Prop where
  ex : ∃ pg rg Cg pd vs, gv = ptrS pg ∧ sv = ptrS pd ∧ GAt W pg rg Cg o x M ∧ ShIs W pd b vs D ∧ pg ∈ F ∧ rg ∈ F ∧ pd ∈ F ∧ ∀ k, vs.ownBlock = some k → k ∈ F
structure EntIs (W : World) (b g : Nat) (F : List Nat) (o : Nat) (x : Int) (full : Bool) (n : Nat) (E : Ent) (p1 p2 p3 : Nat) (gv sv stv : Value) : Prop where
  e : Blk W g 99 (entC E.a E.c (ptrS p1) (ptrS p2) (ptrS p3) gv sv stv E.more)
  b1 : Blk W p1 136 (accC true E.s1)
  b2 : Blk W p2 136 (accC true E.s2)
  b3 : Blk W p3 136 (accC true E.s3)
  n12 : p1 ≠ p2
  n13 : p1 ≠ p3
  n23 : p2 ≠ p3
  limb : full = true → LimbS W b gv sv F o x E.M E.D
  none_ : full = false → gv = nilS ∧ sv = nilS
  row : W.ownsRow b 85 3 stv E.st.length (stpL E.st)
  fg : g ∈ F
  f1 : p1 ∈ F
  f2 : p2 ∈ F
  f3 : p3 ∈ F
  fr : ∀ k, stv.ownBlock = some k → k ∈ F
  ty : TyIn W F
  ok : EntOk n E
set_option maxRecDepth 20000 in
theorem TyIn.lt {W : World} {F : List Nat} (h : TyIn W F) : ∀ k ∈ F, k < W.heap.size := fun k hk => by
  obtain ⟨_, _, _, e, _⟩ := h k hk
  exact (Array.getElem?_eq_some_iff.1 e).1
set_option maxRecDepth 20000 in
theorem TyIn.kp {S : Nat → Prop} {W w : World} {F : List Nat} (h : TyIn W F) (k : KpS S W w) (q : ∀ k ∈ F, ¬ S k) : TyIn w F := fun i hi => by
  obtain ⟨cs, t, f, e, ht⟩ := h i hi
  exact ⟨cs, t, f, (k.block i (Array.getElem?_eq_some_iff.1 e).1 (q i hi)).trans e, ht⟩
set_option maxRecDepth 20000 in
theorem TyIn.not_ty {W : World} {F : List Nat} (h : TyIn W F) {g : Nat} {t : TypeId} {cs : Array Value} (b : Blk W g t cs) (n : t ∉ entTys) : g ∉ F := fun hg => by
  obtain ⟨cs', t', f, e, ht⟩ := h g hg
  have := b.out.symm.trans e
  simp at this
  exact n (this.2.1 ▸ ht)
set_option maxRecDepth 20000 in
theorem TyIn.not_map {W : World} {F : List Nat} (h : TyIn W F) {B : Nat} (b : ∃ es clock, W.heap[B]? = some (.map es clock)) : B ∉ F := fun hg => by
  obtain ⟨cs', t', f, e, ht⟩ := h B hg
  obtain ⟨es, clock, hb⟩ := b
  rw [hb] at e
  cases e
set_option maxRecDepth 20000 in
theorem GAt.kpS {S : Nat → Prop} {W w : World} {p r C o : Nat} {x : Int} {M : List Slot} (h : GAt W p r C o x M) (k : KpS S W w) (q1 : ¬ S p) (q2 : ¬ S r) : GAt w p r C o x M :=
  ⟨⟨k.blk h.at_.g q1, h.at_.r.of_same (k.block r h.at_.r.lt q2)⟩, h.ne, h.o1, h.o2, h.x1, h.x2⟩
set_option maxRecDepth 20000 in
theorem ShIs.kpS {S : Nat → Prop} {W w : World} {p b : Nat} {v : Value} {D : Sd} (h : ShIs W p b v D) (k : KpS S W w) (q1 : ¬ S p) (q2 : ∀ g, v.ownBlock = some g → ¬ S g) : ShIs w p b v D := ⟨k.blk h.m q1, own_kpS h.row k q2, h.ok⟩
set_option maxRecDepth 20000 in
theorem LimbS.kp {S : Nat → Prop} {W w : World} {b : Nat} {gv sv : Value} {F : List Nat} {o : Nat} {x : Int} {M : List Slot} {D : Sd} (h : LimbS W b gv sv F o x M D) (k : KpS S W w) (q : ∀ k ∈ F, ¬ S k) : LimbS w b gv sv F o x M D := by
  obtain ⟨pg, rg, Cg, pd, vs, e1, e2, h1, h2, f1, f2, f3, f4⟩ := h.ex
  exact ⟨pg, rg, Cg, pd, vs, e1, e2, h1.kpS k (q _ f1) (q _ f2), h2.kpS k (q _ f3) fun g hg => q _ (f4 g hg), f1, f2, f3, f4⟩
set_option maxRecDepth 20000 in
/-- an entry is kept by what touches none of its blocks -/
theorem EntIs.kp {S : Nat → Prop} {W w : World} {b g : Nat} {F : List Nat} {o : Nat} {x : Int} {full : Bool} {n : Nat} {E : Ent} {p1 p2 p3 : Nat} {gv sv stv : Value} (h : EntIs W b g F o x full n E p1 p2 p3 gv sv stv) (k : KpS S W w) (q : ∀ k ∈ F, ¬ S k) : EntIs w b g F o x full n E p1 p2 p3 gv sv stv :=
  ⟨k.blk h.e (q _ h.fg), k.blk h.b1 (q _ h.f1), k.blk h.b2 (q _ h.f2), k.blk h.b3 (q _ h.f3), h.n12, h.n13, h.n23, fun f => (h.limb f).kp k q, h.none_, own_kpS h.row k fun g hg => q _ (h.fr g hg), h.fg, h.f1, h.f2, h.f3, h.fr, h.ty.kp k q, h.ok⟩
end Go.Proofs.Ythgkhllkhhnlpaa
