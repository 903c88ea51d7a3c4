/- Written by gen/bundle30.py: PendA, PendB, PendC, PendD, PendE in one text. -/
import Derived.Test.YtcflebggepmmcaaBlkS
import Derived.Maps.OwnSet
import Derived.Maps.Views
/- pend: a table of nodes in a chain, and a map of them: how it lies. -/
namespace Go.Proofs.Ytcflebggepmmcaa
open Go.RowKit Go.Maps

/-! ### what a call with such blocks keeps -/
/-- w' is w, but for the blocks of S, and with more blocks -/
structure KpS (S : Nat → Prop) (w w' : World) : Prop where
  os : w'.os = w.os
  tape : w'.tape = w.tape
  output : w'.output = w.output
  size : w.heap.size ≤ w'.heap.size
  block : ∀ k, k < w.heap.size → ¬ S k → w'.heap[k]? = w.heap[k]?
set_option maxRecDepth 20000 in
theorem KpS.mono {S S' : Nat → Prop} {w w' : World} (h : KpS S w w') (k : ∀ i, i < w.heap.size → S i → S' i) : KpS S' w w' := ⟨h.os, h.tape, h.output, h.size, fun i hi n => h.block i hi fun s => n (k i hi s)⟩
set_option maxRecDepth 20000 in
theorem KpS.trans {S S' : Nat → Prop} {a b c : World} (h : KpS S a b) (k : KpS S' b c) (q : ∀ i, i < a.heap.size → S' i → S i) : KpS S a c :=
  ⟨k.os.trans h.os, k.tape.trans h.tape, k.output.trans h.output, Nat.le_trans h.size k.size, fun i hi n => (k.block i (Nat.lt_of_lt_of_le hi h.size) fun s => n (q i hi s)).trans (h.block i hi n)⟩
set_option maxRecDepth 20000 in
theorem KpS.of_mo {S : Nat → Prop} {w w' : World} (h : Mo w w') : KpS S w w' := ⟨h.below.os, h.below.tape, h.below.output, h.below.size, fun i hi _ => h.below.block i hi⟩
set_option maxRecDepth 20000 in
theorem KpS.mo {S : Nat → Prop} {V w w' : World} (h : KpS S w w') (m : Mo V w) (s : ∀ k, k < w.heap.size → S k → V.heap.size ≤ k) : Mo V w' :=
  Mo.of (m.below.trans ⟨h.os, h.tape, h.output, Nat.le_trans m.size h.size |> fun _ => h.size, fun k hk => h.block k (Nat.lt_of_lt_of_le hk m.size) fun q => by have := s k (Nat.lt_of_lt_of_le hk m.size) q; omega⟩)
set_option maxRecDepth 20000 in
theorem KpS.of_row {S : Nat → Prop} {w w' : World} {g : Nat} (h : w.grownBy w' (some g)) (s : S g) : KpS S w w' :=
  ⟨h.os, h.tape, h.output, h.size, fun i hi n => h.block i hi fun e => n (by injection e with e; rw [e]; exact s)⟩
set_option maxRecDepth 20000 in
theorem kpS_setCell {S : Nat → Prop} (w : World) (g i : Nat) (v : Value) (s : S g) : KpS S w (w.setCell ⟨g, i, none⟩ v) :=
  ⟨rfl, rfl, rfl, by simp [World.setCell], fun k _ n => heap_setCell_other w ⟨g, i, none⟩ k v fun e => n (by rw [e]; exact s)⟩
set_option maxRecDepth 20000 in
theorem kpS_setRow {S : Nat → Prop} (w : World) (g : Nat) (cs : Array Value) (s : S g) : KpS S w (w.setRow g cs) :=
  ⟨rfl, rfl, rfl, Nat.le_of_eq (setRow_size' w g cs).symm, fun k _ n => setRow_get_ne w g k cs fun e => n (by rw [← e]; exact s)⟩
set_option maxRecDepth 20000 in
theorem KpS.refl (S : Nat → Prop) (w : World) : KpS S w w := KpS.of_mo (Mo.refl w)
set_option maxRecDepth 20000 in
theorem KpS.cell {S : Nat → Prop} {w w' : World} (h : KpS S w w') {g : Nat} (s : S g) (i : Nat) (v : Value) : KpS S w (w'.setCell ⟨g, i, none⟩ v) := h.trans (kpS_setCell w' g i v s) fun _ _ q => q
set_option maxRecDepth 20000 in
theorem KpS.row {S : Nat → Prop} {w w' : World} (h : KpS S w w') {g : Nat} (s : S g) (cs : Array Value) : KpS S w (w'.setRow g cs) := h.trans (kpS_setRow w' g cs s) fun _ _ q => q
set_option maxRecDepth 20000 in
theorem KpS.blk {S : Nat → Prop} {w w' : World} (h : KpS S w w') {g : Nat} {t : TypeId} {cs : Array Value} (b : Blk w g t cs) (n : ¬ S g) : Blk w' g t cs := ⟨(h.block g b.lt n).trans b.out⟩

/-! ### entries and nodes -/
structure En where
  k : Array Value
  a : Array Value
  d : Bool
structure EnOk (e : En) : Prop where
  k : Fits (ksOf 72) e.k.toList
  a : Fits (ksOf 32) e.a.toList
def enC (k a : Array Value) (d : Bool) : Array Value := k ++ a ++ #[.bool d]
def ndC (k a : Array Value) (d : Bool) (o n : Value) : Array Value := k ++ a ++ #[.bool d, o, n]
abbrev ptr (g : Nat) : Value := .pointer (some ⟨g, 0, none⟩)
abbrev nilp : Value := .pointer none
abbrev ndE (e : En) (o n : Value) : Array Value := ndC e.k e.a e.d o n
def firstP : List (Nat × En) → Value → Value
  | [], n => n
  | (g, _) :: _, _ => ptr g
def lastP : Value → List (Nat × En) → Value
  | p, [] => p
  | _, (g, _) :: l => lastP (ptr g) l
def Seg (W : World) : Value → List (Nat × En) → Value → Prop
  | _, [], _ => True
  | p, (g, e) :: l, n => Blk W g 132 (ndE e p (firstP l n)) ∧ Seg W (ptr g) l n
set_option maxRecDepth 20000 in
theorem firstP_append : ∀ (a c : List (Nat × En)) (n : Value), firstP (a ++ c) n = firstP a (firstP c n)
  | [], _, _ => rfl
  | (_, _) :: _, _, _ => rfl
set_option maxRecDepth 20000 in
theorem lastP_append : ∀ (p : Value) (a c : List (Nat × En)), lastP p (a ++ c) = lastP (lastP p a) c
  | _, [], _ => rfl
  | _, (_, _) :: l, c => lastP_append _ l c
set_option maxRecDepth 20000 in
theorem lastP_snoc (p : Value) (a : List (Nat × En)) (g : Nat) (e : En) : lastP p (a ++ [(g, e)]) = ptr g := by rw [lastP_append]; rfl
set_option maxRecDepth 20000 in
theorem firstP_snoc (a : List (Nat × En)) (g : Nat) (e : En) (n : Value) : firstP (a ++ [(g, e)]) n = firstP a (ptr g) := firstP_append _ _ _
set_option maxRecDepth 20000 in
theorem seg_append {W : World} : ∀ (p : Value) (a c : List (Nat × En)) (n : Value), Seg W p (a ++ c) n ↔ Seg W p a (firstP c n) ∧ Seg W (lastP p a) c n
  | p, [], c, n => by simp [Seg, lastP]
  | p, (g, e) :: l, c, n => by
    simp only [List.cons_append, Seg, firstP_append, lastP]
    rw [seg_append (ptr g) l c n, and_assoc]
set_option maxRecDepth 20000 in
theorem seg_keep {W w' : World} : ∀ {p : Value} {l : List (Nat × En)} {n : Value}, Seg W p l n → (∀ q ∈ l, w'.heap[q.1]? = W.heap[q.1]?) → Seg w' p l n
  | _, [], _, _, _ => trivial
  | _, (g, _) :: _, _, h, k => ⟨⟨(k (g, _) List.mem_cons_self).trans h.1.out⟩, seg_keep h.2 fun q hq => k q (List.mem_cons_of_mem _ hq)⟩
set_option maxRecDepth 20000 in
theorem seg_blk {W : World} : ∀ {p : Value} {l : List (Nat × En)} {n : Value}, Seg W p l n → ∀ q ∈ l, ∃ o x, Blk W q.1 132 (ndE q.2 o x)
  | _, [], _, _, q, hq => by cases hq
  | p, (g, e) :: l, n, h, q, hq => by
    rcases List.mem_cons.1 hq with rfl | hq
    · exact ⟨_, _, h.1⟩
    · exact seg_blk h.2 q hq
set_option maxRecDepth 20000 in
theorem seg_lt {W : World} {p : Value} {l : List (Nat × En)} {n : Value} (h : Seg W p l n) : ∀ q ∈ l, q.1 < W.heap.size := fun q hq => by
  obtain ⟨_, _, b⟩ := seg_blk h q hq
  exact b.lt
section
variable {k a : Array Value} {d : Bool} {o n v : Value} [hk : SzA k 37] [ha : SzA a 2]
set_option maxRecDepth 20000 in
theorem nd_size : (ndC k a d o n).size = 42 := by unfold ndC; simp [hk.out, ha.out]
set_option maxRecDepth 20000 in
theorem en_size : (enC k a d).size = 40 := by unfold enC; simp [hk.out, ha.out]
set_option maxRecDepth 20000 in
theorem nd_old : (ndC k a d o n)[40]? = some o := by
  unfold ndC
  rw [Array.getElem?_append_right (by simp [hk.out, ha.out])]
  simp [hk.out, ha.out]
set_option maxRecDepth 20000 in
theorem nd_new : (ndC k a d o n)[41]? = some n := by
  unfold ndC
  rw [Array.getElem?_append_right (by simp [hk.out, ha.out])]
  simp [hk.out, ha.out]
set_option maxRecDepth 20000 in
theorem nd_ans : (ndC k a d o n)[39]? = some (.bool d) := by
  unfold ndC
  rw [Array.getElem?_append_right (by simp [hk.out, ha.out])]
  simp [hk.out, ha.out]
set_option maxRecDepth 20000 in
theorem nd_set (i : Nat) (hi : 39 ≤ i) : (ndC k a d o n).setIfInBounds i v = k ++ a ++ #[.bool d, o, n].setIfInBounds (i - 39) v := by
  unfold ndC
  have hs : (k ++ a).size = 39 := by simp [hk.out, ha.out]
  generalize k ++ a = m at *
  generalize hr : #[Value.bool d, o, n] = r
  refine Array.ext_getElem? fun j => ?_
  rw [Array.getElem?_setIfInBounds, Array.getElem?_append, Array.getElem?_append, hs, Array.getElem?_setIfInBounds, Array.size_append, hs]
  by_cases c : i = j
  · subst c
    rw [if_pos rfl, if_neg (show ¬ i < 39 by omega), if_pos rfl]
    by_cases q : i < 39 + r.size
    · rw [if_pos q, if_pos (by omega)]
    · rw [if_neg q, if_neg (by omega)]
  · rw [if_neg c]
    by_cases q : j < 39
    · rw [if_pos q, if_pos q]
    · rw [if_neg q, if_neg q, if_neg (by omega)]
set_option maxRecDepth 20000 in
theorem ext_left (m r : Array Value) (n : Nat) (h : m.size = n) : (m ++ r).extract 0 n = m := by
  subst h
  refine Array.ext_getElem? fun j => ?_
  rw [Array.getElem?_extract]
  by_cases c : j < m.size
  · rw [if_pos (by simp; omega), Array.getElem?_append, if_pos (by omega), Nat.zero_add]
  · rw [if_neg (by simp; omega), Array.getElem?_eq_none (by omega)]
set_option maxRecDepth 20000 in
theorem nd_set39 {b : Bool} : (ndC k a d o n).setIfInBounds 39 (.bool b) = ndC k a b o n := nd_set 39 (by omega)
set_option maxRecDepth 20000 in
theorem nd_set40 : (ndC k a d o n).setIfInBounds 40 v = ndC k a d v n := nd_set 40 (by omega)
set_option maxRecDepth 20000 in
theorem nd_set41 : (ndC k a d o n).setIfInBounds 41 v = ndC k a d o v := nd_set 41 (by omega)
omit ha in
set_option maxRecDepth 20000 in
theorem nd_key : (ndC k a d o n).extract 0 37 = k := by
  unfold ndC
  rw [Array.append_assoc]
  exact ext_left _ _ _ hk.out
set_option maxRecDepth 20000 in
theorem nd_en : (ndC k a d o n).extract 0 40 = enC k a d := by
  have e : ndC k a d o n = enC k a d ++ #[o, n] := by
    unfold ndC enC
    have e : #[Value.bool d, o, n] = #[Value.bool d] ++ #[o, n] := rfl
    rw [e]
    exact Array.append_assoc.symm
  rw [e]
  exact ext_left _ _ _ en_size
end
/-! ### the map of the nodes -/
def ptrR : Value → Option (DataW Unit × List MemPlace)
  | .pointer none => some (.lit (.int .i64 (-1)), [])
  | .pointer (some ⟨g, 0, none⟩) => some (.lit (.int .i64 g), [])
  | _ => none
set_option maxRecDepth 20000 in
theorem ptrR_ptr {v : Value} {g : Nat} {ps : List MemPlace} (h : ptrR v = some (.lit (.int .i64 g), ps)) : v = ptr g := by
  unfold ptrR at h
  split at h
  · simp only [Option.some.injEq, Prod.mk.injEq] at h
    have := h.1
    injection this with this
    injection this with _ this
    omega
  · rename_i q
    simp only [Option.some.injEq, Prod.mk.injEq] at h
    have := h.1
    injection this with this
    injection this with _ this
    have : q = g := by omega
    rw [this]
  · cases h
set_option maxRecDepth 20000 in
theorem ptrR_nil {v : Value} {ps : List MemPlace} (h : ptrR v = some (.lit (.int .i64 (-1)), ps)) : v = nilp := by
  unfold ptrR at h
  split at h
  · rfl
  · rename_i q
    simp only [Option.some.injEq, Prod.mk.injEq] at h
    have := h.1
    injection this with this
    injection this with _ this
    omega
  · cases h
abbrev KeyP (k : Array Value) : Prop := Fits (ksOf 72) k.toList
noncomputable def litK (k : Array Value) : Lit := (keyOf Try.prog 72 (.agg k)).getD (.bool false)
set_option maxRecDepth 20000 in
theorem litK_eq {k : Array Value} (h : KeyP k) : keyOf Try.prog 72 (.agg k) = some (litK k) := by
  obtain ⟨l, e⟩ := key_flat fl_key h
  unfold litK
  rw [e]; rfl
set_option maxRecDepth 20000 in
theorem litK_inj {k k' : Array Value} (h : KeyP k) (h' : KeyP k') (e : litK k = litK k') : k = k' := by
  have h1 := litK_eq h
  have h2 := litK_eq h'
  rw [← e] at h2
  have := (law_flat fl_key).inj h1 h2
  injection this
set_option maxRecDepth 20000 in
theorem litK_key {k : Array Value} (h : KeyP k) : WideAt.IsKeyLit (litK k) := (law_flat fl_key).key (litK_eq h)
set_option maxRecDepth 20000 in
theorem under_map : Try.prog.underlying 125 = some (.map 72 126) := by kernel_rfl
set_option maxRecDepth 20000 in
theorem zero_node (w : World) : (zeroValue 126).run Try.prog w = .ok nilp w := by rfl
abbrev zdN : DataW Unit := .lit (.int .i64 (-1))
def MapIs (W : World) (B : Nat) (L : List (Nat × En)) : Prop :=
  ∃ D : DataW Unit, W.ownsMap Try.prog 72 ptrR B L.length D ∧ Tidy D ∧ size D = L.length ∧ (∀ q ∈ L, D.atKey (litK q.2.k) zdN = .lit (.int .i64 q.1)) ∧ ∀ kl, has D kl = true ↔ ∃ q ∈ L, litK q.2.k = kl
set_option maxRecDepth 20000 in
theorem ownsMap_tight {W : World} {B n : Nat} {D : DataW Unit} (h : W.ownsMap Try.prog 72 ptrR B n D) : W.ownsMap Try.prog 72 ptrR B (size D) D := by
  obtain ⟨es, clock, hb, F, hs, rfl⟩ := h
  exact ⟨es, clock, hb, F, by simp [size, length_sorted], rfl⟩
set_option maxRecDepth 20000 in
theorem MapIs.keep {W w' : World} {B : Nat} {L : List (Nat × En)} (h : MapIs W B L) (k : w'.heap[B]? = W.heap[B]?) : MapIs w' B L := by
  obtain ⟨D, ⟨es, clock, hb, F, hs, e⟩, r⟩ := h
  exact ⟨D, ⟨es, clock, k.trans hb, F, hs, e⟩, r⟩
set_option maxRecDepth 20000 in
theorem MapIs.made (w : World) : MapIs (w.alloc (.map #[] 0)) w.heap.size [] :=
  ⟨.map [], World.ownsMap_made w _ _ _, tidy_empty, rfl, fun q hq => (by cases hq), fun kl => (by simp [has])⟩
set_option maxRecDepth 20000 in
theorem MapIs.isMap {W : World} {B : Nat} {L : List (Nat × En)} (h : MapIs W B L) : ∃ es clock, W.heap[B]? = some (.map es clock) := by
  obtain ⟨D, ⟨es, clock, hb, _⟩, _⟩ := h
  exact ⟨es, clock, hb⟩
set_option maxRecDepth 20000 in
theorem MapIs.yes {W : World} {B : Nat} {L : List (Nat × En)} (h : MapIs W B L) {g : Nat} {e : En} (hq : (g, e) ∈ L) (he : KeyP e.k) :
    (Instr.lookup 125 (.map (some B)) (.agg e.k) true).run Try.prog W = .ok (.tuple #[ptr g, .bool true]) W := by
  obtain ⟨D, ho, ht, hs, ha, hh⟩ := h
  obtain ⟨v, ps, hrun, hv⟩ := ho.look_ok (law_flat fl_key) under_map (zero_node W) (zd := zdN) (zp := []) rfl (litK_eq he)
  rw [ha _ hq] at hv
  rw [ptrR_ptr hv, (hh _).2 ⟨_, hq, rfl⟩] at hrun
  exact hrun
set_option maxRecDepth 20000 in
theorem MapIs.no {W : World} {B : Nat} {L : List (Nat × En)} (h : MapIs W B L) {k : Array Value} (hk : KeyP k) (ok : ∀ q ∈ L, KeyP q.2.k) (hn : ∀ q ∈ L, q.2.k ≠ k) :
    (Instr.lookup 125 (.map (some B)) (.agg k) true).run Try.prog W = .ok (.tuple #[nilp, .bool false]) W := by
  obtain ⟨D, ho, ht, hs, ha, hh⟩ := h
  obtain ⟨v, ps, hrun, hv⟩ := ho.look_ok (law_flat fl_key) under_map (zero_node W) (zd := zdN) (zp := []) rfl (litK_eq hk)
  have hf : has D (litK k) = false := by
    rw [Bool.eq_false_iff]
    intro h
    obtain ⟨q, hq, e⟩ := (hh _).1 h
    exact hn q hq (litK_inj (ok q hq) hk e)
  rw [atKey_of_not_has hf] at hv
  rw [hf, ptrR_nil hv] at hrun
  exact hrun
set_option maxRecDepth 20000 in
theorem MapIs.len {W : World} {B : Nat} {L : List (Nat × En)} (h : MapIs W B L) (ty : TypeId) : (Builtin.len_ #[125] ty #[.map (some B)]).run Try.prog W = .ok (.int .i64 L.length) W := by
  obtain ⟨D, ho, ht, hs, ha, hh⟩ := h
  rw [← hs]
  exact ho.len under_map ty
set_option maxRecDepth 20000 in
theorem MapIs.drop {W : World} {B : Nat} {A C : List (Nat × En)} {g : Nat} {e : En} (h : MapIs W B (A ++ (g, e) :: C)) (ok : ∀ q ∈ A ++ (g, e) :: C, KeyP q.2.k) (nd : ((A ++ (g, e) :: C).map (·.2.k)).Nodup) (ty : TypeId) :
    ∃ w', (Builtin.delete_ #[125, 72] ty #[.map (some B), .agg e.k]).run Try.prog W = .ok (.tuple #[]) w' ∧ MapIs w' B (A ++ C) ∧ W.mapTurned w' B := by
  obtain ⟨D, ho, ht, hs, ha, hh⟩ := h
  have hmem : (g, e) ∈ A ++ (g, e) :: C := List.mem_append_right _ List.mem_cons_self
  have he := ok _ hmem
  obtain ⟨w', hrun, ho', hm⟩ := ho.drop (law_flat fl_key) under_map (litK_eq he) ty
  refine ⟨w', hrun, ?_, hm⟩
  have hne : ∀ q ∈ A ++ C, litK q.2.k ≠ litK e.k := by
    intro q hq e1
    have e2 := litK_inj (ok q (by rcases List.mem_append.1 hq with h | h; exact List.mem_append_left _ h; exact List.mem_append_right _ (List.mem_cons_of_mem _ h))) he e1
    rw [List.map_append, List.map_cons, List.nodup_append] at nd
    obtain ⟨-, n2, n3⟩ := nd
    rcases List.mem_append.1 hq with h | h
    · exact n3 _ (List.mem_map_of_mem h) _ List.mem_cons_self e2
    · rw [List.nodup_cons] at n2
      exact n2.1 (e2 ▸ List.mem_map_of_mem (f := fun q : Nat × En => q.2.k) h)
  have hb : has D (litK e.k) = true := (hh _).2 ⟨_, hmem, rfl⟩
  have hsz : size (D.del (litK e.k)) = (A ++ C).length := by
    have := size_del (k := litK e.k) ht
    rw [hb, if_pos rfl, hs] at this
    simp only [List.length_append, List.length_cons] at this ⊢
    omega
  refine ⟨D.del (litK e.k), ?_, ht.del _, hsz, fun q hq => ?_, fun kl => ?_⟩
  · rw [← hsz]; exact ownsMap_tight ho'
  · rw [atKey_del_other (hne q hq)]
    exact ha q (by rcases List.mem_append.1 hq with h | h; exact List.mem_append_left _ h; exact List.mem_append_right _ (List.mem_cons_of_mem _ h))
  · by_cases c : kl = litK e.k
    · subst c
      rw [has_del_same]
      constructor
      · intro h; cases h
      · rintro ⟨q, hq, e1⟩; exact absurd e1 (hne q hq)
    · rw [has_del_other c, hh]
      constructor
      · rintro ⟨q, hq, e1⟩
        rcases List.mem_append.1 hq with h | h
        · exact ⟨q, List.mem_append_left _ h, e1⟩
        · rcases List.mem_cons.1 h with rfl | h
          · exact absurd e1.symm c
          · exact ⟨q, List.mem_append_right _ h, e1⟩
      · rintro ⟨q, hq, e1⟩
        exact ⟨q, by rcases List.mem_append.1 hq with h | h; exact List.mem_append_left _ h; exact List.mem_append_right _ (List.mem_cons_of_mem _ h), e1⟩
set_option maxRecDepth 20000 in
theorem MapIs.put {W : World} {B : Nat} {L : List (Nat × En)} {g : Nat} {e : En} (h : MapIs W B L) (hl : L.length < maxLen) (ok : ∀ q ∈ L, KeyP q.2.k) (he : KeyP e.k) (hn : ∀ q ∈ L, q.2.k ≠ e.k) :
    ∃ w', (Instr.mapUpdate 125 (.map (some B)) (.agg e.k) (ptr g)).run Try.prog W = .ok () w' ∧ MapIs w' B (L ++ [(g, e)]) ∧ W.mapTurned w' B := by
  obtain ⟨D, ho, ht, hs, ha, hh⟩ := h
  obtain ⟨w', hrun, ho', hm⟩ := ho.store (law_flat fl_key) under_map hl (litK_eq he) (val := ptr g) (d := .lit (.int .i64 g)) (ps := []) rfl
  refine ⟨w', hrun, ?_, hm⟩
  have hne : ∀ q ∈ L, litK q.2.k ≠ litK e.k := fun q hq e1 => hn q hq (litK_inj (ok q hq) he e1)
  have hf : has D (litK e.k) = false := by
    rw [Bool.eq_false_iff]
    intro h
    obtain ⟨q, hq, e1⟩ := (hh _).1 h
    exact hne q hq e1
  have hk := litK_key he
  refine ⟨D.put (litK e.k) (.lit (.int .i64 g)), by rw [List.length_append]; exact ho', ht.put hk _, ?_, fun q hq => ?_, fun kl => ?_⟩
  · rw [size_put ht, hf, hs, List.length_append]; rfl
  · rcases List.mem_append.1 hq with h | h
    · rw [atKey_put_other (hne q h)]; exact ha q h
    · rw [List.mem_singleton] at h
      subst h
      exact atKey_put_same ht.isMap hk _ _
  · by_cases c : kl = litK e.k
    · subst c
      rw [has_put_same ht.isMap hk]
      exact ⟨fun _ => ⟨(g, e), List.mem_append_right _ (List.mem_singleton.2 rfl), rfl⟩, fun _ => rfl⟩
    · rw [has_put_other c, hh]
      constructor
      · rintro ⟨q, hq, e1⟩; exact ⟨q, List.mem_append_left _ hq, e1⟩
      · rintro ⟨q, hq, e1⟩
        rcases List.mem_append.1 hq with h | h
        · exact ⟨q, h, e1⟩
        · rw [List.mem_singleton] at h
          subst h
          exact absurd e1.symm c
/-! ### the table -/
structure TabAt (W : World) (T B : Nat) (room : Int) (L : List (Nat × En)) : Prop where
  t : Blk W T 128 #[.int .i64 room, .map (some B), firstP L nilp, lastP nilp L]
  seg : Seg W nilp L nilp
  nod : (L.map (·.1)).Nodup
  nT : ∀ q ∈ L, q.1 ≠ T
  map : MapIs W B L
  keys : (L.map (·.2.k)).Nodup
  ok : ∀ q ∈ L, EnOk q.2
def Foot (T B : Nat) (L : List (Nat × En)) (k : Nat) : Prop := k = T ∨ k = B ∨ ∃ q ∈ L, q.1 = k
set_option maxRecDepth 20000 in
theorem TabAt.nB {W : World} {T B : Nat} {room : Int} {L : List (Nat × En)} (h : TabAt W T B room L) : ∀ q ∈ L, q.1 ≠ B := by
  intro q hq e
  obtain ⟨o, x, b⟩ := seg_blk h.seg q hq
  obtain ⟨es, clock, hb⟩ := h.map.isMap
  have h1 := b.out
  rw [e, hb] at h1
  cases h1
set_option maxRecDepth 20000 in
theorem TabAt.nTB {W : World} {T B : Nat} {room : Int} {L : List (Nat × En)} (h : TabAt W T B room L) : T ≠ B := by
  intro e
  obtain ⟨es, clock, hb⟩ := h.map.isMap
  have h1 := h.t.out
  rw [e, hb] at h1
  cases h1
set_option maxRecDepth 20000 in
theorem TabAt.keep {W w' : World} {T B : Nat} {room : Int} {L : List (Nat × En)} (h : TabAt W T B room L) (k : ∀ i, i < W.heap.size → Foot T B L i → w'.heap[i]? = W.heap[i]?) : TabAt w' T B room L :=
  ⟨⟨(k T h.t.lt (.inl rfl)).trans h.t.out⟩, seg_keep h.seg fun q hq => k q.1 (seg_lt h.seg q hq) (.inr (.inr ⟨q, hq, rfl⟩)), h.nod, h.nT, h.map.keep (k B (by obtain ⟨_, _, hb⟩ := h.map.isMap; exact (Array.getElem?_eq_some_iff.1 hb).1) (.inr (.inl rfl))), h.keys, h.ok⟩
set_option maxRecDepth 20000 in
theorem TabAt.mo {W w' : World} {T B : Nat} {room : Int} {L : List (Nat × En)} (h : TabAt W T B room L) (k : Mo W w') : TabAt w' T B room L := h.keep fun i hi _ => k.below.block i hi
set_option maxRecDepth 20000 in
theorem TabAt.lt {W : World} {T B : Nat} {room : Int} {L : List (Nat × En)} (h : TabAt W T B room L) : ∀ i, Foot T B L i → i < W.heap.size := by
  rintro i (rfl | rfl | ⟨q, hq, rfl⟩)
  · exact h.t.lt
  · obtain ⟨_, _, hb⟩ := h.map.isMap; exact (Array.getElem?_eq_some_iff.1 hb).1
  · exact seg_lt h.seg q hq
end Go.Proofs.Ytcflebggepmmcaa
/- pend.right, push, cut: walks. -/
namespace Go.Proofs.Ytcflebggepmmcaa
open Go.RowKit Go.Maps

set_option maxRecDepth 20000 in
instance row_node : RowT 132 42 := ⟨by kernel_rfl, by kernel_rfl⟩
set_option maxRecDepth 20000 in
instance row_entry : RowT 88 40 := ⟨by kernel_rfl, by kernel_rfl⟩
set_option maxRecDepth 20000 in
instance fl_entry : FlatT 88 40 := ⟨by kernel_rfl, by kernel_rfl, by kernel_rfl, by kernel_rfl, by kernel_rfl, by kernel_rfl⟩
set_option maxRecDepth 20000 in
theorem loadF_key (v : Value) : Instr.loadAt 72 v = loadF 72 v := rfl
set_option maxRecDepth 20000 in
instance nd_sz (k a : Array Value) (d : Bool) (o n : Value) [hk : SzA k 37] [ha : SzA a 2] : SzA (ndC k a d o n) 42 := ⟨nd_size⟩
set_option maxRecDepth 20000 in
theorem key_sz {k : Array Value} (h : KeyP k) : SzA k 37 := ⟨by
  have h1 := fl_key.len
  have h2 := h.len
  rw [Array.length_toList] at h2
  omega⟩
set_option maxRecDepth 20000 in
theorem at_sz {a : Array Value} (h : Fits (ksOf 32) a.toList) : SzA a 2 := ⟨by
  have h1 := fl_wide.len
  have h2 := h.len
  rw [Array.length_toList] at h2
  omega⟩
set_option maxRecDepth 20000 in
theorem run_neq_mapN (w : World) (m : Option Nat) : (binOp .neq 125 (.map m) (.map none)).run Try.prog w = .ok (.bool (!m.isNone)) w := run_neq_map_nil w _ _ _ m under_map
attribute [local go_sem] run_neq_mapN
attribute [local go_sem] blk_cell' blk_frozen' nd_old nd_new nd_ans nd_key
attribute [local go_sem ↓] loadF_key
attribute [local go_sem] run_loadFo run_loadFz
set_option maxRecDepth 20000 in
set_option maxHeartbeats 2000000 in
theorem right_any (T B : Nat) (room : Int) (o y : Value) (W : World) [h : Blk W T 128 #[.int .i64 room, .map (some B), o, y]] :
    Calls Try.prog 54 #[ptr T] W fun e w' => e = .returned (.bool true) ∧ Mo W w' := by
  go_enter Try.func54, Try.ntmps54
  go_wp2_with fail
  go_ret
  exact ⟨rfl, Mor.out⟩
set_option maxRecDepth 20000 in
set_option maxHeartbeats 2000000 in
theorem right_nil (W : World) : Calls Try.prog 54 #[nilp] W fun e w' => e = .returned (.bool false) ∧ Mo W w' := by
  go_enter Try.func54, Try.ntmps54
  go_wp2_with fail
  go_ret
  exact ⟨rfl, Mor.out⟩
set_option maxRecDepth 20000 in
theorem snoc_cases {α : Type} (l : List α) : l = [] ∨ ∃ A q, l = A ++ [q] := by
  rcases List.eq_nil_or_concat l with h | ⟨A, q, h⟩
  · exact .inl h
  · exact .inr ⟨A, q, by rw [h, List.concat_eq_append]⟩
set_option maxRecDepth 20000 in
theorem TabAt.room {W : World} {T B : Nat} {room : Int} {L : List (Nat × En)} (h : TabAt W T B room L) : ∃ o y, Blk W T 128 #[.int .i64 room, .map (some B), o, y] := ⟨_, _, h.t⟩
/-- what lies behind push -/
def PushRet (S : Nat → Prop) (T B : Nat) (room : Int) (L : List (Nat × En)) (W : World) (e : Ending) (w' : World) : Prop := e = .returned (.tuple #[]) ∧ TabAt w' T B room L ∧ KpS S W w'
set_option maxRecDepth 20000 in
theorem push_fin {W w2 w3 : World} {T B g : Nat} {room : Int} {A : List (Nat × En)} {e : En} (h : TabAt W T B room A) (hg : g ≠ T) (hB : g ≠ B) (hn : ∀ q ∈ A, q.1 ≠ g) (ok : EnOk e) (hk : ∀ q ∈ A, q.2.k ≠ e.k)
    (bt : Blk w2 T 128 #[.int .i64 room, .map (some B), firstP (A ++ [(g, e)]) nilp, ptr g]) (seg : Seg w2 nilp (A ++ [(g, e)]) nilp) (kp : KpS (fun k => k = g ∨ Foot T B A k) W w2)
    (mp : MapIs w3 B (A ++ [(g, e)])) (tn : w2.mapTurned w3 B) :
    TabAt w3 T B room (A ++ [(g, e)]) ∧ KpS (fun k => k = g ∨ Foot T B A k) W w3 := by
  have gr := tn.grown
  have hk2 : ∀ k, k < w2.heap.size → k ≠ B → w3.heap[k]? = w2.heap[k]? := fun k hk n => gr.block k hk (fun e => n (by injection e))
  have nTB := h.nTB
  have nB := h.nB
  refine ⟨⟨?_, ?_, ?_, ?_, mp, ?_, ?_⟩, kp.trans (KpS.of_row gr (S := fun k => k = B) rfl) (fun i _ e => .inr (.inr (.inl e)))⟩
  · rw [lastP_snoc]; exact ⟨(hk2 T bt.lt nTB).trans bt.out⟩
  · refine seg_keep seg fun q hq => hk2 _ (seg_lt seg q hq) ?_
    rcases List.mem_append.1 hq with h | h
    · exact nB q h
    · rw [List.mem_singleton] at h; subst h; exact hB
  · rw [List.map_append, List.nodup_append]
    refine ⟨h.nod, by simp, ?_⟩
    intro a ha b hb e1
    obtain ⟨q, hq, rfl⟩ := List.mem_map.1 ha
    simp only [List.map_cons, List.map_nil, List.mem_singleton] at hb
    exact hn q hq (e1.trans hb)
  · intro q hq
    rcases List.mem_append.1 hq with k | k
    · exact h.nT q k
    · rw [List.mem_singleton] at k; subst k; exact hg
  · rw [List.map_append, List.nodup_append]
    refine ⟨h.keys, by simp, ?_⟩
    intro a ha b hb e1
    obtain ⟨q, hq, rfl⟩ := List.mem_map.1 ha
    simp only [List.map_cons, List.map_nil, List.mem_singleton] at hb
    exact hk q hq (e1.trans hb)
  · intro q hq
    rcases List.mem_append.1 hq with k | k
    · exact h.ok q k
    · rw [List.mem_singleton] at k; subst k; exact ok
set_option maxRecDepth 20000 in
set_option maxHeartbeats 8000000 in
theorem push_any (T B g : Nat) (room : Int) (L : List (Nat × En)) (e : En) (x y : Value) (W : World) (h : TabAt W T B room L) (b : Blk W g 132 (ndE e x y)) (hg : g ≠ T) (hn : ∀ q ∈ L, q.1 ≠ g) (ok : EnOk e) (hk : ∀ q ∈ L, q.2.k ≠ e.k) (hl : L.length ≤ 65536) :
    Calls Try.prog 56 #[ptr T, ptr g] W (PushRet (fun k => k = g ∨ Foot T B L k) T B room (L ++ [(g, e)]) W) := by
  have zk := key_sz ok.k
  have za := at_sz ok.a
  have hB : g ≠ B := by
    intro e1
    obtain ⟨es, clock, hb⟩ := h.map.isMap
    have h1 := b.out
    rw [e1, hb] at h1
    cases h1
  have nTB := h.nTB
  have ht := h.t
  have MP := Lib.hid h.map
  have HT := Lib.hid h
  have HOK := Lib.hid ok
  have HK := Lib.hid hk
  have HN := Lib.hid hn
  have HL := Lib.hid hl
  obtain ⟨R, hR⟩ : ∃ R, PushRet (fun k => k = g ∨ Foot T B L k) T B room (L ++ [(g, e)]) W = R := ⟨_, rfl⟩
  rw [hR]
  have RR := Lib.hid hR
  clear hR hk hn hl ok
  obtain ⟨ek, ea, ed⟩ := e
  rcases snoc_cases L with rfl | ⟨A, ⟨j, f⟩, rfl⟩
  · simp only [firstP, lastP] at ht
    clear h
    go_enter Try.func56, Try.ntmps56
    go_upto_region 1 with (fail)
    refine wp_name ?_
    intro w1 hw1
    have b1 : Blk w1 g 132 (ndC ek ea ed nilp nilp) := by
      have := blk_setCell (blk_setCell b 40 nilp) 41 nilp
      rw [nd_set40, nd_set41] at this
      rw [hw1]; exact this
    have t1 : Blk w1 T 128 #[.int .i64 room, .map (some B), nilp, nilp] := by
      rw [hw1]; exact blk_setCell_ne (blk_setCell_ne ht hg _ _) hg _ _
    have K1 : KpS (fun k => k = g) W w1 := by
      rw [hw1]; exact ((KpS.refl (fun k => k = g) W).cell rfl 40 _).cell rfl 41 _
    have HKP := Lib.hid K1
    clear hw1 b ht K1
    go_upto_region 5 with (fail)
    refine wp_name ?_
    intro w2 hw2
    have t2 : Blk w2 T 128 #[.int .i64 room, .map (some B), ptr g, ptr g] := by
      rw [hw2]; exact blk_setCell (blk_setCell t1 2 (ptr g)) 3 (ptr g)
    have b2 : Blk w2 g 132 (ndC ek ea ed nilp nilp) := by
      rw [hw2]; exact blk_setCell_ne (blk_setCell_ne b1 (Ne.symm hg) _ _) (Ne.symm hg) _ _
    have K2 : KpS (fun k => k = g ∨ Foot T B [] k) W w2 := by
      rw [hw2]
      exact ((HKP.out.mono fun _ _ q => .inl q).cell (.inr (.inl rfl)) 2 _).cell (.inr (.inl rfl)) 3 _
    have HB : w2.heap[B]? = W.heap[B]? := by
      rw [hw2, heap_setCell_other _ _ _ _ (Ne.symm nTB), heap_setCell_other _ _ _ _ (Ne.symm nTB)]
      exact HKP.out.block B (by obtain ⟨_, _, hb⟩ := MP.out.isMap; exact (Array.getElem?_eq_some_iff.1 hb).1) (Ne.symm hB)
    obtain ⟨w3, f1, f2, f3⟩ := (MP.out.keep (w' := w2.drew) HB).put (g := g) (e := ⟨ek, ea, ed⟩) (by decide) (fun q hq => by cases hq) HOK.out.k (fun q hq => by cases hq)
    have F2 := Lib.hid (And.intro f2 f3)
    clear hw2 t1 b1 f2 f3 HB
    go_region
    have := push_fin (w2 := w2.drew) (w3 := w3) HT.out hg hB HN.out HOK.out HK.out ⟨t2.out⟩ ⟨⟨b2.out⟩, trivial⟩ (K2.trans (KpS.of_mo (S := fun k => k = g ∨ Foot T B [] k) Mor.out) fun _ _ q => q) F2.out.1 F2.out.2
    refine bodyPost_end (results_none rfl _ _ _) rfl ?_
    rw [← RR.out]
    exact ⟨rfl, this⟩
  · rw [firstP_snoc, lastP_snoc] at ht
    have hj := h.seg
    rw [seg_append] at hj
    obtain ⟨hjA, hj, -⟩ := hj
    replace hjA : Seg W nilp A (ptr j) := hjA
    replace hj : Blk W j 132 (ndE f (lastP nilp A) nilp) := hj
    have hnj : j ≠ g := HN.out (j, f) (by simp)
    have hjT : j ≠ T := h.nT (j, f) (by simp)
    have hfk := key_sz (h.ok (j, f) (by simp)).k
    have hfa := at_sz (h.ok (j, f) (by simp)).a
    have hjn : ∀ q ∈ A, q.1 ≠ j := by
      have := h.nod
      rw [List.map_append, List.nodup_append] at this
      intro q hq e
      exact this.2.2 _ (List.mem_map_of_mem hq) _ (List.mem_singleton.2 rfl) e
    obtain ⟨fk, fa, fd⟩ := f
    simp only at hfk hfa
    have HSA := Lib.hid hjA
    have HJN := Lib.hid hjn
    generalize hfp : firstP A (ptr j) = fp at *
    generalize hlq : lastP nilp A = lq at *
    have HFP := Lib.hid hfp
    have HLQ := Lib.hid hlq
    clear h hjA hjn hfp hlq
    go_enter Try.func56, Try.ntmps56
    go_upto_region 1 with (fail)
    refine wp_name ?_
    intro w1 hw1
    have b1 : Blk w1 g 132 (ndC ek ea ed (ptr j) nilp) := by
      have := blk_setCell (blk_setCell b 40 (ptr j)) 41 nilp
      rw [nd_set40, nd_set41] at this
      rw [hw1]; exact this
    have t1 : Blk w1 T 128 #[.int .i64 room, .map (some B), fp, ptr j] := by
      rw [hw1]; exact blk_setCell_ne (blk_setCell_ne ht hg _ _) hg _ _
    have j1 : Blk w1 j 132 (ndC fk fa fd lq nilp) := by
      rw [hw1]; exact blk_setCell_ne (blk_setCell_ne hj (Ne.symm hnj) _ _) (Ne.symm hnj) _ _
    have K1 : KpS (fun k => k = g) W w1 := by
      rw [hw1]; exact ((KpS.refl (fun k => k = g) W).cell rfl 40 _).cell rfl 41 _
    have HKP := Lib.hid K1
    clear hw1 b ht K1 hj
    go_upto_region 5 with (fail)
    refine wp_name ?_
    intro w2 hw2
    have t2 : Blk w2 T 128 #[.int .i64 room, .map (some B), fp, ptr g] := by
      rw [hw2]; exact blk_setCell (blk_setCell_ne t1 hjT _ _) 3 (ptr g)
    have b2 : Blk w2 g 132 (ndC ek ea ed (ptr j) nilp) := by
      rw [hw2]; exact blk_setCell_ne (blk_setCell_ne b1 hnj _ _) (Ne.symm hg) _ _
    have j2 : Blk w2 j 132 (ndC fk fa fd lq (ptr g)) := by
      have := blk_setCell j1 41 (ptr g)
      rw [nd_set41] at this
      rw [hw2]; exact blk_setCell_ne this (Ne.symm hjT) _ _
    have hA : ∀ q ∈ A, w2.heap[q.1]? = W.heap[q.1]? := by
      intro q hq
      have n1 := HJN.out q hq
      have n2 := HT.out.nT q (List.mem_append_left _ hq)
      rw [hw2, heap_setCell_other _ _ _ _ n2, heap_setCell_other _ _ _ _ n1]
      exact HKP.out.block _ (seg_lt HT.out.seg q (List.mem_append_left _ hq)) (HN.out q (List.mem_append_left _ hq))
    have K2 : KpS (fun k => k = g ∨ Foot T B (A ++ [(j, ⟨fk, fa, fd⟩)]) k) W w2 := by
      rw [hw2]
      exact ((HKP.out.mono fun _ _ q => .inl q).cell (.inr (.inr (.inr ⟨(j, ⟨fk, fa, fd⟩), by simp, rfl⟩))) 41 _).cell (.inr (.inl rfl)) 3 _
    have HB : w2.heap[B]? = W.heap[B]? := by
      have hjB : j ≠ B := HT.out.nB (j, ⟨fk, fa, fd⟩) (by simp)
      rw [hw2, heap_setCell_other _ _ _ _ (Ne.symm nTB), heap_setCell_other _ _ _ _ (Ne.symm hjB)]
      exact HKP.out.block B (by obtain ⟨_, _, hb⟩ := MP.out.isMap; exact (Array.getElem?_eq_some_iff.1 hb).1) (Ne.symm hB)
    obtain ⟨w3, f1, f2, f3⟩ := (MP.out.keep (w' := w2.drew) HB).put (g := g) (e := ⟨ek, ea, ed⟩) (by have := HL.out; unfold maxLen; omega) (fun q hq => (HT.out.ok q hq).k) HOK.out.k HK.out
    have F2 := Lib.hid (And.intro f2 f3)
    have SG : Hid (Seg w2 nilp (A ++ [(j, ⟨fk, fa, fd⟩)] ++ [(g, ⟨ek, ea, ed⟩)]) nilp) := Lib.hid (by
      rw [List.append_assoc, seg_append, HLQ.out]
      exact ⟨seg_keep HSA.out hA, j2, b2, trivial⟩)
    clear hw2 t1 b1 j1 f2 f3 HB hA j2
    go_region
    have := push_fin (w2 := w2.drew) (w3 := w3) HT.out hg hB HN.out HOK.out HK.out (by rw [List.append_assoc, firstP_append]; exact ⟨(t2.out).trans (by rw [← HFP.out]; rfl)⟩) (seg_keep SG.out fun _ _ => rfl) (K2.trans (KpS.of_mo (S := fun k => k = g ∨ Foot T B (A ++ [(j, ⟨fk, fa, fd⟩)]) k) Mor.out) fun _ _ q => q) F2.out.1 F2.out.2
    refine bodyPost_end (results_none rfl _ _ _) rfl ?_
    rw [← RR.out]
    exact ⟨rfl, this⟩
end Go.Proofs.Ytcflebggepmmcaa
/- pend.cut: the walk (printed by gen/genpendc.py). -/
namespace Go.Proofs.Ytcflebggepmmcaa
open Go.RowKit Go.Maps

def CutRet (T B : Nat) (room : Int) (A : List (Nat × En)) (g : Nat) (e : En) (C : List (Nat × En)) (W : World) (r : Ending) (w' : World) : Prop :=
  r = .returned (.tuple #[]) ∧ TabAt w' T B room (A ++ C) ∧ (∃ o x, Blk w' g 132 (ndE e o x)) ∧ KpS (Foot T B (A ++ (g, e) :: C)) W w'
set_option maxRecDepth 20000 in
theorem KpS.drew {S : Nat → Prop} {w w' : World} (h : KpS S w w') : KpS S w w'.drew := ⟨h.os, h.tape, h.output, h.size, h.block⟩
set_option maxRecDepth 20000 in
theorem mem_adr {q : Nat × En} {L : List (Nat × En)} (h : q ∈ L) : q.1 ∈ L.map (fun x => x.1) := List.mem_map.2 ⟨q, h, rfl⟩
set_option maxRecDepth 20000 in
theorem cut_fin {W w2 w3 : World} {T B g : Nat} {room : Int} {A C : List (Nat × En)} {e : En} {o x : Value} (h : TabAt W T B room (A ++ (g, e) :: C))
    (bt : Blk w2 T 128 #[.int .i64 room, .map (some B), firstP (A ++ C) nilp, lastP nilp (A ++ C)]) (seg : Seg w2 nilp (A ++ C) nilp) (bg : Blk w2 g 132 (ndE e o x)) (kp : KpS (Foot T B (A ++ (g, e) :: C)) W w2)
    (mp : MapIs w3 B (A ++ C)) (tn : w2.mapTurned w3 B) :
    TabAt w3 T B room (A ++ C) ∧ (∃ o x, Blk w3 g 132 (ndE e o x)) ∧ KpS (Foot T B (A ++ (g, e) :: C)) W w3 := by
  have gr := tn.grown
  have hk2 : ∀ k, k < w2.heap.size → k ≠ B → w3.heap[k]? = w2.heap[k]? := fun k hk n => gr.block k hk (fun e => n (by injection e))
  have nTB := h.nTB
  have nB := h.nB
  have sub : ∀ q ∈ A ++ C, q ∈ A ++ (g, e) :: C := fun q hq => by
    rcases List.mem_append.1 hq with k | k
    · exact List.mem_append_left _ k
    · exact List.mem_append_right _ (List.mem_cons_of_mem _ k)
  have sl : (A ++ C).Sublist (A ++ (g, e) :: C) := List.Sublist.append (List.Sublist.refl _) (List.sublist_cons_self _ _)
  refine ⟨⟨⟨(hk2 T bt.lt nTB).trans bt.out⟩, seg_keep seg fun q hq => hk2 _ (seg_lt seg q hq) (nB q (sub q hq)), h.nod.sublist (sl.map _), fun q hq => h.nT q (sub q hq), mp, h.keys.sublist (sl.map _), fun q hq => h.ok q (sub q hq)⟩, ⟨o, x, ⟨(hk2 g bg.lt (nB (g, e) (by simp))).trans bg.out⟩⟩, kp.trans (KpS.of_row gr (S := fun k => k = B) rfl) (fun i _ e => .inr (.inl e))⟩
attribute [local go_sem] run_neq_mapN
attribute [local go_sem] blk_cell' blk_frozen' nd_old nd_new nd_ans nd_key
attribute [local go_sem ↓] loadF_key
attribute [local go_sem] run_loadFo run_loadFz
set_option maxRecDepth 20000 in
set_option maxHeartbeats 16000000 in
theorem cut_any (T B g : Nat) (room : Int) (A C : List (Nat × En)) (e : En) (W : World) (h : TabAt W T B room (A ++ (g, e) :: C)) :
    Calls Try.prog 55 #[ptr T, ptr g] W (CutRet T B room A g e C W) := by
  have HT := Lib.hid h
  have zk := key_sz (h.ok (g, e) (by simp)).k
  have za := at_sz (h.ok (g, e) (by simp)).a
  have hgT : g ≠ T := h.nT (g, e) (by simp)
  have nTB := h.nTB
  have hs := (seg_append _ _ _ _).1 h.seg
  have SA : Seg W nilp A (ptr g) := hs.1
  have bg : Blk W g 132 (ndE e (lastP nilp A) (firstP C nilp)) := hs.2.1
  have SC : Seg W (ptr g) C nilp := hs.2.2
  have ht := h.t
  rw [show firstP (A ++ (g, e) :: C) nilp = firstP A (ptr g) from firstP_append _ _ _, show lastP nilp (A ++ (g, e) :: C) = lastP (ptr g) C from lastP_append _ _ _] at ht
  have ND : Hid ((∀ q ∈ A, q.1 ≠ g) ∧ ∀ q ∈ C, q.1 ≠ g) := Lib.hid (by
    have := h.nod
    rw [List.map_append, List.nodup_append, List.map_cons, List.nodup_cons] at this
    exact ⟨fun q hq e => this.2.2 _ (List.mem_map_of_mem (f := fun q : Nat × En => q.1) hq) _ List.mem_cons_self e, fun q hq e => this.2.1.1 (by rw [← e]; exact (mem_adr hq : q.1 ∈ C.map (fun x => x.1)))⟩)
  obtain ⟨R, hR⟩ : ∃ R, CutRet T B room A g e C W = R := ⟨_, rfl⟩
  rw [hR]
  have RR := Lib.hid hR
  clear hR hs h
  obtain ⟨ek, ea, ed⟩ := e
  simp only at zk za
  rcases snoc_cases A with rfl | ⟨A, ⟨j, f⟩, rfl⟩
  · rcases C with _ | ⟨⟨i, h⟩, C⟩
    · rw [show lastP nilp [] = nilp from rfl, show firstP [] nilp = nilp from rfl] at bg
      replace ht : Blk W T 128 #[.int .i64 room, .map (some B), ptr g, ptr g] := ht
      clear SA SC
      go_enter Try.func55, Try.ntmps55
      go_upto_region 3 with (fail)
      refine wp_name ?_
      intro w1 hw1
      have t1 : Blk w1 T 128 #[.int .i64 room, .map (some B), nilp, ptr g] := by rw [hw1]; exact blk_setCell ht 2 nilp
      have g1 : Blk w1 g 132 (ndC ek ea ed nilp nilp) := by rw [hw1]; exact blk_setCell_ne bg (Ne.symm hgT) 2 nilp
      have K1 : KpS (fun k => k = T) W w1 := by
        rw [hw1]; exact (KpS.refl (fun k => k = T) W).cell rfl 2 _
      have HK1 := Lib.hid K1
      clear hw1 K1 ht bg
      go_upto_region 6 with (fail)
      refine wp_name ?_
      intro w2 hw2
      have t2 : Blk w2 T 128 #[.int .i64 room, .map (some B), nilp, nilp] := by rw [hw2]; exact blk_setCell t1 3 nilp
      have g2 : Blk w2 g 132 (ndC ek ea ed nilp nilp) := by rw [hw2]; exact blk_setCell_ne g1 (Ne.symm hgT) 3 nilp
      have K2 : KpS (fun k => k = T) w1 w2 := by
        rw [hw2]; exact (KpS.refl (fun k => k = T) w1).cell rfl 3 _
      have KF : Hid (KpS (Foot T B ([] ++ (g, ⟨ek, ea, ed⟩) :: [])) W w2) := Lib.hid ((HK1.out.mono fun _ _ q => (.inl q)).trans (K2.mono (S' := (Foot T B ([] ++ (g, ⟨ek, ea, ed⟩) :: []))) fun _ _ q => (.inl q)) fun _ _ q => q)
      have HB : w2.heap[B]? = W.heap[B]? := by
        rw [K2.block B (by have := HK1.out.size; have := HT.out.lt B (.inr (.inl rfl)); omega) (Ne.symm nTB)]
        exact HK1.out.block B (HT.out.lt B (.inr (.inl rfl))) (Ne.symm nTB)
      have KEEP : Hid (∀ k, k < W.heap.size → k ≠ T → k ≠ T → w2.heap[k]? = W.heap[k]?) := Lib.hid (fun k hk n1 n2 => by
        rw [K2.block k (by have := HK1.out.size; omega) n2]
        exact HK1.out.block k hk n1)
      have SG : Hid (Seg w2 nilp ([] ++ []) nilp) := Lib.hid (by
        rw [seg_append]
        refine ⟨?_, ?_⟩
        · exact trivial
        · exact trivial)
      have T2 : Hid (Blk w2 T 128 #[.int .i64 room, .map (some B), firstP ([] ++ []) nilp, lastP nilp ([] ++ [])]) := Lib.hid (by
        rw [show firstP ([] ++ []) nilp = nilp from rfl, show lastP nilp ([] ++ []) = nilp from rfl]
        exact t2)
      obtain ⟨w3, f1, f2, f3⟩ := (HT.out.map.keep (w' := w2.drew) HB).drop (fun q hq => (HT.out.ok q hq).k) HT.out.keys 0
      have F2 := Lib.hid (And.intro f2 f3)
      have G2 := Lib.hid g2
      clear hw2 t1 f2 f3 HB g1 K2
      go_region
      have := cut_fin (w2 := w2.drew) (w3 := w3) HT.out ⟨T2.out.out⟩ (seg_keep SG.out fun _ _ => rfl) ⟨G2.out.out⟩ KF.out.drew F2.out.1 F2.out.2
      refine bodyPost_end (results_none rfl _ _ _) rfl ?_
      rw [← RR.out]
      exact ⟨rfl, this⟩
    · have bi : Blk W i 132 (ndE h (ptr g) (firstP C nilp)) := SC.1
      have SC' : Hid (Seg W (ptr i) C nilp) := Lib.hid SC.2
      have hig : i ≠ g := ND.out.2 (i, h) (by simp)
      have hiT : i ≠ T := HT.out.nT (i, h) (by simp)
      have hiB : i ≠ B := HT.out.nB (i, h) (by simp)
      have hhk := key_sz (HT.out.ok (i, h) (by simp)).k
      have hha := at_sz (HT.out.ok (i, h) (by simp)).a
      have HCI : Hid (∀ q ∈ C, q.1 ≠ i) := Lib.hid (by
        have := HT.out.nod
        rw [List.map_append, List.nodup_append, List.map_cons, List.map_cons, List.nodup_cons, List.nodup_cons] at this
        intro q hq e
        exact this.2.1.2.1 (by rw [← e]; exact (mem_adr hq : q.1 ∈ C.map (fun x => x.1))))
      obtain ⟨hk, ha, hd⟩ := h
      simp only at hhk hha
      rw [show lastP nilp [] = nilp from rfl, show firstP ((i, ⟨hk, ha, hd⟩) :: C) nilp = (ptr i) from rfl] at bg
      rw [show lastP (ptr g) ((i, ⟨hk, ha, hd⟩) :: C) = lastP (ptr i) C from rfl] at ht
      generalize hlp : lastP (ptr i) C = lp at *
      generalize hfc : firstP C nilp = fc at *
      have HLP := Lib.hid hlp
      have HFC := Lib.hid hfc
      clear hlp hfc
      replace ht : Blk W T 128 #[.int .i64 room, .map (some B), ptr g, lp] := ht
      clear SA SC
      go_enter Try.func55, Try.ntmps55
      go_upto_region 3 with (fail)
      refine wp_name ?_
      intro w1 hw1
      have t1 : Blk w1 T 128 #[.int .i64 room, .map (some B), (ptr i), lp] := by rw [hw1]; exact blk_setCell ht 2 (ptr i)
      have g1 : Blk w1 g 132 (ndC ek ea ed nilp (ptr i)) := by rw [hw1]; exact blk_setCell_ne bg (Ne.symm hgT) 2 (ptr i)
      have K1 : KpS (fun k => k = T) W w1 := by
        rw [hw1]; exact (KpS.refl (fun k => k = T) W).cell rfl 2 _
      have i1 : Blk w1 i 132 (ndC hk ha hd (ptr g) fc) := by rw [hw1]; exact blk_setCell_ne bi (Ne.symm hiT) 2 (ptr i)
      have HK1 := Lib.hid K1
      clear hw1 K1 ht bg bi
      go_upto_region 5 with (fail)
      go_region
      try go_upto_region 6 with (fail)
      refine wp_name ?_
      intro w2 hw2
      have t2 : Blk w2 T 128 #[.int .i64 room, .map (some B), (ptr i), lp] := by rw [hw2]; exact ⟨(blk_setCell_ne t1 hiT 40 nilp).out⟩
      have i2 : Blk w2 i 132 (ndC hk ha hd nilp fc) := by
        have := blk_setCell i1 40 nilp
        rw [nd_set40] at this
        rw [hw2]; exact ⟨this.out⟩
      have g2 : Blk w2 g 132 (ndC ek ea ed nilp (ptr i)) := by rw [hw2]; exact ⟨(blk_setCell_ne g1 hig 40 nilp).out⟩
      have K2 : KpS (fun k => k = i) w1 w2 := by
        rw [hw2]; exact ((KpS.refl (fun k => k = i) w1).cell rfl 40 _).drew
      have KF : Hid (KpS (Foot T B ([] ++ (g, ⟨ek, ea, ed⟩) :: ((i, (⟨hk, ha, hd⟩ : En)) :: C))) W w2) := Lib.hid ((HK1.out.mono fun _ _ q => (.inl q)).trans (K2.mono (S' := (Foot T B ([] ++ (g, ⟨ek, ea, ed⟩) :: ((i, (⟨hk, ha, hd⟩ : En)) :: C)))) fun _ _ q => (.inr (.inr ⟨(i, ⟨hk, ha, hd⟩), by simp, q.symm⟩))) fun _ _ q => q)
      have HB : w2.heap[B]? = W.heap[B]? := by
        rw [K2.block B (by have := HK1.out.size; have := HT.out.lt B (.inr (.inl rfl)); omega) (Ne.symm hiB)]
        exact HK1.out.block B (HT.out.lt B (.inr (.inl rfl))) (Ne.symm nTB)
      have KEEP : Hid (∀ k, k < W.heap.size → k ≠ T → k ≠ i → w2.heap[k]? = W.heap[k]?) := Lib.hid (fun k hk n1 n2 => by
        rw [K2.block k (by have := HK1.out.size; omega) n2]
        exact HK1.out.block k hk n1)
      have SG : Hid (Seg w2 nilp ([] ++ ((i, (⟨hk, ha, hd⟩ : En)) :: C)) nilp) := Lib.hid (by
        rw [seg_append]
        refine ⟨?_, ?_⟩
        · exact trivial
        · exact ⟨by rw [show lastP nilp [] = nilp from rfl, HFC.out]; exact i2, seg_keep SC'.out fun q hq => KEEP.out q.1 (seg_lt SC'.out q hq) (HT.out.nT q (by simp [hq])) (HCI.out q hq)⟩)
      have T2 : Hid (Blk w2 T 128 #[.int .i64 room, .map (some B), firstP ([] ++ ((i, (⟨hk, ha, hd⟩ : En)) :: C)) nilp, lastP nilp ([] ++ ((i, (⟨hk, ha, hd⟩ : En)) :: C))]) := Lib.hid (by
        rw [show firstP ([] ++ ((i, (⟨hk, ha, hd⟩ : En)) :: C)) nilp = (ptr i) from rfl, show lastP nilp ([] ++ ((i, (⟨hk, ha, hd⟩ : En)) :: C)) = lp from HLP.out]
        exact t2)
      obtain ⟨w3, f1, f2, f3⟩ := (HT.out.map.keep (w' := w2.drew) HB).drop (fun q hq => (HT.out.ok q hq).k) HT.out.keys 0
      have F2 := Lib.hid (And.intro f2 f3)
      have G2 := Lib.hid g2
      clear hw2 t1 f2 f3 HB g1 K2
      go_region
      have := cut_fin (w2 := w2.drew) (w3 := w3) HT.out ⟨T2.out.out⟩ (seg_keep SG.out fun _ _ => rfl) ⟨G2.out.out⟩ KF.out.drew F2.out.1 F2.out.2
      refine bodyPost_end (results_none rfl _ _ _) rfl ?_
      rw [← RR.out]
      exact ⟨rfl, this⟩
  · rcases C with _ | ⟨⟨i, h⟩, C⟩
    · have HSJ := (seg_append _ _ _ _).1 SA
      have SA' : Hid (Seg W nilp A (ptr j)) := Lib.hid HSJ.1
      have bj : Blk W j 132 (ndE f (lastP nilp A) (ptr g)) := HSJ.2.1
      have hjg : j ≠ g := ND.out.1 (j, f) (by simp)
      have hjT : j ≠ T := HT.out.nT (j, f) (by simp)
      have hjB : j ≠ B := HT.out.nB (j, f) (by simp)
      have hfk := key_sz (HT.out.ok (j, f) (by simp)).k
      have hfa := at_sz (HT.out.ok (j, f) (by simp)).a
      have HAJ : Hid (∀ q ∈ A, q.1 ≠ j) := Lib.hid (by
        have := HT.out.nod
        rw [List.map_append, List.map_append, List.nodup_append, List.nodup_append] at this
        intro q hq e
        exact this.1.2.2 _ (List.mem_map_of_mem (f := fun q : Nat × En => q.1) hq) _ (List.mem_singleton.2 rfl) e)
      obtain ⟨fk, fa, fd⟩ := f
      simp only at hfk hfa
      clear HSJ
      rw [show lastP nilp (A ++ [(j, ⟨fk, fa, fd⟩)]) = (ptr j) from lastP_snoc _ _ _ _, show firstP [] nilp = nilp from rfl] at bg
      rw [firstP_snoc] at ht
      generalize hfp : firstP A (ptr j) = fp at *
      generalize hlq : lastP nilp A = lq at *
      have HFP := Lib.hid hfp
      have HLQ := Lib.hid hlq
      clear hfp hlq
      replace ht : Blk W T 128 #[.int .i64 room, .map (some B), fp, ptr g] := ht
      clear SA SC
      go_enter Try.func55, Try.ntmps55
      go_upto_region 2 with (fail)
      go_region
      try go_upto_region 3 with (fail)
      refine wp_name ?_
      intro w1 hw1
      have t1 : Blk w1 T 128 #[.int .i64 room, .map (some B), fp, ptr g] := by rw [hw1]; exact ⟨(blk_setCell_ne ht hjT 41 nilp).out⟩
      have j1 : Blk w1 j 132 (ndC fk fa fd lq nilp) := by
        have := blk_setCell bj 41 nilp
        rw [nd_set41] at this
        rw [hw1]; exact ⟨this.out⟩
      have g1 : Blk w1 g 132 (ndC ek ea ed (ptr j) nilp) := by rw [hw1]; exact ⟨(blk_setCell_ne bg hjg 41 nilp).out⟩
      have K1 : KpS (fun k => k = j) W w1 := by
        rw [hw1]; exact ((KpS.refl (fun k => k = j) W).cell rfl 41 _).drew
      have HK1 := Lib.hid K1
      clear hw1 K1 ht bg bj
      go_upto_region 6 with (fail)
      refine wp_name ?_
      intro w2 hw2
      have t2 : Blk w2 T 128 #[.int .i64 room, .map (some B), fp, (ptr j)] := by rw [hw2]; exact blk_setCell t1 3 (ptr j)
      have g2 : Blk w2 g 132 (ndC ek ea ed (ptr j) nilp) := by rw [hw2]; exact blk_setCell_ne g1 (Ne.symm hgT) 3 (ptr j)
      have K2 : KpS (fun k => k = T) w1 w2 := by
        rw [hw2]; exact (KpS.refl (fun k => k = T) w1).cell rfl 3 _
      have j2 : Blk w2 j 132 (ndC fk fa fd lq nilp) := by rw [hw2]; exact blk_setCell_ne j1 (Ne.symm hjT) 3 (ptr j)
      have KF : Hid (KpS (Foot T B ((A ++ [(j, (⟨fk, fa, fd⟩ : En))]) ++ (g, ⟨ek, ea, ed⟩) :: [])) W w2) := Lib.hid ((HK1.out.mono fun _ _ q => (.inr (.inr ⟨(j, ⟨fk, fa, fd⟩), by simp, q.symm⟩))).trans (K2.mono (S' := (Foot T B ((A ++ [(j, (⟨fk, fa, fd⟩ : En))]) ++ (g, ⟨ek, ea, ed⟩) :: []))) fun _ _ q => (.inl q)) fun _ _ q => q)
      have HB : w2.heap[B]? = W.heap[B]? := by
        rw [K2.block B (by have := HK1.out.size; have := HT.out.lt B (.inr (.inl rfl)); omega) (Ne.symm nTB)]
        exact HK1.out.block B (HT.out.lt B (.inr (.inl rfl))) (Ne.symm hjB)
      have KEEP : Hid (∀ k, k < W.heap.size → k ≠ j → k ≠ T → w2.heap[k]? = W.heap[k]?) := Lib.hid (fun k hk n1 n2 => by
        rw [K2.block k (by have := HK1.out.size; omega) n2]
        exact HK1.out.block k hk n1)
      have SG : Hid (Seg w2 nilp ((A ++ [(j, (⟨fk, fa, fd⟩ : En))]) ++ []) nilp) := Lib.hid (by
        rw [seg_append]
        refine ⟨?_, ?_⟩
        · exact (by rw [seg_append, HLQ.out]; exact ⟨seg_keep SA'.out fun q hq => KEEP.out q.1 (seg_lt SA'.out q hq) (HAJ.out q hq) (HT.out.nT q (by simp [hq])), j2, trivial⟩)
        · exact trivial)
      have T2 : Hid (Blk w2 T 128 #[.int .i64 room, .map (some B), firstP ((A ++ [(j, (⟨fk, fa, fd⟩ : En))]) ++ []) nilp, lastP nilp ((A ++ [(j, (⟨fk, fa, fd⟩ : En))]) ++ [])]) := Lib.hid (by
        rw [show firstP ((A ++ [(j, (⟨fk, fa, fd⟩ : En))]) ++ []) nilp = fp from by rw [firstP_append, firstP_snoc]; exact HFP.out, show lastP nilp ((A ++ [(j, (⟨fk, fa, fd⟩ : En))]) ++ []) = (ptr j) from by rw [lastP_append, lastP_snoc]; rfl]
        exact t2)
      obtain ⟨w3, f1, f2, f3⟩ := (HT.out.map.keep (w' := w2.drew) HB).drop (fun q hq => (HT.out.ok q hq).k) HT.out.keys 0
      have F2 := Lib.hid (And.intro f2 f3)
      have G2 := Lib.hid g2
      clear hw2 t1 f2 f3 HB g1 K2
      go_region
      have := cut_fin (w2 := w2.drew) (w3 := w3) HT.out ⟨T2.out.out⟩ (seg_keep SG.out fun _ _ => rfl) ⟨G2.out.out⟩ KF.out.drew F2.out.1 F2.out.2
      refine bodyPost_end (results_none rfl _ _ _) rfl ?_
      rw [← RR.out]
      exact ⟨rfl, this⟩
    · have HSJ := (seg_append _ _ _ _).1 SA
      have SA' : Hid (Seg W nilp A (ptr j)) := Lib.hid HSJ.1
      have bj : Blk W j 132 (ndE f (lastP nilp A) (ptr g)) := HSJ.2.1
      have hjg : j ≠ g := ND.out.1 (j, f) (by simp)
      have hjT : j ≠ T := HT.out.nT (j, f) (by simp)
      have hjB : j ≠ B := HT.out.nB (j, f) (by simp)
      have hfk := key_sz (HT.out.ok (j, f) (by simp)).k
      have hfa := at_sz (HT.out.ok (j, f) (by simp)).a
      have HAJ : Hid (∀ q ∈ A, q.1 ≠ j) := Lib.hid (by
        have := HT.out.nod
        rw [List.map_append, List.map_append, List.nodup_append, List.nodup_append] at this
        intro q hq e
        exact this.1.2.2 _ (List.mem_map_of_mem (f := fun q : Nat × En => q.1) hq) _ (List.mem_singleton.2 rfl) e)
      obtain ⟨fk, fa, fd⟩ := f
      simp only at hfk hfa
      clear HSJ
      have bi : Blk W i 132 (ndE h (ptr g) (firstP C nilp)) := SC.1
      have SC' : Hid (Seg W (ptr i) C nilp) := Lib.hid SC.2
      have hig : i ≠ g := ND.out.2 (i, h) (by simp)
      have hiT : i ≠ T := HT.out.nT (i, h) (by simp)
      have hiB : i ≠ B := HT.out.nB (i, h) (by simp)
      have hhk := key_sz (HT.out.ok (i, h) (by simp)).k
      have hha := at_sz (HT.out.ok (i, h) (by simp)).a
      have HCI : Hid (∀ q ∈ C, q.1 ≠ i) := Lib.hid (by
        have := HT.out.nod
        rw [List.map_append, List.nodup_append, List.map_cons, List.map_cons, List.nodup_cons, List.nodup_cons] at this
        intro q hq e
        exact this.2.1.2.1 (by rw [← e]; exact (mem_adr hq : q.1 ∈ C.map (fun x => x.1))))
      obtain ⟨hk, ha, hd⟩ := h
      simp only at hhk hha
      have hij : i ≠ j := by
        have := HT.out.nod
        rw [List.map_append, List.nodup_append] at this
        intro e
        exact this.2.2 j (by simp) i (by simp) e.symm
      have HAI : Hid (∀ q ∈ A, q.1 ≠ i) := Lib.hid (by
        have := HT.out.nod
        rw [List.map_append, List.nodup_append] at this
        intro q hq e
        exact this.2.2 q.1 (List.mem_map_of_mem (f := fun q : Nat × En => q.1) (List.mem_append_left _ hq)) i (by simp) e)
      have HCJ : Hid (∀ q ∈ C, q.1 ≠ j) := Lib.hid (by
        have := HT.out.nod
        rw [List.map_append, List.nodup_append] at this
        intro q hq e
        exact this.2.2 j (by simp) q.1 (List.mem_map_of_mem (f := fun q : Nat × En => q.1) (List.mem_cons_of_mem _ (List.mem_cons_of_mem _ hq))) e.symm)
      rw [show lastP nilp (A ++ [(j, ⟨fk, fa, fd⟩)]) = (ptr j) from lastP_snoc _ _ _ _, show firstP ((i, ⟨hk, ha, hd⟩) :: C) nilp = (ptr i) from rfl] at bg
      rw [firstP_snoc] at ht
      generalize hfp : firstP A (ptr j) = fp at *
      generalize hlq : lastP nilp A = lq at *
      have HFP := Lib.hid hfp
      have HLQ := Lib.hid hlq
      clear hfp hlq
      rw [show lastP (ptr g) ((i, ⟨hk, ha, hd⟩) :: C) = lastP (ptr i) C from rfl] at ht
      generalize hlp : lastP (ptr i) C = lp at *
      generalize hfc : firstP C nilp = fc at *
      have HLP := Lib.hid hlp
      have HFC := Lib.hid hfc
      clear hlp hfc
      replace ht : Blk W T 128 #[.int .i64 room, .map (some B), fp, lp] := ht
      clear SA SC
      go_enter Try.func55, Try.ntmps55
      go_upto_region 2 with (fail)
      go_region
      try go_upto_region 3 with (fail)
      refine wp_name ?_
      intro w1 hw1
      have t1 : Blk w1 T 128 #[.int .i64 room, .map (some B), fp, lp] := by rw [hw1]; exact ⟨(blk_setCell_ne ht hjT 41 (ptr i)).out⟩
      have j1 : Blk w1 j 132 (ndC fk fa fd lq (ptr i)) := by
        have := blk_setCell bj 41 (ptr i)
        rw [nd_set41] at this
        rw [hw1]; exact ⟨this.out⟩
      have g1 : Blk w1 g 132 (ndC ek ea ed (ptr j) (ptr i)) := by rw [hw1]; exact ⟨(blk_setCell_ne bg hjg 41 (ptr i)).out⟩
      have K1 : KpS (fun k => k = j) W w1 := by
        rw [hw1]; exact ((KpS.refl (fun k => k = j) W).cell rfl 41 _).drew
      have i1 : Blk w1 i 132 (ndC hk ha hd (ptr g) fc) := by rw [hw1]; exact ⟨(blk_setCell_ne bi (Ne.symm hij) 41 (ptr i)).out⟩
      have HK1 := Lib.hid K1
      clear hw1 K1 ht bg bj bi
      go_upto_region 5 with (fail)
      go_region
      try go_upto_region 6 with (fail)
      refine wp_name ?_
      intro w2 hw2
      have t2 : Blk w2 T 128 #[.int .i64 room, .map (some B), fp, lp] := by rw [hw2]; exact ⟨(blk_setCell_ne t1 hiT 40 (ptr j)).out⟩
      have i2 : Blk w2 i 132 (ndC hk ha hd (ptr j) fc) := by
        have := blk_setCell i1 40 (ptr j)
        rw [nd_set40] at this
        rw [hw2]; exact ⟨this.out⟩
      have g2 : Blk w2 g 132 (ndC ek ea ed (ptr j) (ptr i)) := by rw [hw2]; exact ⟨(blk_setCell_ne g1 hig 40 (ptr j)).out⟩
      have K2 : KpS (fun k => k = i) w1 w2 := by
        rw [hw2]; exact ((KpS.refl (fun k => k = i) w1).cell rfl 40 _).drew
      have j2 : Blk w2 j 132 (ndC fk fa fd lq (ptr i)) := by rw [hw2]; exact ⟨(blk_setCell_ne j1 hij 40 (ptr j)).out⟩
      have KF : Hid (KpS (Foot T B ((A ++ [(j, (⟨fk, fa, fd⟩ : En))]) ++ (g, ⟨ek, ea, ed⟩) :: ((i, (⟨hk, ha, hd⟩ : En)) :: C))) W w2) := Lib.hid ((HK1.out.mono fun _ _ q => (.inr (.inr ⟨(j, ⟨fk, fa, fd⟩), by simp, q.symm⟩))).trans (K2.mono (S' := (Foot T B ((A ++ [(j, (⟨fk, fa, fd⟩ : En))]) ++ (g, ⟨ek, ea, ed⟩) :: ((i, (⟨hk, ha, hd⟩ : En)) :: C)))) fun _ _ q => (.inr (.inr ⟨(i, ⟨hk, ha, hd⟩), by simp, q.symm⟩))) fun _ _ q => q)
      have HB : w2.heap[B]? = W.heap[B]? := by
        rw [K2.block B (by have := HK1.out.size; have := HT.out.lt B (.inr (.inl rfl)); omega) (Ne.symm hiB)]
        exact HK1.out.block B (HT.out.lt B (.inr (.inl rfl))) (Ne.symm hjB)
      have KEEP : Hid (∀ k, k < W.heap.size → k ≠ j → k ≠ i → w2.heap[k]? = W.heap[k]?) := Lib.hid (fun k hk n1 n2 => by
        rw [K2.block k (by have := HK1.out.size; omega) n2]
        exact HK1.out.block k hk n1)
      have SG : Hid (Seg w2 nilp ((A ++ [(j, (⟨fk, fa, fd⟩ : En))]) ++ ((i, (⟨hk, ha, hd⟩ : En)) :: C)) nilp) := Lib.hid (by
        rw [seg_append]
        refine ⟨?_, ?_⟩
        · exact (by rw [seg_append, HLQ.out]; exact ⟨seg_keep SA'.out fun q hq => KEEP.out q.1 (seg_lt SA'.out q hq) (HAJ.out q hq) (HAI.out q hq), j2, trivial⟩)
        · exact ⟨by rw [show lastP nilp (A ++ [(j, (⟨fk, fa, fd⟩ : En))]) = (ptr j) from lastP_snoc _ _ _ _, HFC.out]; exact i2, seg_keep SC'.out fun q hq => KEEP.out q.1 (seg_lt SC'.out q hq) (HCJ.out q hq) (HCI.out q hq)⟩)
      have T2 : Hid (Blk w2 T 128 #[.int .i64 room, .map (some B), firstP ((A ++ [(j, (⟨fk, fa, fd⟩ : En))]) ++ ((i, (⟨hk, ha, hd⟩ : En)) :: C)) nilp, lastP nilp ((A ++ [(j, (⟨fk, fa, fd⟩ : En))]) ++ ((i, (⟨hk, ha, hd⟩ : En)) :: C))]) := Lib.hid (by
        rw [show firstP ((A ++ [(j, (⟨fk, fa, fd⟩ : En))]) ++ ((i, (⟨hk, ha, hd⟩ : En)) :: C)) nilp = fp from by rw [firstP_append, firstP_snoc]; exact HFP.out, show lastP nilp ((A ++ [(j, (⟨fk, fa, fd⟩ : En))]) ++ ((i, (⟨hk, ha, hd⟩ : En)) :: C)) = lp from by rw [lastP_append, lastP_snoc]; exact HLP.out]
        exact t2)
      obtain ⟨w3, f1, f2, f3⟩ := (HT.out.map.keep (w' := w2.drew) HB).drop (fun q hq => (HT.out.ok q hq).k) HT.out.keys 0
      have F2 := Lib.hid (And.intro f2 f3)
      have G2 := Lib.hid g2
      clear hw2 t1 f2 f3 HB g1 K2
      go_region
      have := cut_fin (w2 := w2.drew) (w3 := w3) HT.out ⟨T2.out.out⟩ (seg_keep SG.out fun _ _ => rfl) ⟨G2.out.out⟩ KF.out.drew F2.out.1 F2.out.2
      refine bodyPost_end (results_none rfl _ _ _) rfl ?_
      rw [← RR.out]
      exact ⟨rfl, this⟩
end Go.Proofs.Ytcflebggepmmcaa
/- pend.New, Len, Find, Answer: walks (printed by gen/genpendd.py). -/
namespace Go.Proofs.Ytcflebggepmmcaa
open Go.RowKit Go.Maps

abbrev wdz : Array Value := #[.int .i64 0, .int .u64 0]
abbrev key0 : Array Value := #[.bool false, .int .u8 0, .int .u8 0, .int .u8 0, .int .u8 0, .int .u8 0, .int .u8 0, .int .u8 0, .int .u8 0, .int .u8 0, .int .u8 0, .int .u8 0, .int .u8 0, .int .u8 0, .int .u8 0, .int .u8 0, .int .u8 0, .int .u16 0, .bool false, .int .u8 0, .int .u8 0, .int .u8 0, .int .u8 0, .int .u8 0, .int .u8 0, .int .u8 0, .int .u8 0, .int .u8 0, .int .u8 0, .int .u8 0, .int .u8 0, .int .u8 0, .int .u8 0, .int .u8 0, .int .u8 0, .int .u16 0, .int .u64 0]
set_option maxRecDepth 20000 in
instance : SzA wdz 2 := ⟨rfl⟩
set_option maxRecDepth 20000 in
instance : SzA key0 37 := ⟨rfl⟩
set_option maxRecDepth 20000 in
instance : OneA wdz := ⟨by kernel_rfl⟩
set_option maxRecDepth 20000 in
instance : OneA key0 := ⟨by kernel_rfl⟩
set_option maxRecDepth 20000 in
instance en_sz (k a : Array Value) (d : Bool) [hk : SzA k 37] [ha : SzA a 2] : SzA (enC k a d) 40 := ⟨en_size⟩
set_option maxRecDepth 20000 in
instance en_one (k a : Array Value) (d : Bool) [hk : OneA k] [ha : OneA a] : OneA (enC k a d) := by
  unfold enC
  have : OneA #[Value.bool d] := ⟨by rw [Array.all_eq_true_iff_forall_mem]; intro v hv; simp at hv; subst hv; rfl⟩
  infer_instance
set_option maxRecDepth 20000 in
/-- the zero entry, as alloc lays it -/
theorem blk_en0 {w : World} {g : Nat} (h : Blk w g 88 (key0 ++ wdz ++ #[.bool false])) : Blk w g 88 (enC key0 wdz false) := h
set_option maxRecDepth 20000 in
theorem mo_drew {a b : World} (h : Mo a b) : Mo a b.drew := h.trans (Mor.out : Mo b b.drew)
set_option maxRecDepth 20000 in
theorem loadF_entry (v : Value) : Instr.loadAt 88 v = loadF 88 v := rfl
set_option maxRecDepth 20000 in
theorem storeF_entry (v x : Value) : Instr.storeAt 88 v x = storeF 88 v x := rfl
set_option maxRecDepth 20000 in
theorem buildF_entry (l : Array (Nat × Value)) : Instr.build 88 l = buildF 88 l := rfl
set_option maxRecDepth 20000 in
theorem arr37 {cs : Array Value} (h : cs.size = 37) : ∃ x0 x1 x2 x3 x4 x5 x6 x7 x8 x9 x10 x11 x12 x13 x14 x15 x16 x17 x18 x19 x20 x21 x22 x23 x24 x25 x26 x27 x28 x29 x30 x31 x32 x33 x34 x35 x36, cs = #[x0, x1, x2, x3, x4, x5, x6, x7, x8, x9, x10, x11, x12, x13, x14, x15, x16, x17, x18, x19, x20, x21, x22, x23, x24, x25, x26, x27, x28, x29, x30, x31, x32, x33, x34, x35, x36] := by
  obtain ⟨l⟩ := cs
  match l, h with
  | x0 :: x1 :: x2 :: x3 :: x4 :: x5 :: x6 :: x7 :: x8 :: x9 :: x10 :: x11 :: x12 :: x13 :: x14 :: x15 :: x16 :: x17 :: x18 :: x19 :: x20 :: x21 :: x22 :: x23 :: x24 :: x25 :: x26 :: x27 :: x28 :: x29 :: x30 :: x31 :: x32 :: x33 :: x34 :: x35 :: x36 :: [], _ => exact ⟨_, _, _, _, _, _, _, _, _, _, _, _, _, _, _, _, _, _, _, _, _, _, _, _, _, _, _, _, _, _, _, _, _, _, _, _, _, rfl⟩
set_option maxRecDepth 20000 in
theorem run_build_entry0 (w : World) : (buildF 88 #[]).run Try.prog w = .ok (.agg (enC key0 wdz false)) w := run_build w _ _ _ (by kernel_rfl)
set_option maxRecDepth 20000 in
theorem run_build_entryk (k : Array Value) [hk : SzA k 37] (w : World) : (buildF 88 #[(0, .agg k)]).run Try.prog w = .ok (.agg (enC k wdz false)) w := by
  obtain ⟨x0, x1, x2, x3, x4, x5, x6, x7, x8, x9, x10, x11, x12, x13, x14, x15, x16, x17, x18, x19, x20, x21, x22, x23, x24, x25, x26, x27, x28, x29, x30, x31, x32, x33, x34, x35, x36, rfl⟩ := arr37 hk.out
  exact run_build w _ _ _ (by kernel_rfl)
set_option maxRecDepth 20000 in
theorem ret_cell2 {fn : Func} {p u : Tmp} {T : TypeId} {R : Ending → World → Prop} {a : Act} {w : World} (hr : fn.results = #[.cell p T, .tmp u]) (g : Nat) (cs : Array Value) (hp : a.tmps.getD p undef = .pointer (some ⟨g, 0, none⟩)) (hd : a.defers = []) {n : Nat} [h : RowT T n] [z : SzA cs n] (b : Blk w g T cs)
    (hR : R (.returned (.tuple #[.agg cs, a.tmps.getD u undef])) w) : bodyPost Try.prog fn R .ret a w := ret_cell_tmp hr g _ hp hd (loadVar_flat T b z.out) hR
attribute [local go_sem] run_neq_mapN
attribute [local go_sem] blk_cell' blk_frozen' nd_old nd_new nd_ans nd_key nd_en
attribute [local go_sem ↓] loadF_key loadF_entry storeF_entry buildF_entry
attribute [local go_sem] run_loadFo run_loadFz run_loadF0 run_storeF0 run_build_entry0 run_build_entryk
def NewRet (k : Int) (W : World) (e : Ending) (w' : World) : Prop :=
  Mo W w' ∧ ((1 ≤ k ∧ k ≤ 65536 ∧ ∃ T B, e = .returned (.tuple #[ptr T, .int .i64 0]) ∧ TabAt w' T B k [] ∧ W.heap.size ≤ T ∧ W.heap.size ≤ B) ∨ (¬ (1 ≤ k ∧ k ≤ 65536) ∧ e = .returned (.tuple #[nilp, .int .i64 2])))
set_option maxRecDepth 20000 in
set_option maxHeartbeats 4000000 in
theorem new_any (k : Int) (W : World) : Calls Try.prog 27 #[.int .i64 k] W (NewRet k W) := by
  have mk : ∀ w : World, (Instr.makeMap 125 none).run Try.prog w = .ok (.map (some w.heap.size)) (w.alloc (.map #[] 0)) := run_makeMap _
  have hb : ∀ (w : World) (x : Int) (b : Nat), (Instr.build 128 #[(0, .int .i64 x), (1, .map (some b))]).run Try.prog w = .ok (.agg #[.int .i64 x, .map (some b), .pointer none, .pointer none]) w := fun w x b => run_build w _ _ _ (by kernel_rfl)
  by_cases c1 : k < 1
  · have d1 : decide (k < 1) = true := decide_eq_true c1
    go_enter Try.func27, Try.ntmps27
    go_wp2_with fail
    go_ret2
    exact ⟨Mor.out, .inr ⟨by omega, rfl⟩⟩
  · have d1 : decide (k < 1) = false := decide_eq_false c1
    by_cases c2 : 65536 < k
    · have d2 : decide (65536 < k) = true := decide_eq_true c2
      go_enter Try.func27, Try.ntmps27
      go_wp2_with fail
      go_ret2
      exact ⟨Mor.out, .inr ⟨by omega, rfl⟩⟩
    · have d2 : decide (65536 < k) = false := decide_eq_false c2
      go_enter Try.func27, Try.ntmps27
      go_wp2_with fail
      go_ret2
      refine ⟨Mo.trans (Mo.of ((Below.refl _ _).alloc (Nat.le_refl _) _) : Mo W (W.alloc (.map #[] 0))) Mor.out, .inl ⟨by omega, by omega, W.heap.size + 1, W.heap.size, ?_, ?_, by omega, by omega⟩⟩
      · simp [ptr]
      · exact ⟨⟨by rw [show W.heap.size + 1 = (W.alloc (.map #[] 0)).heap.size by simp]; exact (inferInstance : Blk ((W.alloc (.map #[] 0)).alloc (.cells #[.int .i64 k, .map (some W.heap.size), nilp, nilp] 128)) _ _ _).out⟩, trivial, by simp, fun q hq => (by cases hq), (MapIs.made W).keep (by rw [Below.heap_alloc]; simp), by simp, fun q hq => (by cases hq)⟩
set_option maxRecDepth 20000 in
set_option maxHeartbeats 4000000 in
theorem len_any (T B : Nat) (room : Int) (L : List (Nat × En)) (W : World) (h : TabAt W T B room L) :
    Calls Try.prog 44 #[ptr T] W fun e w' => e = .returned (.int .i64 L.length) ∧ Mo W w' := by
  have ht := h.t
  have HM := Lib.hid h.map
  clear h
  generalize firstP L nilp = fp at *
  generalize lastP nilp L = lp at *
  go_enter Try.func44, Try.ntmps44
  go_wp2_with fail
  refine (right_any T B room fp lp _).mono ?_
  rintro e w1 ⟨rfl, M1⟩
  have t1 : Blk w1 T 128 #[.int .i64 room, .map (some B), fp, lp] := M1.blk ht
  have hl := (HM.out.keep (w' := w1) (M1.below.block B (by obtain ⟨_, _, hb⟩ := HM.out.isMap; exact (Array.getElem?_eq_some_iff.1 hb).1))).len 3
  go_wp2_with fail
  go_ret
  exact ⟨rfl, M1⟩
/-- what Find answers -/
def FindRet (L : List (Nat × En)) (k : Array Value) (W : World) (e : Ending) (w' : World) : Prop :=
  Mo W w' ∧ ((∃ q ∈ L, q.2.k = k ∧ e = .returned (.tuple #[.agg (enC q.2.k q.2.a q.2.d), .bool true])) ∨ ((∀ q ∈ L, q.2.k ≠ k) ∧ e = .returned (.tuple #[.agg (enC key0 wdz false), .bool false])))
/-- what Answer answers -/
noncomputable def AnsL (L : List (Nat × En)) (k : Array Value) : List (Nat × En) := L.map fun q => if eqA q.2.k k then (q.1, ⟨q.2.k, q.2.a, true⟩) else q
def AnswerRet (T B : Nat) (room : Int) (L : List (Nat × En)) (k : Array Value) (W : World) (e : Ending) (w' : World) : Prop :=
  TabAt w' T B room (AnsL L k) ∧ KpS (Foot T B L) W w' ∧ ((∃ q ∈ L, q.2.k = k ∧ e = .returned (.tuple #[.agg (enC q.2.k q.2.a q.2.d), .int .u8 (if q.2.d then 6 else 4)])) ∨ ((∀ q ∈ L, q.2.k ≠ k) ∧ e = .returned (.tuple #[.agg (enC k wdz false), .int .u8 7])))
set_option maxRecDepth 20000 in
theorem ansL_none {L : List (Nat × En)} {k : Array Value} (h : ∀ q ∈ L, q.2.k ≠ k) : AnsL L k = L := by
  unfold AnsL
  conv => rhs; rw [← List.map_id L]
  refine List.map_congr_left fun q hq => ?_
  rw [if_neg]
  · rfl
  · intro e; exact h q hq (eqA_iff.1 e)
set_option maxRecDepth 20000 in
theorem ansL_split {A C : List (Nat × En)} {g : Nat} {e : En} (nd : ((A ++ (g, e) :: C).map (·.2.k)).Nodup) : AnsL (A ++ (g, e) :: C) e.k = A ++ (g, ⟨e.k, e.a, true⟩) :: C := by
  rw [List.map_append, List.map_cons, List.nodup_append, List.nodup_cons] at nd
  have h1 : AnsL A e.k = A := ansL_none fun q hq c => nd.2.2 _ (List.mem_map_of_mem hq) _ List.mem_cons_self c
  have h2 : AnsL C e.k = C := ansL_none fun q hq c => nd.2.1.1 (by rw [← c]; exact List.mem_map.2 ⟨q, hq, rfl⟩)
  have h3 : AnsL (A ++ (g, e) :: C) e.k = AnsL A e.k ++ (if eqA e.k e.k then (g, ⟨e.k, e.a, true⟩) else (g, e)) :: AnsL C e.k := by
    unfold AnsL; rw [List.map_append, List.map_cons]
  rw [h3, h1, h2, if_pos (eqA_self _)]
set_option maxRecDepth 20000 in
theorem seg_set {W : World} : ∀ {A C : List (Nat × En)} {p n : Value} {g : Nat} {e e' : En} {o x : Value} {w' : World}, Seg W p (A ++ (g, e) :: C) n → Blk W g 132 (ndE e o x) → Blk w' g 132 (ndE e' o x) → SzA e.k 37 → SzA e.a 2 → (∀ q ∈ A ++ C, w'.heap[q.1]? = W.heap[q.1]?) → Seg w' p (A ++ (g, e') :: C) n := by
  intro A C p n g e e' o x w' h b b' z1 z2 k
  rw [seg_append] at h ⊢
  obtain ⟨h1, h2, h3⟩ := h
  have h1' : firstP ((g, e) :: C) n = firstP ((g, e') :: C) n := rfl
  rw [h1'] at h1
  refine ⟨seg_keep h1 fun q hq => k q (List.mem_append_left _ hq), ?_, seg_keep h3 fun q hq => k q (List.mem_append_right _ hq)⟩
  have e1 := h2.out.symm.trans b.out
  have e2 : ndE e (lastP p A) (firstP C n) = ndE e o x := by
    injection e1 with e1
    injection e1
  have f1 := congrArg (fun a => a[40]?) e2
  have f2 := congrArg (fun a => a[41]?) e2
  simp only [ndE, nd_old, nd_new, Option.some.injEq] at f1 f2
  rw [f1, f2]
  exact b'
set_option maxRecDepth 20000 in
theorem tab_set {W w' : World} {T B : Nat} {room : Int} {A C : List (Nat × En)} {g : Nat} {e : En} {o x : Value} {d : Bool} (h : TabAt W T B room (A ++ (g, e) :: C)) (b : Blk W g 132 (ndE e o x)) (b' : Blk w' g 132 (ndC e.k e.a d o x)) (k : KpS (fun k => k = g) W w') :
    TabAt w' T B room (A ++ (g, ⟨e.k, e.a, d⟩) :: C) := by
  have hm : (g, e) ∈ A ++ (g, e) :: C := by simp
  have z1 := key_sz (h.ok _ hm).k
  have z2 := at_sz (h.ok _ hm).a
  have hgT := h.nT _ hm
  have hgB := h.nB _ hm
  have nd := h.nod
  rw [List.map_append, List.map_cons, List.nodup_append, List.nodup_cons] at nd
  refine ⟨?_, ?_, ?_, ?_, ?_, ?_, ?_⟩
  · have := h.t
    rw [firstP_append, lastP_append] at this ⊢
    exact ⟨(k.block T h.t.lt (Ne.symm hgT)).trans this.out⟩
  · refine seg_set (e' := ⟨e.k, e.a, d⟩) h.seg b b' z1 z2 fun q hq => ?_
    have hq' : q ∈ A ++ (g, e) :: C := by
      rcases List.mem_append.1 hq with k | k
      · exact List.mem_append_left _ k
      · exact List.mem_append_right _ (List.mem_cons_of_mem _ k)
    refine k.block _ (seg_lt h.seg q hq') ?_
    rcases List.mem_append.1 hq with k | k
    · exact fun c => nd.2.2 _ (List.mem_map_of_mem k) _ List.mem_cons_self c
    · exact fun c => nd.2.1.1 (by rw [show (g, e).1 = q.1 from c.symm]; exact List.mem_map.2 ⟨q, k, rfl⟩)
  · have := h.nod; simpa using this
  · intro q hq
    rcases List.mem_append.1 hq with k | k
    · exact h.nT q (List.mem_append_left _ k)
    · rcases List.mem_cons.1 k with rfl | k
      · exact hgT
      · exact h.nT q (List.mem_append_right _ (List.mem_cons_of_mem _ k))
  · have hm2 := h.map.keep (k.block B (h.lt B (.inr (.inl rfl))) (Ne.symm hgB))
    obtain ⟨D, h1, h2, h3, h4, h5⟩ := hm2
    refine ⟨D, by simpa using h1, h2, by simpa using h3, fun q hq => ?_, fun kl => ?_⟩
    · rcases List.mem_append.1 hq with k | k
      · exact h4 q (List.mem_append_left _ k)
      · rcases List.mem_cons.1 k with rfl | k
        · exact h4 (g, e) hm
        · exact h4 q (List.mem_append_right _ (List.mem_cons_of_mem _ k))
    · rw [h5 kl]
      constructor
      · rintro ⟨q, hq, e1⟩
        rcases List.mem_append.1 hq with k | k
        · exact ⟨q, List.mem_append_left _ k, e1⟩
        · rcases List.mem_cons.1 k with rfl | k
          · exact ⟨(g, ⟨e.k, e.a, d⟩), by simp, e1⟩
          · exact ⟨q, List.mem_append_right _ (List.mem_cons_of_mem _ k), e1⟩
      · rintro ⟨q, hq, e1⟩
        rcases List.mem_append.1 hq with k | k
        · exact ⟨q, List.mem_append_left _ k, e1⟩
        · rcases List.mem_cons.1 k with rfl | k
          · exact ⟨(g, e), by simp, e1⟩
          · exact ⟨q, List.mem_append_right _ (List.mem_cons_of_mem _ k), e1⟩
  · have := h.keys; simpa using this
  · intro q hq
    rcases List.mem_append.1 hq with k | k
    · exact h.ok q (List.mem_append_left _ k)
    · rcases List.mem_cons.1 k with rfl | k
      · exact ⟨(h.ok _ hm).k, (h.ok _ hm).a⟩
      · exact h.ok q (List.mem_append_right _ (List.mem_cons_of_mem _ k))
set_option maxRecDepth 20000 in
set_option maxHeartbeats 8000000 in
theorem answer_any (T B : Nat) (room : Int) (L : List (Nat × En)) (k : Array Value) (W : World) (h : TabAt W T B room L) (hk : KeyP k) :
    Calls Try.prog 29 #[ptr T, .agg k] W (AnswerRet T B room L k W) := by
  obtain ⟨R, hR⟩ : ∃ R, AnswerRet T B room L k W = R := ⟨_, rfl⟩
  rw [hR]
  have RR := Lib.hid hR
  clear hR
  have HT := Lib.hid h
  have ht := h.t
  have zk0 := key_sz hk
  have HK := Lib.hid hk
  clear h hk
  generalize firstP L nilp = fp at *
  generalize lastP nilp L = lp at *
  go_enter Try.func29, Try.ntmps29
  go_wp2_with fail
  refine (right_any T B room fp lp _).mono ?_
  rintro e w1 ⟨rfl, M1⟩
  have N1 := (Mor.out : Mo W _).trans M1
  have t1 : Blk w1 T 128 #[.int .i64 room, .map (some B), fp, lp] := N1.blk ht
  have k1 : Blk w1 W.heap.size 72 k := M1.blk inferInstance
  have r1 : Blk w1 (W.heap.size + 1) 88 (enC key0 wdz false) := M1.blk (blk_en0 inferInstance)
  have T1 := Lib.hid (HT.out.mo N1)
  clear M1 ht
  by_cases c : ∃ q ∈ L, q.2.k = k
  · obtain ⟨⟨g, en⟩, hq, rfl⟩ := c
    obtain ⟨A, C, hs⟩ := List.append_of_mem hq
    have lk := (T1.out.map.keep (w' := w1.drew) rfl).yes hq HK.out
    obtain ⟨o, x, bg⟩ := seg_blk T1.out.seg _ hq
    have za := at_sz (T1.out.ok _ hq).a
    have oa := one_of_fits (T1.out.ok _ hq).a
    have ok' := one_of_fits HK.out
    have hgl : g < W.heap.size := seg_lt HT.out.seg _ hq
    have HQ := Lib.hid hq
    have HS := Lib.hid hs
    obtain ⟨ek, ea, ed⟩ := en
    simp only at zk0 lk bg za oa ok' k1
    clear hq hs
    have AL : Hid (AnsL L ek = A ++ (g, ⟨ek, ea, true⟩) :: C) := Lib.hid (by
      have := HT.out.keys
      rw [HS.out] at this ⊢
      exact ansL_split (e := ⟨ek, ea, ed⟩) this)
    cases ed with
    | true =>
      go_upto_region 3 with (fail)
      go_region
      go_wp2_with fail
      have rr := blk_setRow (cs' := enC ek ea true) r1
      refine ret_cell2 Try.results29 (W.heap.size + 1) (enC ek ea true) rfl rfl ⟨(inferInstance : Blk ((w1.setRow (W.heap.size + 1) (enC ek ea true)).alloc (.cells (enC ek ea true) 88)) (W.heap.size + 1) 88 (enC ek ea true)).out⟩ ?_
      rw [← RR.out]
      have M8 : Mo W (w1.setRow (W.heap.size + 1) (enC ek ea true)) := mo_setRow N1 (Nat.le_succ _) _
      have M9 : Mo W ((w1.setRow (W.heap.size + 1) (enC ek ea true)).alloc (.cells (enC ek ea true) 88)).drew := mo_drew (M8.trans Mor.out)
      exact ⟨by rw [AL.out, ← HS.out]; exact HT.out.mo M9, KpS.of_mo M9, .inl ⟨_, HQ.out, rfl, rfl⟩⟩
    | false =>
      go_upto_region 3 with (fail)
      go_region
      go_upto_region 9 with (fail)
      refine wp_name ?_
      intro w2 hw2
      have b2 : Blk w2 g 132 (ndC ek ea false o x) := by rw [hw2]; exact ⟨(inferInstance : Blk (w1.alloc (.cells (enC ek ea false) 88)) g 132 (ndC ek ea false o x)).out⟩
      have r2 : Blk w2 (W.heap.size + 1) 88 (enC key0 wdz false) := by rw [hw2]; exact ⟨(inferInstance : Blk (w1.alloc (.cells (enC ek ea false) 88)) (W.heap.size + 1) 88 (enC key0 wdz false)).out⟩
      have s2 : Blk w2 w1.heap.size 88 (enC ek ea false) := by rw [hw2]; exact ⟨(inferInstance : Blk (w1.alloc (.cells (enC ek ea false) 88)) w1.heap.size 88 (enC ek ea false)).out⟩
      have M2 : Mo W w2 := by rw [hw2]; exact mo_drew (N1.trans Mor.out)
      have hgr : g ≠ W.heap.size + 1 := by omega
      have hgs : g ≠ w1.heap.size := by have := N1.size; omega
      clear hw2 r1 bg k1 t1
      go_upto_region 10 with (fail)
      refine wp_name ?_
      intro w3 hw3
      have b3 : Blk w3 g 132 (ndC ek ea true o x) := by
        have := blk_setCell b2 39 (.bool true)
        rw [nd_set39] at this
        rw [hw3]; exact this
      have r3 : Blk w3 (W.heap.size + 1) 88 (enC key0 wdz false) := by rw [hw3]; exact blk_setCell_ne r2 hgr _ _
      have s3 : Blk w3 w1.heap.size 88 (enC ek ea false) := by rw [hw3]; exact blk_setCell_ne s2 hgs _ _
      have K3' : KpS (fun k => k = g) W w3 := by rw [hw3]; exact (KpS.of_mo (S := fun k => k = g) M2).cell rfl 39 _
      clear hw3 r2 s2
      go_wp2_with fail
      have rr := blk_setRow (cs' := enC ek ea false) r3
      refine ret_cell2 Try.results29 (W.heap.size + 1) (enC ek ea false) rfl rfl rr ?_
      rw [← RR.out]
      have K3 : KpS (fun k => k = g) W (w3.setRow (W.heap.size + 1) (enC ek ea false)) := by
        refine ⟨K3'.os, K3'.tape, K3'.output, ?_, fun k h1 h2 => ?_⟩
        · rw [setRow_size']
          exact K3'.size
        · rw [setRow_get_ne _ _ _ _ (by omega)]
          exact K3'.block k h1 h2
      replace b3 := blk_setRow_ne (cs' := enC ek ea false) b3 (Ne.symm hgr)
      refine ⟨?_, K3.mono fun i hi e => .inr (.inr ⟨_, HQ.out, e.symm⟩), .inl ⟨_, HQ.out, rfl, rfl⟩⟩
      have hT := HT.out
      rw [AL.out]
      rw [HS.out] at hT
      obtain ⟨o', x', b0⟩ := seg_blk HT.out.seg _ HQ.out
      have e1 := (M2.blk b0).out.symm.trans b2.out
      have e2 : ndE ⟨ek, ea, false⟩ o' x' = ndC ek ea false o x := by
        injection e1 with e1
        injection e1
      have f1 := congrArg (fun a => a[40]?) e2
      have f2 := congrArg (fun a => a[41]?) e2
      simp only [ndE, nd_old, nd_new, Option.some.injEq] at f1 f2
      subst f1 f2
      exact tab_set hT b0 b3 K3
  · have hn : ∀ q ∈ L, q.2.k ≠ k := fun q hq e => c ⟨q, hq, e⟩
    have lk := (T1.out.map.keep (w' := w1.drew) rfl).no HK.out (fun q hq => (T1.out.ok q hq).k) hn
    have HN := Lib.hid hn
    have ok' := one_of_fits HK.out
    clear hn c
    go_upto_region 3 with (fail)
    go_region
    go_wp2_with fail
    refine ret_cell2 Try.results29 (W.heap.size + 1) (enC k wdz false) rfl rfl ⟨(blk_setRow r1).out⟩ ?_
    rw [← RR.out]
    have M9 : Mo W (w1.setRow (W.heap.size + 1) (enC k wdz false)).drew := mo_drew (mo_setRow N1 (Nat.le_succ _) _)
    exact ⟨by rw [ansL_none HN.out]; exact HT.out.mo M9, KpS.of_mo M9, .inr ⟨HN.out, rfl⟩⟩
end Go.Proofs.Ytcflebggepmmcaa
/- pend.Ask: the walk (printed by gen/genpende.py). -/
namespace Go.Proofs.Ytcflebggepmmcaa
open Go.RowKit Go.Maps

noncomputable def strike (E : List En) (k : Array Value) : List En := E.filter fun e => !eqA e.k k
noncomputable def hasE (E : List En) (k : Array Value) : Bool := E.any fun e => eqA e.k k
/-- what Ask answers: again, what goes, and what is left -/
noncomputable def askE (room : Int) (E : List En) (k a : Array Value) : Bool × Option En × List En :=
  if ((strike E k ++ [(⟨k, a, false⟩ : En)]).length : Int) ≤ room then (hasE E k, none, strike E k ++ [(⟨k, a, false⟩ : En)]) else (hasE E k, (strike E k ++ [(⟨k, a, false⟩ : En)]).head?, (strike E k ++ [(⟨k, a, false⟩ : En)]).tail)
def outV : Option En → Value
  | none => .agg (enC key0 wdz false)
  | some e => .agg (enC e.k e.a e.d)
def AskRet (T B : Nat) (room : Int) (L : List (Nat × En)) (k a : Array Value) (W : World) (e : Ending) (w' : World) : Prop :=
  ∃ L', TabAt w' T B room L' ∧ KpS (Foot T B L) W w' ∧ (∀ i, i < W.heap.size → Foot T B L' i → Foot T B L i) ∧ L'.map (·.2) = (askE room (L.map (·.2)) k a).2.2 ∧
    e = .returned (.tuple #[.bool (askE room (L.map (·.2)) k a).1, outV (askE room (L.map (·.2)) k a).2.1, .bool (askE room (L.map (·.2)) k a).2.1.isSome])
set_option maxRecDepth 20000 in
theorem ask_le {room : Int} {E X : List En} {k a : Array Value} (h : X = strike E k ++ [(⟨k, a, false⟩ : En)]) (c : (X.length : Int) ≤ room) : askE room E k a = (hasE E k, none, X) := by
  unfold askE
  rw [← h, if_pos c]
set_option maxRecDepth 20000 in
theorem ask_gt {room : Int} {E X : List En} {x : En} {k a : Array Value} (h : x :: X = strike E k ++ [(⟨k, a, false⟩ : En)]) (c : ¬ ((x :: X).length : Int) ≤ room) : askE room E k a = (hasE E k, some x, X) := by
  unfold askE
  rw [← h, if_neg c]
  rfl
set_option maxRecDepth 20000 in
theorem strike_split {A C : List (Nat × En)} {g : Nat} {e : En} (nd : ((A ++ (g, e) :: C).map (·.2.k)).Nodup) : strike ((A ++ (g, e) :: C).map (·.2)) e.k = (A ++ C).map (·.2) := by
  rw [List.map_append, List.map_cons, List.nodup_append, List.nodup_cons] at nd
  unfold strike
  rw [List.map_append, List.map_cons, List.filter_append, List.filter_cons_of_neg (by simp [eqA_self]), List.map_append]
  congr 1
  · rw [List.filter_eq_self]
    intro x hx
    obtain ⟨q, hq, rfl⟩ := List.mem_map.1 hx
    simp only [Bool.not_eq_true', Bool.eq_false_iff]
    exact fun c => nd.2.2 _ (List.mem_map_of_mem hq) _ List.mem_cons_self (eqA_iff.1 c)
  · rw [List.filter_eq_self]
    intro x hx
    obtain ⟨q, hq, rfl⟩ := List.mem_map.1 hx
    simp only [Bool.not_eq_true', Bool.eq_false_iff]
    exact fun c => nd.2.1.1 (by rw [← eqA_iff.1 c]; exact List.mem_map.2 ⟨q, hq, rfl⟩)
set_option maxRecDepth 20000 in
theorem strike_none {L : List (Nat × En)} {k : Array Value} (h : ∀ q ∈ L, q.2.k ≠ k) : strike (L.map (·.2)) k = L.map (·.2) := by
  unfold strike
  rw [List.filter_eq_self]
  intro x hx
  obtain ⟨q, hq, rfl⟩ := List.mem_map.1 hx
  simp only [Bool.not_eq_true', Bool.eq_false_iff]
  exact fun c => h q hq (eqA_iff.1 c)
set_option maxRecDepth 20000 in
theorem hasE_yes {L : List (Nat × En)} {q : Nat × En} (h : q ∈ L) : hasE (L.map (·.2)) q.2.k = true := by
  unfold hasE
  rw [List.any_eq_true]
  exact ⟨q.2, List.mem_map.2 ⟨q, h, rfl⟩, eqA_self _⟩
set_option maxRecDepth 20000 in
theorem hasE_no {L : List (Nat × En)} {k : Array Value} (h : ∀ q ∈ L, q.2.k ≠ k) : hasE (L.map (·.2)) k = false := by
  unfold hasE
  rw [Bool.eq_false_iff]
  intro c
  obtain ⟨x, hx, e⟩ := List.any_eq_true.1 c
  obtain ⟨q, hq, rfl⟩ := List.mem_map.1 hx
  exact h q hq (eqA_iff.1 e)
set_option maxRecDepth 20000 in
theorem KpS.row' {S : Nat → Prop} {w w' : World} (h : KpS S w w') {g : Nat} (s : w.heap.size ≤ g) (cs : Array Value) : KpS S w (w'.setRow g cs).drew :=
  ⟨h.os, h.tape, h.output, by show _ ≤ (w'.setRow g cs).heap.size; rw [setRow_size']; exact h.size, fun k h1 h2 => (setRow_get_ne w' g k cs (by omega)).trans (h.block k h1 h2)⟩
set_option maxRecDepth 20000 in
theorem arr2' {cs : Array Value} (h : cs.size = 2) : ∃ x0 x1, cs = #[x0, x1] := by
  obtain ⟨l⟩ := cs
  match l, h with
  | [x0, x1], _ => exact ⟨_, _, rfl⟩
set_option maxRecDepth 20000 in
theorem run_build_entryka (k a : Array Value) [hk : SzA k 37] [ha : SzA a 2] (w : World) : (buildF 88 #[(0, .agg k), (1, .agg a)]).run Try.prog w = .ok (.agg (enC k a false)) w := by
  obtain ⟨x0, x1, x2, x3, x4, x5, x6, x7, x8, x9, x10, x11, x12, x13, x14, x15, x16, x17, x18, x19, x20, x21, x22, x23, x24, x25, x26, x27, x28, x29, x30, x31, x32, x33, x34, x35, x36, rfl⟩ := arr37 hk.out
  obtain ⟨y0, y1, rfl⟩ := arr2' ha.out
  exact run_build w _ _ _ (by kernel_rfl)
set_option maxRecDepth 20000 in
theorem buildF_node (l : Array (Nat × Value)) : Instr.build 132 l = buildF 132 l := rfl
set_option maxRecDepth 20000 in
theorem run_build_node (k a : Array Value) [hk : SzA k 37] [ha : SzA a 2] (w : World) : (buildF 132 #[(0, .agg (enC k a false))]).run Try.prog w = .ok (.agg (ndC k a false nilp nilp)) w := by
  obtain ⟨x0, x1, x2, x3, x4, x5, x6, x7, x8, x9, x10, x11, x12, x13, x14, x15, x16, x17, x18, x19, x20, x21, x22, x23, x24, x25, x26, x27, x28, x29, x30, x31, x32, x33, x34, x35, x36, rfl⟩ := arr37 hk.out
  obtain ⟨y0, y1, rfl⟩ := arr2' ha.out
  exact run_build w _ _ _ (by kernel_rfl)
set_option maxRecDepth 20000 in
theorem results_tct {fn : Func} {s p u : Tmp} {ty : TypeId} (h : fn.results = #[.tmp s, .cell p ty, .tmp u]) (tmps : Array Value) (P : Program) (w : World) :
    (results fn tmps).run P w =
      ((asAddr (tmps.getD p undef)).run P w).andThen fun a w₁ => ((loadVar ty a).run P w₁).andThen fun v w₂ => .ok (.tuple #[tmps.getD s undef, v, tmps.getD u undef]) w₂ := by
  simp only [results, h]
  simp [Sem.run_bind, Result.andThen]
set_option maxRecDepth 20000 in
theorem ret_tct {fn : Func} {s p u : Tmp} {T : TypeId} {R : Ending → World → Prop} {a : Act} {w : World} (hr : fn.results = #[.tmp s, .cell p T, .tmp u]) (g : Nat) (cs : Array Value) (hp : a.tmps.getD p undef = .pointer (some ⟨g, 0, none⟩)) (hd : a.defers = []) {n : Nat} [h : RowT T n] [z : SzA cs n] (b : Blk w g T cs)
    (hR : R (.returned (.tuple #[a.tmps.getD s undef, .agg cs, a.tmps.getD u undef])) w) : bodyPost Try.prog fn R .ret a w :=
  bodyPost_ret (v := .tuple #[a.tmps.getD s undef, .agg cs, a.tmps.getD u undef]) (by
    rw [results_tct hr, hp]
    have e : (asAddr (.pointer (some ⟨g, 0, none⟩))).run Try.prog w = .ok (⟨g, 0, none⟩ : Addr) w := rfl
    rw [e, Result.andThen_ok, loadVar_flat T b z.out, Result.andThen_ok]) hd hR
set_option maxRecDepth 20000 in
theorem loadF_wide' (v : Value) : Instr.loadAt 32 v = loadF 32 v := rfl
attribute [local go_sem] run_neq_mapN
attribute [local go_sem] blk_cell' blk_frozen' nd_old nd_new nd_ans nd_key nd_en
attribute [local go_sem ↓] loadF_key loadF_entry storeF_entry buildF_entry loadF_wide' buildF_node
attribute [local go_sem] run_loadFo run_loadFz run_loadF0 run_storeF0 run_build_entry0 run_build_entryka run_build_node
set_option maxRecDepth 20000 in
set_option maxHeartbeats 16000000 in
theorem ask_any (T B : Nat) (room : Int) (L : List (Nat × En)) (k a : Array Value) (W : World) (h : TabAt W T B room L) (hk : KeyP k) (ha : Fits (ksOf 32) a.toList) (hl : L.length ≤ 65536) :
    Calls Try.prog 28 #[ptr T, .agg k, .agg a] W (AskRet T B room L k a W) := by
  obtain ⟨R, hR⟩ : ∃ R, AskRet T B room L k a W = R := ⟨_, rfl⟩
  rw [hR]
  have RR := Lib.hid hR
  have HT := Lib.hid h
  have ht := h.t
  have zk0 := key_sz hk
  have za0 := at_sz ha
  have ok0 := one_of_fits hk
  have oa0 := one_of_fits ha
  have HK := Lib.hid hk
  have HA := Lib.hid ha
  have HL := Lib.hid hl
  clear hR h hk ha hl
  generalize firstP L nilp = fp at *
  generalize lastP nilp L = lp at *
  go_enter Try.func28, Try.ntmps28
  go_wp2_with fail
  refine (right_any T B room fp lp _).mono ?_
  rintro e w1 ⟨rfl, M1⟩
  have N1 := (Mor.out : Mo W _).trans M1
  have t1 : Blk w1 T 128 #[.int .i64 room, .map (some B), fp, lp] := N1.blk ht
  have k1 : Blk w1 W.heap.size 72 k := M1.blk inferInstance
  have a1 : Blk w1 (W.heap.size + 1) 32 a := M1.blk inferInstance
  have r1 : Blk w1 (W.heap.size + 2) 88 (enC key0 wdz false) := M1.blk (blk_en0 inferInstance)
  have T1 := Lib.hid (HT.out.mo N1)
  clear M1 ht
  by_cases c : ∃ q ∈ L, q.2.k = k
  · obtain ⟨⟨g, en⟩, hq, rfl⟩ := c
    obtain ⟨A, C, hs⟩ := List.append_of_mem hq
    have lk := (T1.out.map.keep (w' := w1.drew) rfl).yes hq HK.out
    have HQ := Lib.hid hq
    obtain ⟨k, ea, ed⟩ := en
    simp only at zk0 lk k1 ok0 RR HK
    subst hs
    clear hq
    go_upto_region 3 with (fail)
    go_region
    go_wp2_with fail
    refine (cut_any T B g room A C ⟨k, ea, ed⟩ _ (T1.out.mo Mor.out)).mono ?_
    rintro e w3 ⟨rfl, T3, -, K3⟩
    have l1 : ∀ i, Foot T B (A ++ (g, ⟨k, ea, ed⟩) :: C) i → i < W.heap.size := HT.out.lt
    have k3 : Blk w3 W.heap.size 72 k := K3.blk inferInstance (fun e => by have := l1 _ e; omega)
    have a3 : Blk w3 (W.heap.size + 1) 32 a := K3.blk inferInstance (fun e => by have := l1 _ e; omega)
    have r3 : Blk w3 (W.heap.size + 2) 88 (enC key0 wdz false) := K3.blk inferInstance (fun e => by have := l1 _ e; omega)
    replace K3 : Hid (KpS (Foot T B (A ++ (g, ⟨k, ea, ed⟩) :: C)) W w3) := Lib.hid ((KpS.of_mo (mo_drew N1)).trans K3 fun _ _ q => q)
    replace T3 := Lib.hid T3
    have SUB : Hid (∀ i, Foot T B (A ++ C) i → Foot T B (A ++ (g, ⟨k, ea, ed⟩) :: C) i) := Lib.hid (by
      rintro i (q | q | ⟨q, hq, e⟩)
      · exact .inl q
      · exact .inr (.inl q)
      · refine .inr (.inr ⟨q, ?_, e⟩)
        rcases List.mem_append.1 hq with h | h
        · exact List.mem_append_left _ h
        · exact List.mem_append_right _ (List.mem_cons_of_mem _ h))
    have HN1 : Hid (∀ q ∈ A ++ C, q.2.k ≠ k) := Lib.hid (by
      have nd := HT.out.keys
      rw [List.map_append, List.map_cons, List.nodup_append, List.nodup_cons] at nd
      intro q hq c
      rcases List.mem_append.1 hq with h | h
      · exact nd.2.2 _ (List.mem_map_of_mem h) _ List.mem_cons_self c
      · exact nd.2.1.1 (by rw [← c]; exact List.mem_map.2 ⟨q, h, rfl⟩))
    have HL1 : Hid ((A ++ C).length ≤ 65536) := Lib.hid (by have := HL.out; simp only [List.length_append, List.length_cons] at this ⊢; omega)
    have HE1 : Hid ((A ++ C).map (·.2) = strike ((A ++ (g, ⟨k, ea, ed⟩) :: C).map (·.2)) k) := Lib.hid (strike_split (e := ⟨k, ea, ed⟩) HT.out.keys).symm
    have HB : Hid (hasE ((A ++ (g, ⟨k, ea, ed⟩) :: C).map (·.2)) k = true) := Lib.hid (hasE_yes HQ.out)
    clear l1 k1 a1 r1 lk t1
    generalize A ++ C = L1 at *
    generalize A ++ (g, (⟨k, ea, ed⟩ : En)) :: C = L at *
    go_wp2_with fail
    refine (push_any T B w3.heap.size room L1 ⟨k, a, false⟩ nilp nilp _ (T3.out.mo Mor.out) inferInstance (by have := T3.out.t.lt; omega) (fun q hq e => by have := seg_lt T3.out.seg q hq; omega) ⟨HK.out, HA.out⟩ HN1.out HL1.out).mono ?_
    rintro e w4 ⟨rfl, T4, K4⟩
    have hr4 : ¬ (W.heap.size + 2 = w3.heap.size ∨ Foot T B L1 (W.heap.size + 2)) := by
      rintro (e | e)
      · have := r3.lt; omega
      · have := HT.out.lt _ (SUB.out _ e); omega
    have r4 : Blk w4 (W.heap.size + 2) 88 (enC key0 wdz false) := K4.blk inferInstance hr4
    have KW : Hid (KpS (Foot T B L) W w4) := Lib.hid ((K3.out.trans (S' := Foot T B L) (KpS.of_mo (Mor.out : Mo w3 (w3.alloc (.cells (ndC k a false nilp nilp) 132)))) fun _ _ q => q).trans K4 fun i hi q => by
      rcases q with q | q
      · exfalso; have := K3.out.size; omega
      · exact SUB.out _ q)
    have FT : Hid (∀ i, i < W.heap.size → Foot T B (L1 ++ [(w3.heap.size, ⟨k, a, false⟩)]) i → Foot T B L i) := Lib.hid (fun i hi q => by
      rcases q with q | q | ⟨q, hq, e⟩
      · exact .inl q
      · exact .inr (.inl q)
      · rcases List.mem_append.1 hq with h | h
        · exact SUB.out i (.inr (.inr ⟨q, h, e⟩))
        · rw [List.mem_singleton] at h
          subst h
          exfalso
          have := K3.out.size
          simp only at e
          omega)
    have NR : Hid (∀ i, Foot T B (L1 ++ [(w3.heap.size, ⟨k, a, false⟩)]) i → i ≠ W.heap.size + 2) := Lib.hid (fun i q e => by
      have h3 := r3.lt
      rcases q with q | q | ⟨q, hq, e'⟩
      · have := HT.out.lt i (.inl q); omega
      · have := HT.out.lt i (.inr (.inl q)); omega
      · rcases List.mem_append.1 hq with h | h
        · have := HT.out.lt _ (SUB.out i (.inr (.inr ⟨q, h, e'⟩))); omega
        · rw [List.mem_singleton] at h
          subst h
          simp only at e'
          omega)
    have T4' := Lib.hid T4
    have hl4 := (T4.map.keep (w' := w4.drew) rfl).len 3
    have t4 := T4.t
    have E1 : Hid ((L1 ++ [(w3.heap.size, (⟨k, a, false⟩ : En))]).map (·.2) = strike (L.map (·.2)) k ++ [⟨k, a, false⟩]) := Lib.hid (by rw [List.map_append, HE1.out]; rfl)
    clear K4 K3 T4 k3 a3 r3 hr4
    generalize hL2 : L1 ++ [(w3.heap.size, (⟨k, a, false⟩ : En))] = L2 at *
    have HL2 := Lib.hid hL2
    clear hL2
    rcases L2 with _ | ⟨⟨g1, e1⟩, L2⟩
    · exact absurd HL2.out (by simp)
    have z1 := key_sz (T4'.out.ok (g1, e1) (by simp)).k
    have z2 := at_sz (T4'.out.ok (g1, e1) (by simp)).a
    have y1 := one_of_fits (T4'.out.ok (g1, e1) (by simp)).k
    have y2 := one_of_fits (T4'.out.ok (g1, e1) (by simp)).a
    rw [show firstP ((g1, e1) :: L2) nilp = ptr g1 from rfl] at t4
    generalize lastP nilp ((g1, e1) :: L2) = lp4 at *
    obtain ⟨n4, hn4⟩ : ∃ n4, ((g1, e1) :: L2).length = n4 := ⟨_, rfl⟩
    rw [hn4] at hl4
    have HN4 := Lib.hid hn4
    clear hn4
    by_cases c : (n4 : Int) ≤ room
    · have d4 : decide ((n4 : Int) ≤ room) = true := decide_eq_true c
      have HC := Lib.hid c
      clear c
      go_upto_region 7 with (fail)
      go_region
      go_wp2_with fail
      have rr := blk_setRow (cs' := enC key0 wdz false) r4
      refine ret_tct Try.results28 (W.heap.size + 2) (enC key0 wdz false) rfl rfl ⟨rr.out⟩ ?_
      rw [← RR.out]
      have AE := ask_le E1.out (room := room) (by rw [List.length_map, HN4.out]; exact HC.out)
      refine ⟨(g1, e1) :: L2, T4'.out.keep (fun i hi hf => setRow_get_ne w4 _ i _ (Ne.symm (NR.out i hf))), KW.out.row' (by omega) _, FT.out, by rw [AE], ?_⟩
      rw [AE, HB.out]
      rfl
    · have d4 : decide ((n4 : Int) ≤ room) = false := decide_eq_false c
      have HC := Lib.hid c
      clear c
      go_upto_region 7 with (fail)
      go_region
      go_wp2_with fail
      refine (cut_any T B g1 room [] L2 e1 _ (T4'.out.mo Mor.out)).mono ?_
      rintro e w5 ⟨rfl, T5, ⟨o, x, bg⟩, K5⟩
      have KX : Hid (KpS (Foot T B ((g1, e1) :: L2)) w4 w5) := Lib.hid ((KpS.of_mo (mo_drew (Mo.refl w4))).trans K5 fun _ _ q => q)
      have r5 : Blk w5 (W.heap.size + 2) 88 (enC key0 wdz false) := KX.out.blk r4 fun e => NR.out _ e rfl
      have T5' := Lib.hid T5
      have hgr : g1 ≠ W.heap.size + 2 := NR.out g1 (.inr (.inr ⟨(g1, e1), by simp, rfl⟩))
      obtain ⟨ek1, ea1, ed1⟩ := e1
      simp only at z1 z2 y1 y2
      clear T5 K5 r4 t4 hl4
      go_upto_region 11 with (fail)
      go_region
      go_wp2_with fail
      have rr := blk_setRow (cs' := enC ek1 ea1 ed1) r5
      refine ret_tct Try.results28 (W.heap.size + 2) (enC ek1 ea1 ed1) rfl rfl ⟨rr.out⟩ ?_
      rw [← RR.out]
      have AE := ask_gt (x := ⟨ek1, ea1, ed1⟩) (X := L2.map (fun x => x.2)) (by have := E1.out; rwa [List.map_cons] at this) (room := room) (by rw [List.length_cons, List.length_map]; have := HN4.out; rw [List.length_cons] at this; rw [this]; have := HC.out; omega)
      have SB : ∀ i, Foot T B L2 i → Foot T B ((g1, (⟨ek1, ea1, ed1⟩ : En)) :: L2) i := by
        rintro i (q | q | ⟨q, hq, e⟩)
        · exact .inl q
        · exact .inr (.inl q)
        · exact .inr (.inr ⟨q, List.mem_cons_of_mem _ hq, e⟩)
      refine ⟨L2, T5'.out.keep (fun i hi hf => setRow_get_ne w5 _ i _ (Ne.symm (NR.out i (SB i hf)))), (KW.out.trans KX.out fun i hi q => FT.out i hi q).row' (by omega) _, fun i hi q => FT.out i hi (SB i q), by rw [AE], ?_⟩
      rw [AE, HB.out]
      rfl
  · have hn : ∀ q ∈ L, q.2.k ≠ k := fun q hq e => c ⟨q, hq, e⟩
    have lk := (T1.out.map.keep (w' := w1.drew) rfl).no HK.out (fun q hq => (T1.out.ok q hq).k) hn
    have HN1 := Lib.hid hn
    have HE1 : Hid (L.map (·.2) = strike (L.map (·.2)) k) := Lib.hid (strike_none hn).symm
    have HB : Hid (hasE (L.map (·.2)) k = false) := Lib.hid (hasE_no hn)
    have SUB : Hid (∀ i, Foot T B L i → Foot T B L i) := Lib.hid fun _ q => q
    have HL1 := HL
    clear hn c
    go_upto_region 3 with (fail)
    go_region
    go_upto_region 6 with (fail)
    refine wp_name ?_
    intro w3 hw3
    have k3 : Blk w3 W.heap.size 72 k := by rw [hw3]; exact ⟨k1.out⟩
    have a3 : Blk w3 (W.heap.size + 1) 32 a := by rw [hw3]; exact ⟨a1.out⟩
    have r3 : Blk w3 (W.heap.size + 2) 88 (enC key0 wdz false) := by rw [hw3]; exact ⟨r1.out⟩
    have K3 : Hid (KpS (Foot T B L) W w3) := Lib.hid (by rw [hw3]; exact KpS.of_mo (mo_drew N1))
    have T3 : Hid (TabAt w3 T B room L) := Lib.hid (by rw [hw3]; exact HT.out.mo (mo_drew N1))
    clear hw3 k1 a1 r1 lk t1
    obtain ⟨L1, hL1⟩ : ∃ L1, L1 = L := ⟨_, rfl⟩
    rw [← hL1] at T3 SUB HE1 HN1 HL1
    rw [hL1] at HE1
    replace HE1 : Hid (L1.map (·.2) = strike (L.map (·.2)) k) := Lib.hid (by rw [hL1]; exact HE1.out)
    replace SUB : Hid (∀ i, Foot T B L1 i → Foot T B L i) := Lib.hid (by rw [hL1]; exact fun _ q => q)
    clear hL1
    go_wp2_with fail
    refine (push_any T B w3.heap.size room L1 ⟨k, a, false⟩ nilp nilp _ (T3.out.mo Mor.out) inferInstance (by have := T3.out.t.lt; omega) (fun q hq e => by have := seg_lt T3.out.seg q hq; omega) ⟨HK.out, HA.out⟩ HN1.out HL1.out).mono ?_
    rintro e w4 ⟨rfl, T4, K4⟩
    have hr4 : ¬ (W.heap.size + 2 = w3.heap.size ∨ Foot T B L1 (W.heap.size + 2)) := by
      rintro (e | e)
      · have := r3.lt; omega
      · have := HT.out.lt _ (SUB.out _ e); omega
    have r4 : Blk w4 (W.heap.size + 2) 88 (enC key0 wdz false) := K4.blk inferInstance hr4
    have KW : Hid (KpS (Foot T B L) W w4) := Lib.hid ((K3.out.trans (S' := Foot T B L) (KpS.of_mo (Mor.out : Mo w3 (w3.alloc (.cells (ndC k a false nilp nilp) 132)))) fun _ _ q => q).trans K4 fun i hi q => by
      rcases q with q | q
      · exfalso; have := K3.out.size; omega
      · exact SUB.out _ q)
    have FT : Hid (∀ i, i < W.heap.size → Foot T B (L1 ++ [(w3.heap.size, ⟨k, a, false⟩)]) i → Foot T B L i) := Lib.hid (fun i hi q => by
      rcases q with q | q | ⟨q, hq, e⟩
      · exact .inl q
      · exact .inr (.inl q)
      · rcases List.mem_append.1 hq with h | h
        · exact SUB.out i (.inr (.inr ⟨q, h, e⟩))
        · rw [List.mem_singleton] at h
          subst h
          exfalso
          have := K3.out.size
          simp only at e
          omega)
    have NR : Hid (∀ i, Foot T B (L1 ++ [(w3.heap.size, ⟨k, a, false⟩)]) i → i ≠ W.heap.size + 2) := Lib.hid (fun i q e => by
      have h3 := r3.lt
      rcases q with q | q | ⟨q, hq, e'⟩
      · have := HT.out.lt i (.inl q); omega
      · have := HT.out.lt i (.inr (.inl q)); omega
      · rcases List.mem_append.1 hq with h | h
        · have := HT.out.lt _ (SUB.out i (.inr (.inr ⟨q, h, e'⟩))); omega
        · rw [List.mem_singleton] at h
          subst h
          simp only at e'
          omega)
    have T4' := Lib.hid T4
    have hl4 := (T4.map.keep (w' := w4.drew) rfl).len 3
    have t4 := T4.t
    have E1 : Hid ((L1 ++ [(w3.heap.size, (⟨k, a, false⟩ : En))]).map (·.2) = strike (L.map (·.2)) k ++ [⟨k, a, false⟩]) := Lib.hid (by rw [List.map_append, HE1.out]; rfl)
    clear K4 K3 T4 k3 a3 r3 hr4
    generalize hL2 : L1 ++ [(w3.heap.size, (⟨k, a, false⟩ : En))] = L2 at *
    have HL2 := Lib.hid hL2
    clear hL2
    rcases L2 with _ | ⟨⟨g1, e1⟩, L2⟩
    · exact absurd HL2.out (by simp)
    have z1 := key_sz (T4'.out.ok (g1, e1) (by simp)).k
    have z2 := at_sz (T4'.out.ok (g1, e1) (by simp)).a
    have y1 := one_of_fits (T4'.out.ok (g1, e1) (by simp)).k
    have y2 := one_of_fits (T4'.out.ok (g1, e1) (by simp)).a
    rw [show firstP ((g1, e1) :: L2) nilp = ptr g1 from rfl] at t4
    generalize lastP nilp ((g1, e1) :: L2) = lp4 at *
    obtain ⟨n4, hn4⟩ : ∃ n4, ((g1, e1) :: L2).length = n4 := ⟨_, rfl⟩
    rw [hn4] at hl4
    have HN4 := Lib.hid hn4
    clear hn4
    by_cases c : (n4 : Int) ≤ room
    · have d4 : decide ((n4 : Int) ≤ room) = true := decide_eq_true c
      have HC := Lib.hid c
      clear c
      go_upto_region 7 with (fail)
      go_region
      go_wp2_with fail
      have rr := blk_setRow (cs' := enC key0 wdz false) r4
      refine ret_tct Try.results28 (W.heap.size + 2) (enC key0 wdz false) rfl rfl ⟨rr.out⟩ ?_
      rw [← RR.out]
      have AE := ask_le E1.out (room := room) (by rw [List.length_map, HN4.out]; exact HC.out)
      refine ⟨(g1, e1) :: L2, T4'.out.keep (fun i hi hf => setRow_get_ne w4 _ i _ (Ne.symm (NR.out i hf))), KW.out.row' (by omega) _, FT.out, by rw [AE], ?_⟩
      rw [AE, HB.out]
      rfl
    · have d4 : decide ((n4 : Int) ≤ room) = false := decide_eq_false c
      have HC := Lib.hid c
      clear c
      go_upto_region 7 with (fail)
      go_region
      go_wp2_with fail
      refine (cut_any T B g1 room [] L2 e1 _ (T4'.out.mo Mor.out)).mono ?_
      rintro e w5 ⟨rfl, T5, ⟨o, x, bg⟩, K5⟩
      have KX : Hid (KpS (Foot T B ((g1, e1) :: L2)) w4 w5) := Lib.hid ((KpS.of_mo (mo_drew (Mo.refl w4))).trans K5 fun _ _ q => q)
      have r5 : Blk w5 (W.heap.size + 2) 88 (enC key0 wdz false) := KX.out.blk r4 fun e => NR.out _ e rfl
      have T5' := Lib.hid T5
      have hgr : g1 ≠ W.heap.size + 2 := NR.out g1 (.inr (.inr ⟨(g1, e1), by simp, rfl⟩))
      obtain ⟨ek1, ea1, ed1⟩ := e1
      simp only at z1 z2 y1 y2
      clear T5 K5 r4 t4 hl4
      go_upto_region 11 with (fail)
      go_region
      go_wp2_with fail
      have rr := blk_setRow (cs' := enC ek1 ea1 ed1) r5
      refine ret_tct Try.results28 (W.heap.size + 2) (enC ek1 ea1 ed1) rfl rfl ⟨rr.out⟩ ?_
      rw [← RR.out]
      have AE := ask_gt (x := ⟨ek1, ea1, ed1⟩) (X := L2.map (fun x => x.2)) (by have := E1.out; rwa [List.map_cons] at this) (room := room) (by rw [List.length_cons, List.length_map]; have := HN4.out; rw [List.length_cons] at this; rw [this]; have := HC.out; omega)
      have SB : ∀ i, Foot T B L2 i → Foot T B ((g1, (⟨ek1, ea1, ed1⟩ : En)) :: L2) i := by
        rintro i (q | q | ⟨q, hq, e⟩)
        · exact .inl q
        · exact .inr (.inl q)
        · exact .inr (.inr ⟨q, List.mem_cons_of_mem _ hq, e⟩)
      refine ⟨L2, T5'.out.keep (fun i hi hf => setRow_get_ne w5 _ i _ (Ne.symm (NR.out i (SB i hf)))), (KW.out.trans KX.out fun i hi q => FT.out i hi q).row' (by omega) _, fun i hi q => FT.out i hi (SB i q), by rw [AE], ?_⟩
      rw [AE, HB.out]
      rfl
end Go.Proofs.Ytcflebggepmmcaa
