/- pend: a table of nodes in a chain, and a map of them: how it lies. -/
import Derived.Test.YtlbkcjpnlnlmiaaFlat3
import Derived.Maps.OwnSet
import Derived.Maps.Views
namespace Go.Proofs.Ytlbkcjpnlnlmiaa
open Go.RowKit Go.Maps

/-! ### what a call with such blocks keeps -/
/-- w' is w, but for the blocks of S, and with more blocks -/
structure KpS (S : Nat → Prop) (w w' : World) : Prop where
  os : w'.os = w.os
  tape : w'.tape = w.tape
  output : w'.output = w.output
  size : w.heap.size ≤ w'.heap.size
  block : ∀ k, k < w.heap.size → ¬ S k → w'.heap[k]? = w.heap[k]?
set_option maxRecDepth 20000 in
theorem KpS.mono {S S' : Nat → Prop} {w w' : World} (h : KpS S w w') (k : ∀ i, i < w.heap.size → S i → S' i) : KpS S' w w' := ⟨h.os, h.tape, h.output, h.size, fun i hi n => h.block i hi fun s => n (k i hi s)⟩
set_option maxRecDepth 20000 in
theorem KpS.trans {S S' : Nat → Prop} {a b c : World} (h : KpS S a b) (k : KpS S' b c) (q : ∀ i, i < a.heap.size → S' i → S i) : KpS S a c :=
  ⟨k.os.trans h.os, k.tape.trans h.tape, k.output.trans h.output, Nat.le_trans h.size k.size, fun i hi n => (k.block i (Nat.lt_of_lt_of_le hi h.size) fun s => n (q i hi s)).trans (h.block i hi n)⟩
set_option maxRecDepth 20000 in
theorem KpS.of_mo {S : Nat → Prop} {w w' : World} (h : Mo w w') : KpS S w w' := ⟨h.below.os, h.below.tape, h.below.output, h.below.size, fun i hi _ => h.below.block i hi⟩
set_option maxRecDepth 20000 in
theorem KpS.mo {S : Nat → Prop} {V w w' : World} (h : KpS S w w') (m : Mo V w) (s : ∀ k, k < w.heap.size → S k → V.heap.size ≤ k) : Mo V w' :=
  Mo.of (m.below.trans ⟨h.os, h.tape, h.output, Nat.le_trans m.size h.size |> fun _ => h.size, fun k hk => h.block k (Nat.lt_of_lt_of_le hk m.size) fun q => by have := s k (Nat.lt_of_lt_of_le hk m.size) q; omega⟩)
set_option maxRecDepth 20000 in
theorem KpS.of_row {S : Nat → Prop} {w w' : World} {g : Nat} (h : w.grownBy w' (some g)) (s : S g) : KpS S w w' :=
  ⟨h.os, h.tape, h.output, h.size, fun i hi n => h.block i hi fun e => n (by injection e with e; rw [e]; exact s)⟩
set_option maxRecDepth 20000 in
theorem kpS_setCell {S : Nat → Prop} (w : World) (g i : Nat) (v : Value) (s : S g) : KpS S w (w.setCell ⟨g, i, none⟩ v) :=
  ⟨rfl, rfl, rfl, by simp [World.setCell], fun k _ n => heap_setCell_other w ⟨g, i, none⟩ k v fun e => n (by rw [e]; exact s)⟩
set_option maxRecDepth 20000 in
theorem kpS_setRow {S : Nat → Prop} (w : World) (g : Nat) (cs : Array Value) (s : S g) : KpS S w (w.setRow g cs) :=
  ⟨rfl, rfl, rfl, Nat.le_of_eq (setRow_size' w g cs).symm, fun k _ n => setRow_get_ne w g k cs fun e => n (by rw [← e]; exact s)⟩
set_option maxRecDepth 20000 in
theorem KpS.refl (S : Nat → Prop) (w : World) : KpS S w w := KpS.of_mo (Mo.refl w)
set_option maxRecDepth 20000 in
theorem KpS.cell {S : Nat → Prop} {w w' : World} (h : KpS S w w') {g : Nat} (s : S g) (i : Nat) (v : Value) : KpS S w (w'.setCell ⟨g, i, none⟩ v) := h.trans (kpS_setCell w' g i v s) fun _ _ q => q
set_option maxRecDepth 20000 in
theorem KpS.row {S : Nat → Prop} {w w' : World} (h : KpS S w w') {g : Nat} (s : S g) (cs : Array Value) : KpS S w (w'.setRow g cs) := h.trans (kpS_setRow w' g cs s) fun _ _ q => q
set_option maxRecDepth 20000 in
theorem KpS.blk {S : Nat → Prop} {w w' : World} (h : KpS S w w') {g : Nat} {t : TypeId} {cs : Array Value} (b : Blk w g t cs) (n : ¬ S g) : Blk w' g t cs := ⟨(h.block g b.lt n).trans b.out⟩

/-! ### entries and nodes -/
structure En where
  k : Array Value
  a : Array Value
  d : Bool
structure EnOk (e : En) : Prop where
  k : Fits (ksOf 38) e.k.toList
  a : Fits (ksOf 40) e.a.toList
def enC (k a : Array Value) (d : Bool) : Array Value := k ++ a ++ #[.bool d]
def ndC (k a : Array Value) (d : Bool) (o n : Value) : Array Value := k ++ a ++ #[.bool d, o, n]
abbrev ptr (g : Nat) : Value := .pointer (some ⟨g, 0, none⟩)
abbrev nilp : Value := .pointer none
abbrev ndE (e : En) (o n : Value) : Array Value := ndC e.k e.a e.d o n
def firstP : List (Nat × En) → Value → Value
  | [], n => n
  | (g, _) :: _, _ => ptr g
def lastP : Value → List (Nat × En) → Value
  | p, [] => p
  | _, (g, _) :: l => lastP (ptr g) l
def Seg (W : World) : Value → List (Nat × En) → Value → Prop
  | _, [], _ => True
  | p, (g, e) :: l, n => Blk W g 80 (ndE e p (firstP l n)) ∧ Seg W (ptr g) l n
set_option maxRecDepth 20000 in
theorem firstP_append : ∀ (a c : List (Nat × En)) (n : Value), firstP (a ++ c) n = firstP a (firstP c n)
  | [], _, _ => rfl
  | (_, _) :: _, _, _ => rfl
set_option maxRecDepth 20000 in
theorem lastP_append : ∀ (p : Value) (a c : List (Nat × En)), lastP p (a ++ c) = lastP (lastP p a) c
  | _, [], _ => rfl
  | _, (_, _) :: l, c => lastP_append _ l c
set_option maxRecDepth 20000 in
theorem lastP_snoc (p : Value) (a : List (Nat × En)) (g : Nat) (e : En) : lastP p (a ++ [(g, e)]) = ptr g := by rw [lastP_append]; rfl
set_option maxRecDepth 20000 in
theorem firstP_snoc (a : List (Nat × En)) (g : Nat) (e : En) (n : Value) : firstP (a ++ [(g, e)]) n = firstP a (ptr g) := firstP_append _ _ _
set_option maxRecDepth 20000 in
theorem seg_append {W : World} : ∀ (p : Value) (a c : List (Nat × En)) (n : Value), Seg W p (a ++ c) n ↔ Seg W p a (firstP c n) ∧ Seg W (lastP p a) c n
  | p, [], c, n => by simp [Seg, lastP]
  | p, (g, e) :: l, c, n => by
    simp only [List.cons_append, Seg, firstP_append, lastP]
    rw [seg_append (ptr g) l c n, and_assoc]
set_option maxRecDepth 20000 in
theorem seg_keep {W w' : World} : ∀ {p : Value} {l : List (Nat × En)} {n : Value}, Seg W p l n → (∀ q ∈ l, w'.heap[q.1]? = W.heap[q.1]?) → Seg w' p l n
  | _, [], _, _, _ => trivial
  | _, (g, _) :: _, _, h, k => ⟨⟨(k (g, _) List.mem_cons_self).trans h.1.out⟩, seg_keep h.2 fun q hq => k q (List.mem_cons_of_mem _ hq)⟩
set_option maxRecDepth 20000 in
theorem seg_blk {W : World} : ∀ {p : Value} {l : List (Nat × En)} {n : Value}, Seg W p l n → ∀ q ∈ l, ∃ o x, Blk W q.1 80 (ndE q.2 o x)
  | _, [], _, _, q, hq => by cases hq
  | p, (g, e) :: l, n, h, q, hq => by
    rcases List.mem_cons.1 hq with rfl | hq
    · exact ⟨_, _, h.1⟩
    · exact seg_blk h.2 q hq
set_option maxRecDepth 20000 in
theorem seg_lt {W : World} {p : Value} {l : List (Nat × En)} {n : Value} (h : Seg W p l n) : ∀ q ∈ l, q.1 < W.heap.size := fun q hq => by
  obtain ⟨_, _, b⟩ := seg_blk h q hq
  exact b.lt
section
variable {k a : Array Value} {d : Bool} {o n v : Value} [hk : SzA k 37] [ha : SzA a 2]
set_option maxRecDepth 20000 in
theorem nd_size : (ndC k a d o n).size = 42 := by unfold ndC; simp [hk.out, ha.out]
set_option maxRecDepth 20000 in
theorem en_size : (enC k a d).size = 40 := by unfold enC; simp [hk.out, ha.out]
set_option maxRecDepth 20000 in
theorem nd_old : (ndC k a d o n)[40]? = some o := by
  unfold ndC
  rw [Array.getElem?_append_right (by simp [hk.out, ha.out])]
  simp [hk.out, ha.out]
set_option maxRecDepth 20000 in
theorem nd_new : (ndC k a d o n)[41]? = some n := by
  unfold ndC
  rw [Array.getElem?_append_right (by simp [hk.out, ha.out])]
  simp [hk.out, ha.out]
set_option maxRecDepth 20000 in
theorem nd_ans : (ndC k a d o n)[39]? = some (.bool d) := by
  unfold ndC
  rw [Array.getElem?_append_right (by simp [hk.out, ha.out])]
  simp [hk.out, ha.out]
set_option maxRecDepth 20000 in
theorem nd_set (i : Nat) (hi : 39 ≤ i) : (ndC k a d o n).setIfInBounds i v = k ++ a ++ #[.bool d, o, n].setIfInBounds (i - 39) v := by
  unfold ndC
  have hs : (k ++ a).size = 39 := by simp [hk.out, ha.out]
  generalize k ++ a = m at *
  generalize hr : #[Value.bool d, o, n] = r
  refine Array.ext_getElem? fun j => ?_
  rw [Array.getElem?_setIfInBounds, Array.getElem?_append, Array.getElem?_append, hs, Array.getElem?_setIfInBounds, Array.size_append, hs]
  by_cases c : i = j
  · subst c
    rw [if_pos rfl, if_neg (show ¬ i < 39 by omega), if_pos rfl]
    by_cases q : i < 39 + r.size
    · rw [if_pos q, if_pos (by omega)]
    · rw [if_neg q, if_neg (by omega)]
  · rw [if_neg c]
    by_cases q : j < 39
    · rw [if_pos q, if_pos q]
    · rw [if_neg q, if_neg q, if_neg (by omega)]
set_option maxRecDepth 20000 in
theorem ext_left (m r : Array Value) (n : Nat) (h : m.size = n) : (m ++ r).extract 0 n = m := by
  subst h
  refine Array.ext_getElem? fun j => ?_
  rw [Array.getElem?_extract]
  by_cases c : j < m.size
  · rw [if_pos (by simp; omega), Array.getElem?_append, if_pos (by omega), Nat.zero_add]
  · rw [if_neg (by simp; omega), Array.getElem?_eq_none (by omega)]
set_option maxRecDepth 20000 in
theorem nd_set39 {b : Bool} : (ndC k a d o n).setIfInBounds 39 (.bool b) = ndC k a b o n := nd_set 39 (by omega)
set_option maxRecDepth 20000 in
theorem nd_set40 : (ndC k a d o n).setIfInBounds 40 v = ndC k a d v n := nd_set 40 (by omega)
set_option maxRecDepth 20000 in
theorem nd_set41 : (ndC k a d o n).setIfInBounds 41 v = ndC k a d o v := nd_set 41 (by omega)
omit ha in
set_option maxRecDepth 20000 in
theorem nd_key : (ndC k a d o n).extract 0 37 = k := by
  unfold ndC
  rw [Array.append_assoc]
  exact ext_left _ _ _ hk.out
set_option maxRecDepth 20000 in
theorem nd_en : (ndC k a d o n).extract 0 40 = enC k a d := by
  have e : ndC k a d o n = enC k a d ++ #[o, n] := by
    unfold ndC enC
    have e : #[Value.bool d, o, n] = #[Value.bool d] ++ #[o, n] := rfl
    rw [e]
    exact Array.append_assoc.symm
  rw [e]
  exact ext_left _ _ _ en_size
end
/-! ### the map of the nodes -/
def ptrR : Value → Option (DataW Unit × List MemPlace)
  | .pointer none => some (.lit (.int .i64 (-1)), [])
  | .pointer (some ⟨g, 0, none⟩) => some (.lit (.int .i64 g), [])
  | _ => none
set_option maxRecDepth 20000 in
theorem ptrR_ptr {v : Value} {g : Nat} {ps : List MemPlace} (h : ptrR v = some (.lit (.int .i64 g), ps)) : v = ptr g := by
  unfold ptrR at h
  split at h
  · simp only [Option.some.injEq, Prod.mk.injEq] at h
    have := h.1
    injection this with this
    injection this with _ this
    omega
  · rename_i q
    simp only [Option.some.injEq, Prod.mk.injEq] at h
    have := h.1
    injection this with this
    injection this with _ this
    have : q = g := by omega
    rw [this]
  · cases h
set_option maxRecDepth 20000 in
theorem ptrR_nil {v : Value} {ps : List MemPlace} (h : ptrR v = some (.lit (.int .i64 (-1)), ps)) : v = nilp := by
  unfold ptrR at h
  split at h
  · rfl
  · rename_i q
    simp only [Option.some.injEq, Prod.mk.injEq] at h
    have := h.1
    injection this with this
    injection this with _ this
    omega
  · cases h
abbrev KeyP (k : Array Value) : Prop := Fits (ksOf 38) k.toList
noncomputable def litK (k : Array Value) : Lit := (keyOf Try.prog 38 (.agg k)).getD (.bool false)
set_option maxRecDepth 20000 in
theorem litK_eq {k : Array Value} (h : KeyP k) : keyOf Try.prog 38 (.agg k) = some (litK k) := by
  obtain ⟨l, e⟩ := key_flat fl_key h
  unfold litK
  rw [e]; rfl
set_option maxRecDepth 20000 in
theorem litK_inj {k k' : Array Value} (h : KeyP k) (h' : KeyP k') (e : litK k = litK k') : k = k' := by
  have h1 := litK_eq h
  have h2 := litK_eq h'
  rw [← e] at h2
  have := (law_flat fl_key).inj h1 h2
  injection this
set_option maxRecDepth 20000 in
theorem litK_key {k : Array Value} (h : KeyP k) : WideAt.IsKeyLit (litK k) := (law_flat fl_key).key (litK_eq h)
set_option maxRecDepth 20000 in
theorem under_map : Try.prog.underlying 72 = some (.map 38 73) := by kernel_rfl
set_option maxRecDepth 20000 in
theorem zero_node (w : World) : (zeroValue 73).run Try.prog w = .ok nilp w := by rfl
abbrev zdN : DataW Unit := .lit (.int .i64 (-1))
def MapIs (W : World) (B : Nat) (L : List (Nat × En)) : Prop :=
  ∃ D : DataW Unit, W.ownsMap Try.prog 38 ptrR B L.length D ∧ Tidy D ∧ size D = L.length ∧ (∀ q ∈ L, D.atKey (litK q.2.k) zdN = .lit (.int .i64 q.1)) ∧ ∀ kl, has D kl = true ↔ ∃ q ∈ L, litK q.2.k = kl
set_option maxRecDepth 20000 in
theorem ownsMap_tight {W : World} {B n : Nat} {D : DataW Unit} (h : W.ownsMap Try.prog 38 ptrR B n D) : W.ownsMap Try.prog 38 ptrR B (size D) D := by
  obtain ⟨es, clock, hb, F, hs, rfl⟩ := h
  exact ⟨es, clock, hb, F, by simp [size, length_sorted], rfl⟩
set_option maxRecDepth 20000 in
theorem MapIs.keep {W w' : World} {B : Nat} {L : List (Nat × En)} (h : MapIs W B L) (k : w'.heap[B]? = W.heap[B]?) : MapIs w' B L := by
  obtain ⟨D, ⟨es, clock, hb, F, hs, e⟩, r⟩ := h
  exact ⟨D, ⟨es, clock, k.trans hb, F, hs, e⟩, r⟩
set_option maxRecDepth 20000 in
theorem MapIs.made (w : World) : MapIs (w.alloc (.map #[] 0)) w.heap.size [] :=
  ⟨.map [], World.ownsMap_made w _ _ _, tidy_empty, rfl, fun q hq => (by cases hq), fun kl => (by simp [has])⟩
set_option maxRecDepth 20000 in
theorem MapIs.isMap {W : World} {B : Nat} {L : List (Nat × En)} (h : MapIs W B L) : ∃ es clock, W.heap[B]? = some (.map es clock) := by
  obtain ⟨D, ⟨es, clock, hb, _⟩, _⟩ := h
  exact ⟨es, clock, hb⟩
set_option maxRecDepth 20000 in
theorem MapIs.yes {W : World} {B : Nat} {L : List (Nat × En)} (h : MapIs W B L) {g : Nat} {e : En} (hq : (g, e) ∈ L) (he : KeyP e.k) :
    (Instr.lookup 72 (.map (some B)) (.agg e.k) true).run Try.prog W = .ok (.tuple #[ptr g, .bool true]) W := by
  obtain ⟨D, ho, ht, hs, ha, hh⟩ := h
  obtain ⟨v, ps, hrun, hv⟩ := ho.look_ok (law_flat fl_key) under_map (zero_node W) (zd := zdN) (zp := []) rfl (litK_eq he)
  rw [ha _ hq] at hv
  rw [ptrR_ptr hv, (hh _).2 ⟨_, hq, rfl⟩] at hrun
  exact hrun
set_option maxRecDepth 20000 in
theorem MapIs.no {W : World} {B : Nat} {L : List (Nat × En)} (h : MapIs W B L) {k : Array Value} (hk : KeyP k) (ok : ∀ q ∈ L, KeyP q.2.k) (hn : ∀ q ∈ L, q.2.k ≠ k) :
    (Instr.lookup 72 (.map (some B)) (.agg k) true).run Try.prog W = .ok (.tuple #[nilp, .bool false]) W := by
  obtain ⟨D, ho, ht, hs, ha, hh⟩ := h
  obtain ⟨v, ps, hrun, hv⟩ := ho.look_ok (law_flat fl_key) under_map (zero_node W) (zd := zdN) (zp := []) rfl (litK_eq hk)
  have hf : has D (litK k) = false := by
    rw [Bool.eq_false_iff]
    intro h
    obtain ⟨q, hq, e⟩ := (hh _).1 h
    exact hn q hq (litK_inj (ok q hq) hk e)
  rw [atKey_of_not_has hf] at hv
  rw [hf, ptrR_nil hv] at hrun
  exact hrun
set_option maxRecDepth 20000 in
theorem MapIs.len {W : World} {B : Nat} {L : List (Nat × En)} (h : MapIs W B L) (ty : TypeId) : (Builtin.len_ #[72] ty #[.map (some B)]).run Try.prog W = .ok (.int .i64 L.length) W := by
  obtain ⟨D, ho, ht, hs, ha, hh⟩ := h
  rw [← hs]
  exact ho.len under_map ty
set_option maxRecDepth 20000 in
theorem MapIs.drop {W : World} {B : Nat} {A C : List (Nat × En)} {g : Nat} {e : En} (h : MapIs W B (A ++ (g, e) :: C)) (ok : ∀ q ∈ A ++ (g, e) :: C, KeyP q.2.k) (nd : ((A ++ (g, e) :: C).map (·.2.k)).Nodup) (ty : TypeId) :
    ∃ w', (Builtin.delete_ #[72, 38] ty #[.map (some B), .agg e.k]).run Try.prog W = .ok (.tuple #[]) w' ∧ MapIs w' B (A ++ C) ∧ W.mapTurned w' B := by
  obtain ⟨D, ho, ht, hs, ha, hh⟩ := h
  have hmem : (g, e) ∈ A ++ (g, e) :: C := List.mem_append_right _ List.mem_cons_self
  have he := ok _ hmem
  obtain ⟨w', hrun, ho', hm⟩ := ho.drop (law_flat fl_key) under_map (litK_eq he) ty
  refine ⟨w', hrun, ?_, hm⟩
  have hne : ∀ q ∈ A ++ C, litK q.2.k ≠ litK e.k := by
    intro q hq e1
    have e2 := litK_inj (ok q (by rcases List.mem_append.1 hq with h | h; exact List.mem_append_left _ h; exact List.mem_append_right _ (List.mem_cons_of_mem _ h))) he e1
    rw [List.map_append, List.map_cons, List.nodup_append] at nd
    obtain ⟨-, n2, n3⟩ := nd
    rcases List.mem_append.1 hq with h | h
    · exact n3 _ (List.mem_map_of_mem h) _ List.mem_cons_self e2
    · rw [List.nodup_cons] at n2
      exact n2.1 (e2 ▸ List.mem_map_of_mem (f := fun q : Nat × En => q.2.k) h)
  have hb : has D (litK e.k) = true := (hh _).2 ⟨_, hmem, rfl⟩
  have hsz : size (D.del (litK e.k)) = (A ++ C).length := by
    have := size_del (k := litK e.k) ht
    rw [hb, if_pos rfl, hs] at this
    simp only [List.length_append, List.length_cons] at this ⊢
    omega
  refine ⟨D.del (litK e.k), ?_, ht.del _, hsz, fun q hq => ?_, fun kl => ?_⟩
  · rw [← hsz]; exact ownsMap_tight ho'
  · rw [atKey_del_other (hne q hq)]
    exact ha q (by rcases List.mem_append.1 hq with h | h; exact List.mem_append_left _ h; exact List.mem_append_right _ (List.mem_cons_of_mem _ h))
  · by_cases c : kl = litK e.k
    · subst c
      rw [has_del_same]
      constructor
      · intro h; cases h
      · rintro ⟨q, hq, e1⟩; exact absurd e1 (hne q hq)
    · rw [has_del_other c, hh]
      constructor
      · rintro ⟨q, hq, e1⟩
        rcases List.mem_append.1 hq with h | h
        · exact ⟨q, List.mem_append_left _ h, e1⟩
        · rcases List.mem_cons.1 h with rfl | h
          · exact absurd e1.symm c
          · exact ⟨q, List.mem_append_right _ h, e1⟩
      · rintro ⟨q, hq, e1⟩
        exact ⟨q, by rcases List.mem_append.1 hq with h | h; exact List.mem_append_left _ h; exact List.mem_append_right _ (List.mem_cons_of_mem _ h), e1⟩
set_option maxRecDepth 20000 in
theorem MapIs.put {W : World} {B : Nat} {L : List (Nat × En)} {g : Nat} {e : En} (h : MapIs W B L) (hl : L.length < maxLen) (ok : ∀ q ∈ L, KeyP q.2.k) (he : KeyP e.k) (hn : ∀ q ∈ L, q.2.k ≠ e.k) :
    ∃ w', (Instr.mapUpdate 72 (.map (some B)) (.agg e.k) (ptr g)).run Try.prog W = .ok () w' ∧ MapIs w' B (L ++ [(g, e)]) ∧ W.mapTurned w' B := by
  obtain ⟨D, ho, ht, hs, ha, hh⟩ := h
  obtain ⟨w', hrun, ho', hm⟩ := ho.store (law_flat fl_key) under_map hl (litK_eq he) (val := ptr g) (d := .lit (.int .i64 g)) (ps := []) rfl
  refine ⟨w', hrun, ?_, hm⟩
  have hne : ∀ q ∈ L, litK q.2.k ≠ litK e.k := fun q hq e1 => hn q hq (litK_inj (ok q hq) he e1)
  have hf : has D (litK e.k) = false := by
    rw [Bool.eq_false_iff]
    intro h
    obtain ⟨q, hq, e1⟩ := (hh _).1 h
    exact hne q hq e1
  have hk := litK_key he
  refine ⟨D.put (litK e.k) (.lit (.int .i64 g)), by rw [List.length_append]; exact ho', ht.put hk _, ?_, fun q hq => ?_, fun kl => ?_⟩
  · rw [size_put ht, hf, hs, List.length_append]; rfl
  · rcases List.mem_append.1 hq with h | h
    · rw [atKey_put_other (hne q h)]; exact ha q h
    · rw [List.mem_singleton] at h
      subst h
      exact atKey_put_same ht.isMap hk _ _
  · by_cases c : kl = litK e.k
    · subst c
      rw [has_put_same ht.isMap hk]
      exact ⟨fun _ => ⟨(g, e), List.mem_append_right _ (List.mem_singleton.2 rfl), rfl⟩, fun _ => rfl⟩
    · rw [has_put_other c, hh]
      constructor
      · rintro ⟨q, hq, e1⟩; exact ⟨q, List.mem_append_left _ hq, e1⟩
      · rintro ⟨q, hq, e1⟩
        rcases List.mem_append.1 hq with h | h
        · exact ⟨q, h, e1⟩
        · rw [List.mem_singleton] at h
          subst h
          exact absurd e1.symm c
/-! ### the table -/
structure TabAt (W : World) (T B : Nat) (room : Int) (L : List (Nat × En)) : Prop where
  t : Blk W T 75 #[.int .i64 room, .map (some B), firstP L nilp, lastP nilp L]
  seg : Seg W nilp L nilp
  nod : (L.map (·.1)).Nodup
  nT : ∀ q ∈ L, q.1 ≠ T
  map : MapIs W B L
  keys : (L.map (·.2.k)).Nodup
  ok : ∀ q ∈ L, EnOk q.2
def Foot (T B : Nat) (L : List (Nat × En)) (k : Nat) : Prop := k = T ∨ k = B ∨ ∃ q ∈ L, q.1 = k
set_option maxRecDepth 20000 in
theorem TabAt.nB {W : World} {T B : Nat} {room : Int} {L : List (Nat × En)} (h : TabAt W T B room L) : ∀ q ∈ L, q.1 ≠ B := by
  intro q hq e
  obtain ⟨o, x, b⟩ := seg_blk h.seg q hq
  obtain ⟨es, clock, hb⟩ := h.map.isMap
  have h1 := b.out
  rw [e, hb] at h1
  cases h1
set_option maxRecDepth 20000 in
theorem TabAt.nTB {W : World} {T B : Nat} {room : Int} {L : List (Nat × En)} (h : TabAt W T B room L) : T ≠ B := by
  intro e
  obtain ⟨es, clock, hb⟩ := h.map.isMap
  have h1 := h.t.out
  rw [e, hb] at h1
  cases h1
set_option maxRecDepth 20000 in
theorem TabAt.keep {W w' : World} {T B : Nat} {room : Int} {L : List (Nat × En)} (h : TabAt W T B room L) (k : ∀ i, i < W.heap.size → Foot T B L i → w'.heap[i]? = W.heap[i]?) : TabAt w' T B room L :=
  ⟨⟨(k T h.t.lt (.inl rfl)).trans h.t.out⟩, seg_keep h.seg fun q hq => k q.1 (seg_lt h.seg q hq) (.inr (.inr ⟨q, hq, rfl⟩)), h.nod, h.nT, h.map.keep (k B (by obtain ⟨_, _, hb⟩ := h.map.isMap; exact (Array.getElem?_eq_some_iff.1 hb).1) (.inr (.inl rfl))), h.keys, h.ok⟩
set_option maxRecDepth 20000 in
theorem TabAt.mo {W w' : World} {T B : Nat} {room : Int} {L : List (Nat × En)} (h : TabAt W T B room L) (k : Mo W w') : TabAt w' T B room L := h.keep fun i hi _ => k.below.block i hi
set_option maxRecDepth 20000 in
theorem TabAt.lt {W : World} {T B : Nat} {room : Int} {L : List (Nat × En)} (h : TabAt W T B room L) : ∀ i, Foot T B L i → i < W.heap.size := by
  rintro i (rfl | rfl | ⟨q, hq, rfl⟩)
  · exact h.t.lt
  · obtain ⟨_, _, hb⟩ := h.map.isMap; exact (Array.getElem?_eq_some_iff.1 hb).1
  · exact seg_lt h.seg q hq
end Go.Proofs.Ytlbkcjpnlnlmiaa
