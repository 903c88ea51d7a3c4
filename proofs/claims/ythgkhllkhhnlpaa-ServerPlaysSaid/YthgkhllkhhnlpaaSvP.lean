/- server: deeds, plain: the names, what is kept of each, what all come to. -/
import Derived.Test.YthgkhllkhhnlpaaSvI2
namespace Go.Proofs.Ythgkhllkhhnlpaa
open Go.RowKit Go.Maps

structure Deed where
  put : Bool
  a : Array Value
  k : Nat
  S : Smp
structure DeedOk (d : Deed) : Prop where
  a : AdrS d.a
  k : d.k < 256
  S : SmpOk d.S
def whoD (d : Deed) : Array Value := if d.put then smpA d.S else d.a
set_option maxRecDepth 20000 in
theorem whoD_ok {d : Deed} (h : DeedOk d) : AdrS (whoD d) := by
  by_cases c : d.put = true
  · have e : whoD d = smpA d.S := by unfold whoD; rw [if_pos c]
    rw [e]
    exact h.S.a
  · have e : whoD d = d.a := by unfold whoD; rw [if_neg c]
    rw [e]
    exact h.a
def actE (x : Int) (E : Ent) (d : Deed) : Ent := if d.put then putE x E d.S else if d.k < 9 then incE E d.k else E
def actO (E : Ent) (d : Deed) : Ent := if d.put then sumE E d.S else if d.k < 9 then incE E d.k else E
set_option maxRecDepth 20000 in
theorem actE_a (x : Int) (E : Ent) (d : Deed) : (actE x E d).a = E.a := by
  unfold actE
  split
  · exact putE_a x E d.S
  · split <;> rfl
/-- what a deed does to the entry that it finds -/
def actQ (x : Int) (d : Deed) (q : Option Nat) (E : Ent) : Ent := if q.isSome then actE x E d else actO E d
open Classical in
noncomputable def nmS (sv : Int) (l : List Deed) : List (Array Value) := l.foldl (fun ns d => if whoD d ∈ ns ∨ sv ≤ ns.length then ns else ns ++ [whoD d]) []
open Classical in
noncomputable def ofA (a : Array Value) (l : List Deed) : List Deed := l.filter fun d => decide (whoD d = a)
open Classical in
noncomputable def notIn (ns : List (Array Value)) (l : List Deed) : List Deed := l.filter fun d => decide (whoD d ∉ ns)
noncomputable def entF (x : Int) (D0 : Sd) (a : Array Value) (l : List Deed) : Ent := (ofA a l).foldl (actE x) (ent0 a D0)
noncomputable def othF (oD : Sd) (ns : List (Array Value)) (l : List Deed) : Ent := (notIn ns l).foldl actO (ent0 adr0 oD)
set_option maxRecDepth 20000 in
theorem nm_nil (sv : Int) : nmS sv [] = [] := rfl
set_option maxRecDepth 20000 in
open Classical in
theorem nm_snoc (sv : Int) (l : List Deed) (d : Deed) : nmS sv (l ++ [d]) = if whoD d ∈ nmS sv l ∨ sv ≤ (nmS sv l).length then nmS sv l else nmS sv l ++ [whoD d] := by
  unfold nmS
  rw [List.foldl_append]
  rfl
set_option maxRecDepth 20000 in
theorem nm_old {sv : Int} {l : List Deed} {d : Deed} (h : whoD d ∈ nmS sv l ∨ sv ≤ (nmS sv l).length) : nmS sv (l ++ [d]) = nmS sv l := by rw [nm_snoc, if_pos h]
set_option maxRecDepth 20000 in
theorem nm_new {sv : Int} {l : List Deed} {d : Deed} (h : whoD d ∉ nmS sv l) (h' : ((nmS sv l).length : Int) < sv) : nmS sv (l ++ [d]) = nmS sv l ++ [whoD d] := by rw [nm_snoc, if_neg (fun q => q.elim h (by omega))]
set_option maxRecDepth 20000 in
theorem snoc_indD {α : Type} {p : List α → Prop} (h0 : p []) (h1 : ∀ l x, p l → p (l ++ [x])) (l : List α) : p l := by
  have : ∀ n, ∀ l : List α, l.length = n → p l := by
    intro n
    induction n with
    | zero => intro l h; rw [List.length_eq_zero_iff.1 h]; exact h0
    | succ n ih =>
      intro l h
      have hn : l ≠ [] := fun e => by rw [e] at h; cases h
      rw [← List.dropLast_concat_getLast hn]
      exact h1 _ _ (ih _ (by rw [List.length_dropLast]; omega))
  exact this _ l rfl
set_option maxRecDepth 20000 in
theorem nm_nodup (sv : Int) (l : List Deed) : (nmS sv l).Nodup := by
  refine snoc_indD (p := fun l => (nmS sv l).Nodup) (by rw [nm_nil]; exact List.nodup_nil) (fun l d ih => ?_) l
  by_cases c : whoD d ∈ nmS sv l ∨ sv ≤ (nmS sv l).length
  · rw [nm_old c]; exact ih
  · rw [nm_new (fun h => c (.inl h)) (Int.not_le.1 fun h => c (.inr h)), List.nodup_append]
    refine ⟨ih, by simp, fun x hx y hy e => ?_⟩
    rw [List.mem_singleton] at hy
    exact c (.inl (hy ▸ e ▸ hx))
set_option maxRecDepth 20000 in
theorem nm_le {sv : Int} (h : 0 ≤ sv) (l : List Deed) : ((nmS sv l).length : Int) ≤ sv := by
  refine snoc_indD (p := fun l => ((nmS sv l).length : Int) ≤ sv) (by rw [nm_nil]; simpa using h) (fun l d ih => ?_) l
  by_cases c : whoD d ∈ nmS sv l ∨ sv ≤ (nmS sv l).length
  · rw [nm_old c]; exact ih
  · have c2 := Int.not_le.1 fun h => c (.inr h)
    rw [nm_new (fun h => c (.inl h)) c2, List.length_append, List.length_singleton]
    omega
set_option maxRecDepth 20000 in
theorem nm_room (sv : Int) (l : List Deed) : ((nmS sv l).length : Int) < sv → ∀ d ∈ l, whoD d ∈ nmS sv l := by
  refine snoc_indD (p := fun l => ((nmS sv l).length : Int) < sv → ∀ d ∈ l, whoD d ∈ nmS sv l) (fun _ d hd => by cases hd) (fun l d ih => ?_) l
  intro h e he
  by_cases c : whoD d ∈ nmS sv l ∨ sv ≤ (nmS sv l).length
  · rw [nm_old c] at h ⊢
    rcases List.mem_append.1 he with he | he
    · exact ih h e he
    · rw [List.mem_singleton] at he
      subst he
      exact c.resolve_right (by omega)
  · have c2 := Int.not_le.1 fun h => c (.inr h)
    rw [nm_new (fun h => c (.inl h)) c2]
    rcases List.mem_append.1 he with he | he
    · exact List.mem_append_left _ (ih c2 e he)
    · rw [List.mem_singleton] at he
      subst he
      exact List.mem_append_right _ (List.mem_singleton.2 rfl)
set_option maxRecDepth 20000 in
theorem nm_mem {sv : Int} (l : List Deed) : ∀ a ∈ nmS sv l, ∃ d ∈ l, whoD d = a := by
  refine snoc_indD (p := fun l => ∀ a ∈ nmS sv l, ∃ d ∈ l, whoD d = a) (fun a h => by rw [nm_nil] at h; cases h) (fun l d ih => ?_) l
  intro a ha
  by_cases c : whoD d ∈ nmS sv l ∨ sv ≤ (nmS sv l).length
  · rw [nm_old c] at ha
    obtain ⟨e, h1, h2⟩ := ih a ha
    exact ⟨e, List.mem_append_left _ h1, h2⟩
  · rw [nm_new (fun h => c (.inl h)) (Int.not_le.1 fun h => c (.inr h))] at ha
    rcases List.mem_append.1 ha with ha | ha
    · obtain ⟨e, h1, h2⟩ := ih a ha
      exact ⟨e, List.mem_append_left _ h1, h2⟩
    · rw [List.mem_singleton] at ha
      exact ⟨d, List.mem_append_right _ (List.mem_singleton.2 rfl), ha.symm⟩
set_option maxRecDepth 20000 in
theorem ofA_snoc_yes {a : Array Value} {l : List Deed} {d : Deed} (h : whoD d = a) : ofA a (l ++ [d]) = ofA a l ++ [d] := by
  unfold ofA
  rw [List.filter_append]
  simp [h]
set_option maxRecDepth 20000 in
theorem ofA_snoc_no {a : Array Value} {l : List Deed} {d : Deed} (h : whoD d ≠ a) : ofA a (l ++ [d]) = ofA a l := by
  unfold ofA
  rw [List.filter_append]
  simp [h]
set_option maxRecDepth 20000 in
theorem ofA_none {a : Array Value} {l : List Deed} (h : ∀ d ∈ l, whoD d ≠ a) : ofA a l = [] := by
  unfold ofA
  rw [List.filter_eq_nil_iff]
  intro d hd
  simpa using h d hd
set_option maxRecDepth 20000 in
theorem ofA_who {a : Array Value} {l : List Deed} : ∀ d ∈ ofA a l, whoD d = a := fun d hd => by
  unfold ofA at hd
  simpa using (List.mem_filter.1 hd).2
set_option maxRecDepth 20000 in
open Classical in
theorem ofA_idem {a : Array Value} (l : List Deed) : ofA a (ofA a l) = ofA a l := by
  have e : ofA a (ofA a l) = (ofA a l).filter (fun d => decide (whoD d = a)) := rfl
  rw [e, List.filter_eq_self]
  intro d hd
  simpa using ofA_who d hd
set_option maxRecDepth 20000 in
theorem notIn_snoc_yes {ns : List (Array Value)} {l : List Deed} {d : Deed} (h : whoD d ∉ ns) : notIn ns (l ++ [d]) = notIn ns l ++ [d] := by
  unfold notIn
  rw [List.filter_append]
  simp [h]
set_option maxRecDepth 20000 in
theorem notIn_snoc_no {ns : List (Array Value)} {l : List Deed} {d : Deed} (h : whoD d ∈ ns) : notIn ns (l ++ [d]) = notIn ns l := by
  unfold notIn
  rw [List.filter_append]
  simp [h]
set_option maxRecDepth 20000 in
theorem notIn_none {ns : List (Array Value)} {l : List Deed} (h : ∀ d ∈ l, whoD d ∈ ns) : notIn ns l = [] := by
  unfold notIn
  rw [List.filter_eq_nil_iff]
  intro d hd
  simpa using h d hd
set_option maxRecDepth 20000 in
theorem entF_a (x : Int) (D0 : Sd) (a : Array Value) (l : List Deed) : (entF x D0 a l).a = a := by
  unfold entF
  have : ∀ (L : List Deed) (E : Ent), (L.foldl (actE x) E).a = E.a := by
    intro L
    induction L with
    | nil => intro E; rfl
    | cons d L ih => intro E; rw [List.foldl_cons, ih, actE_a]
  rw [this]
  rfl
set_option maxRecDepth 20000 in
theorem entF_snoc_yes {x : Int} {D0 : Sd} {a : Array Value} {l : List Deed} {d : Deed} (h : whoD d = a) : entF x D0 a (l ++ [d]) = actE x (entF x D0 a l) d := by
  unfold entF
  rw [ofA_snoc_yes h, List.foldl_append]
  rfl
set_option maxRecDepth 20000 in
theorem entF_snoc_no {x : Int} {D0 : Sd} {a : Array Value} {l : List Deed} {d : Deed} (h : whoD d ≠ a) : entF x D0 a (l ++ [d]) = entF x D0 a l := by
  unfold entF
  rw [ofA_snoc_no h]
/-- a table behind some deeds -/
structure TSt (sv x : Int) (D0 oD : Sd) (l : List Deed) (es : List Ent) (ot : Ent) : Prop where
  es : es = (nmS sv l).map fun a => entF x D0 a l
  ot : ot = othF oD (nmS sv l) l
set_option maxRecDepth 20000 in
theorem TSt.nil (sv x : Int) (D0 oD : Sd) : TSt sv x D0 oD [] [] (ent0 adr0 oD) := ⟨rfl, rfl⟩
set_option maxRecDepth 20000 in
theorem TSt.adr {sv x : Int} {D0 oD : Sd} {l : List Deed} {es : List Ent} {ot : Ent} (h : TSt sv x D0 oD l es ot) : es.map (·.a) = nmS sv l := by
  rw [h.es, List.map_map]
  refine (List.map_congr_left fun a _ => ?_).trans (List.map_id _)
  exact entF_a x D0 a l
set_option maxRecDepth 20000 in
theorem TSt.len {sv x : Int} {D0 oD : Sd} {l : List Deed} {es : List Ent} {ot : Ent} (h : TSt sv x D0 oD l es ot) : es.length = (nmS sv l).length := by rw [← h.adr, List.length_map]
set_option maxRecDepth 20000 in
theorem TSt.get {sv x : Int} {D0 oD : Sd} {l : List Deed} {es : List Ent} {ot : Ent} (h : TSt sv x D0 oD l es ot) {i : Nat} {E : Ent} (hi : es[i]? = some E) : (nmS sv l)[i]? = some E.a ∧ E = entF x D0 E.a l := by
  rw [h.es, List.getElem?_map] at hi
  cases ha : (nmS sv l)[i]? with
  | none => rw [ha] at hi; cases hi
  | some a =>
    rw [ha] at hi
    have hi' : entF x D0 a l = E := by simpa using hi
    rw [← hi', entF_a]
    exact ⟨rfl, rfl⟩
set_option maxRecDepth 20000 in
theorem nodup_inj {α : Type} : ∀ {l : List α} {i j : Nat} {x : α}, l.Nodup → l[i]? = some x → l[j]? = some x → i = j := by
  intro l
  induction l with
  | nil => intro i j x _ h; cases h
  | cons a l ih =>
    intro i j x hn h1 h2
    rw [List.nodup_cons] at hn
    cases i with
    | zero =>
      cases j with
      | zero => rfl
      | succ j =>
        simp only [List.getElem?_cons_zero, Option.some.injEq] at h1
        simp only [List.getElem?_cons_succ] at h2
        subst h1
        exact absurd (List.mem_of_getElem? h2) hn.1
    | succ i =>
      cases j with
      | zero =>
        simp only [List.getElem?_cons_zero, Option.some.injEq] at h2
        simp only [List.getElem?_cons_succ] at h1
        subst h2
        exact absurd (List.mem_of_getElem? h1) hn.1
      | succ j =>
        simp only [List.getElem?_cons_succ] at h1 h2
        rw [ih hn.2 h1 h2]
set_option maxRecDepth 20000 in
/-- one deed more -/
theorem TSt.step {sv x : Int} {D0 oD : Sd} {l : List Deed} {es es1 : List Ent} {ot : Ent} (h : TSt sv x D0 oD l es ot) {d : Deed} {q : Option Nat} (p : OfP sv D0 (whoD d) es es1 q) :
    TSt sv x D0 oD (l ++ [d]) (chg (actQ x d q) es1 ot q).1 (chg (actQ x d q) es1 ot q).2 := by
  have had := h.adr
  have hln := h.len
  cases p with
  | @yes i E hi e =>
    have hn := h.get hi
    have hm : whoD d ∈ nmS sv l := by rw [← e]; exact List.mem_of_getElem? hn.1
    have hnm := nm_old (sv := sv) (l := l) (d := d) (.inl hm)
    have e1 : (chg (actQ x d (some i)) es ot (some i)) = (es.set i (actE x E d), ot) := by
      show ((match es[i]? with | some E => es.set i (actQ x d (some i) E) | none => es), ot) = _
      rw [hi]; rfl
    rw [e1]
    refine ⟨?_, ?_⟩
    · rw [hnm]
      refine List.ext_getElem? fun j => ?_
      rw [List.getElem?_set, List.getElem?_map]
      by_cases c : i = j
      · subst c
        rw [if_pos rfl, if_pos (List.getElem?_eq_some_iff.1 hi).1, hn.1, Option.map_some, e, entF_snoc_yes rfl, ← e, ← hn.2]
      · rw [if_neg c, h.es, List.getElem?_map]
        cases ha : (nmS sv l)[j]? with
        | none => rfl
        | some a =>
          rw [Option.map_some, Option.map_some]
          have ne : whoD d ≠ a := fun q => c (by
            exact nodup_inj (nm_nodup sv l) hn.1 (by rw [ha, ← q, e]))
          rw [entF_snoc_no ne]
    · rw [hnm]
      show ot = _
      rw [h.ot]
      unfold othF
      rw [notIn_snoc_no hm]
  | new hn hl =>
    rw [had] at hn
    rw [hln] at hl
    have hnm := nm_new hn hl
    have e1 : (chg (actQ x d (some es.length)) (es ++ [ent0 (whoD d) D0]) ot (some es.length)) = (es ++ [actE x (ent0 (whoD d) D0) d], ot) := by
      show ((match (es ++ [ent0 (whoD d) D0])[es.length]? with | some E => (es ++ [ent0 (whoD d) D0]).set es.length (actQ x d (some es.length) E) | none => _), ot) = _
      rw [List.getElem?_concat_length]
      simp only
      rw [List.set_append_right _ _ (Nat.le_refl _), Nat.sub_self]
      rfl
    rw [e1]
    have hall := nm_room sv l hl
    refine ⟨?_, ?_⟩
    · have e2 : es = (nmS sv l).map fun a => entF x D0 a (l ++ [d]) := by
        rw [h.es]
        refine List.map_congr_left fun a ha => ?_
        rw [entF_snoc_no fun e => hn (e ▸ ha)]
      have e3 : actE x (ent0 (whoD d) D0) d = entF x D0 (whoD d) (l ++ [d]) := by
        rw [entF_snoc_yes rfl]
        congr 1
        unfold entF
        rw [ofA_none (a := whoD d) (l := l) fun e he q => hn (by rw [← q]; exact hall e he)]
        rfl
      show es ++ [actE x (ent0 (whoD d) D0) d] = _
      rw [hnm, List.map_append, ← e2, e3]
      rfl
    · show ot = _
      rw [h.ot, hnm]
      unfold othF
      rw [notIn_none hall, notIn_none]
      intro e he
      rcases List.mem_append.1 he with he | he
      · exact List.mem_append_left _ (hall e he)
      · rw [List.mem_singleton] at he
        subst he
        exact List.mem_append_right _ (List.mem_singleton.2 rfl)
  | full hn hl =>
    rw [had] at hn
    rw [hln] at hl
    have hnm := nm_old (sv := sv) (l := l) (d := d) (.inr hl)
    have e1 : (chg (actQ x d none) es ot none) = (es, actO ot d) := rfl
    rw [e1]
    refine ⟨?_, ?_⟩
    · rw [hnm, h.es]
      refine List.map_congr_left fun a ha => ?_
      rw [entF_snoc_no fun e => hn (e ▸ ha)]
    · rw [hnm, h.ot]
      unfold othF
      rw [notIn_snoc_yes hn, List.foldl_append]
      rfl
/-! ### what all come to -/
def totM (μ : Ent → Int) (es : List Ent) (ot : Ent) : Int := (es.map μ).sum + μ ot
set_option maxRecDepth 20000 in
theorem sum_set (μ : Ent → Int) : ∀ (es : List Ent) (i : Nat) (E E' : Ent), es[i]? = some E → ((es.set i E').map μ).sum = (es.map μ).sum + (μ E' - μ E) := by
  intro es
  induction es with
  | nil => intro i E E' h; cases h
  | cons a es ih =>
    intro i E E' h
    cases i with
    | zero =>
      simp only [List.getElem?_cons_zero, Option.some.injEq] at h
      subst h
      simp only [List.set_cons_zero, List.map_cons, List.sum_cons]
      omega
    | succ i =>
      simp only [List.getElem?_cons_succ] at h
      simp only [List.set_cons_succ, List.map_cons, List.sum_cons]
      rw [ih i E E' h]
      omega
set_option maxRecDepth 20000 in
theorem tot_chg {μ : Ent → Int} {f : Ent → Ent} {δ : Int} (hf : ∀ E, μ (f E) = μ E + δ) {sv : Int} {D0 : Sd} {a : Array Value} (h0 : μ (ent0 a D0) = 0) {es es1 : List Ent} {ot : Ent} {q : Option Nat} (p : OfP sv D0 a es es1 q) :
    totM μ (chg f es1 ot q).1 (chg f es1 ot q).2 = totM μ es ot + δ := by
  cases p with
  | @yes i E hi e =>
    show totM μ (match es[i]? with | some E => es.set i (f E) | none => es) ot = _
    rw [hi]
    unfold totM
    simp only
    rw [sum_set μ es i E _ hi, hf]
    omega
  | new hn hl =>
    show totM μ (match (es ++ [ent0 a D0])[es.length]? with | some E => (es ++ [ent0 a D0]).set es.length (f E) | none => _) ot = _
    rw [List.getElem?_concat_length]
    unfold totM
    simp only
    rw [sum_set μ _ es.length (ent0 a D0) _ List.getElem?_concat_length, hf, List.map_append, List.sum_append]
    simp only [List.map_cons, List.map_nil, List.sum_cons, List.sum_nil, h0]
    omega
  | full hn hl =>
    show totM μ es (f ot) = _
    unfold totM
    rw [hf]
    omega
def cwE (E : Ent) : Int := E.s1.c + E.s1.w
def csE (E : Ent) : Int := E.c 0 + E.c 1 + E.c 2 + E.c 3 + E.c 4 + E.c 5 + E.c 6 + E.c 7 + E.c 8
set_option maxRecDepth 20000 in
theorem cw_join (a b : St) : (joinS a b).c + (joinS a b).w = a.c + a.w + (b.c + b.w) := by
  unfold joinS
  split
  · simp only; omega
  · split
    · simp only; omega
    · simp only; omega
set_option maxRecDepth 20000 in
theorem cw_add (S : St) (n : Int) : (addN S n).c + (addN S n).w = S.c + S.w + 1 := by
  unfold addN
  split
  · rw [cw_join]; rfl
  · simp only; omega
set_option maxRecDepth 20000 in
theorem stpE_c (E : Ent) (z : Option (Nat × Int × Int)) : (stpE E z).c = E.c ∧ (stpE E z).s1 = E.s1 := by
  cases z with
  | none => exact ⟨rfl, rfl⟩
  | some z => unfold stpE; simp only; split <;> exact ⟨rfl, rfl⟩
set_option maxRecDepth 20000 in
theorem putE_c (x : Int) (E : Ent) (S : Smp) : (putE x E S).c = E.c ∧ (putE x E S).s1 = addN E.s1 S.o := stpE_c _ _
set_option maxRecDepth 20000 in
theorem cw_act (x : Int) (d : Deed) (q : Option Nat) (E : Ent) : cwE (actQ x d q E) = cwE E + if d.put then 1 else 0 := by
  unfold actQ actE actO
  cases d.put with
  | true =>
    simp only [if_true]
    split
    · unfold cwE; rw [(putE_c x E d.S).2, cw_add]
    · exact cw_add _ _
  | false =>
    simp only [Bool.false_eq_true, if_false, Int.add_zero]
    split <;> split <;> rfl
set_option maxRecDepth 20000 in
theorem cs_inc (E : Ent) (k : Nat) (h : k < 9) : csE (incE E k) = csE E + 1 := by
  unfold csE incE incF
  simp only
  rcases (show k = 0 ∨ k = 1 ∨ k = 2 ∨ k = 3 ∨ k = 4 ∨ k = 5 ∨ k = 6 ∨ k = 7 ∨ k = 8 by omega) with rfl | rfl | rfl | rfl | rfl | rfl | rfl | rfl | rfl <;> simp <;> omega
set_option maxRecDepth 20000 in
theorem cs_act (x : Int) (d : Deed) (q : Option Nat) (E : Ent) : csE (actQ x d q E) = csE E + if d.put then 0 else if d.k < 9 then 1 else 0 := by
  unfold actQ actE actO
  cases d.put with
  | true =>
    simp only [if_true, Int.add_zero]
    split
    · unfold csE; rw [(putE_c x E d.S).1]
    · rfl
  | false =>
    simp only [Bool.false_eq_true, if_false]
    by_cases c : d.k < 9
    · simp only [c, if_true]
      split <;> exact cs_inc E d.k c
    · simp only [c, if_false, Int.add_zero]
      split <;> rfl
set_option maxRecDepth 20000 in
theorem cw_0 (a : Array Value) (D0 : Sd) : cwE (ent0 a D0) = 0 := rfl
set_option maxRecDepth 20000 in
theorem cs_0 (a : Array Value) (D0 : Sd) : csE (ent0 a D0) = 0 := rfl
end Go.Proofs.Ythgkhllkhhnlpaa
