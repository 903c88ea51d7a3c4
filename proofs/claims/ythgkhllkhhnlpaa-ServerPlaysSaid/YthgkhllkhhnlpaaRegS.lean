/- Written by gen/bundle36.py: RegF, RegG, RegH in one text. -/
import Derived.Test.YthgkhllkhhnlpaaWideS
/- A region that draws its order, told operation by operation: each, whatever has run ahead of it, yields what its predicate says; the predicates bear more blocks. One proof for each operation serves every order. -/
namespace Go.Proofs.Ythgkhllkhhnlpaa
open Go.RowKit

section
variable {P : Program} {ops : Array Oper} {Q : Exit → Act → World → Prop}

def dstK (ops : Array Oper) (k : Nat) : Option Tmp := (ops[k]?).bind (·.dst)
def valK (ops : Array Oper) (a : Act) (k : Nat) : Value := match dstK ops k with
  | some t => a.tmps.getD t undef
  | none => undef
def opB (ops : Array Oper) (deps : Nat → List Nat) (n k : Nat) : Bool := match ops[k]? with
  | none => false
  | some o => (match o.dst with
    | some t => decide (t < n) && ((List.range ops.size).all fun j => j == k || !(dstK ops j == some t))
    | none => false) && (o.after.all fun e => decide (e.on < k)) && ((deps k).all fun j => o.after.any fun e => e.on == j && Region.binds .any e)
def formB (ops : Array Oper) (deps : Nat → List Nat) (n : Nat) : Bool := (List.range ops.size).all (opB ops deps n)
set_option maxRecDepth 20000 in
theorem wpOp_mono {i : Nat} {K K' : Act → World → Prop} {a : Act} {w : World} (h : ∀ a w, K a w → K' a w) (hh : wpOp P ops Q i K a w) : wpOp P ops Q i K' a w := by
  unfold wpOp at hh ⊢
  split
  · rename_i e; rw [e] at hh; exact h _ _ hh
  · rename_i o e
    rw [e] at hh
    simp only at hh
    split
    · rename_i c
      rw [if_pos c] at hh
      rcases hh with hh | hh
      · exact .inl (Oper.wp_mono h hh)
      · exact .inr hh
    · rename_i c
      rw [if_neg c] at hh
      exact h _ _ hh
/-- what holds of a state in which some operations have run -/
structure FInv (ops : Array Oper) (F : Nat → Value → World → Prop) (a0 : Act) (w0 : World) (listed : Array Bool) (a : Act) (w : World) : Prop where
  sz : listed.size = ops.size
  asz : a.tmps.size = a0.tmps.size
  df : a.defers = a0.defers
  mo : Mo w0 w
  base : ∀ t, (∀ k, dstK ops k ≠ some t) → a.tmps.getD t undef = a0.tmps.getD t undef
  val : ∀ k, k < ops.size → listed.getD k false = true → F k (valK ops a k) w
set_option maxRecDepth 20000 in
theorem form_op {deps : Nat → List Nat} {n k : Nat} (h : formB ops deps n = true) (hk : k < ops.size) : ∃ o t, ops[k]? = some o ∧ o.dst = some t ∧ t < n ∧ (∀ j, j ≠ k → dstK ops j ≠ some t) ∧ (∀ e ∈ o.after, e.on < k) ∧ ∀ j ∈ deps k, ∃ e ∈ o.after, e.on = j ∧ Region.binds .any e = true := by
  unfold formB at h
  have h1 := (List.all_eq_true.1 h) k (List.mem_range.2 hk)
  unfold opB at h1
  split at h1
  · cases h1
  · rename_i o ho
    simp only [Bool.and_eq_true] at h1
    obtain ⟨⟨h2, h3⟩, h4⟩ := h1
    cases hd : o.dst with
    | none => rw [hd] at h2; cases h2
    | some t =>
      rw [hd] at h2
      simp only [Bool.and_eq_true] at h2
      refine ⟨o, t, ho, hd, of_decide_eq_true h2.1, fun j hj e => ?_, fun e he => ?_, fun j hj => ?_⟩
      · have hjn : j < ops.size := by
          unfold dstK at e
          cases hoj : ops[j]? with
          | none => rw [hoj] at e; cases e
          | some _ => exact (Array.getElem?_eq_some_iff.1 hoj).1
        have := (List.all_eq_true.1 h2.2) j (List.mem_range.2 hjn)
        rw [e] at this
        simp [hj] at this
      · exact of_decide_eq_true ((Array.all_eq_true_iff_forall_mem.1 h3) e he)
      · have := (List.all_eq_true.1 h4) j hj
        rw [← Array.any_toList, List.any_eq_true] at this
        obtain ⟨e, he, q⟩ := this
        replace he := Array.mem_toList_iff.1 he
        simp only [Bool.and_eq_true] at q
        exact ⟨e, he, by simpa using q.1, q.2⟩
set_option maxRecDepth 20000 in
theorem getD_ne {α : Type} (l : Array α) {i j : Nat} (v d : α) (h : i ≠ j) : (l.setIfInBounds i v).getD j d = l.getD j d := by
  rw [Array.getD_eq_getD_getElem?, Array.getD_eq_getD_getElem?, Array.getElem?_setIfInBounds, if_neg h]
set_option maxRecDepth 20000 in
theorem getD_eq {α : Type} (l : Array α) {i : Nat} (v d : α) (h : i < l.size) : (l.setIfInBounds i v).getD i d = v := by
  rw [Array.getD_eq_getD_getElem?, Array.getElem?_setIfInBounds, if_pos rfl, if_pos h]
  rfl
set_option maxRecDepth 20000 in
theorem getD_some {l : Array Bool} {k : Nat} (h : k < l.size) : l.getD k true = l.getD k false := by simp [Array.getD, h]
set_option maxRecDepth 20000 in
theorem ready_all {deps : Nat → List Nat} {n : Nat} (h : formB ops deps n = true) {listed : Array Bool} (hs : listed.size = ops.size) (hr : Region.ready .any ops listed = []) : ∀ k, k < ops.size → listed.getD k false = true := by
  intro k
  induction k using Nat.strongRecOn with
  | ind k ih =>
    intro hk
    obtain ⟨o, t, ho, -, -, -, ha, -⟩ := form_op h hk
    cases hl : listed.getD k false with
    | true => rfl
    | false =>
      have : k ∈ Region.ready .any ops listed := mem_ready.2 ⟨by rw [getD_some (by omega)]; exact hl, o, ho, fun e he _ => ih e.on (ha e he) (by have := ha e he; omega)⟩
      rw [hr] at this
      cases this
set_option maxRecDepth 20000 in
theorem any_of_facts {deps : Nat → List Nat} {F : Nat → Value → World → Prop} {a0 : Act} {w0 : World} (hB : formB ops deps a0.tmps.size = true) (mono : ∀ k v w w', F k v w → Mo w w' → F k v w')
    (step : ∀ k, k < ops.size → ∀ a w, a.tmps.size = a0.tmps.size → Mo w0 w → (∀ t, (∀ k, dstK ops k ≠ some t) → a.tmps.getD t undef = a0.tmps.getD t undef) → (∀ j ∈ deps k, F j (valK ops a j) w) →
      wpOp P ops Q k (fun a2 w2 => ∃ v, a2 = a.put (dstK ops k) v ∧ Mo w w2 ∧ F k v w2) a w)
    (fin : ∀ a w, FInv ops F a0 w0 (Array.replicate ops.size true) a w → Q .normal a w) :
    ∀ (fuel : Nat) (listed : Array Bool) (a : Act) (w : World), FInv ops F a0 w0 listed a w → listed.toList.count false = fuel → wpAny P .any ops Q fuel listed a w := by
  have done : ∀ (listed : Array Bool) (a : Act) (w : World), FInv ops F a0 w0 listed a w → Region.ready .any ops listed = [] → Q .normal a w := fun listed a w hI hr =>
    fin a w ⟨by simp, hI.asz, hI.df, hI.mo, hI.base, fun k hk _ => hI.val k hk (ready_all hB hI.sz hr k hk)⟩
  intro fuel
  induction fuel with
  | zero =>
    intro listed a w hI hc
    have hr : Region.ready .any ops listed = [] := by
      refine List.eq_nil_iff_forall_not_mem.2 fun j hj => ?_
      obtain ⟨h1, o, ho, -⟩ := mem_ready.1 hj
      have hj' : j < listed.size := by rw [hI.sz]; exact (Array.getElem?_eq_some_iff.1 ho).1
      have : false ∈ listed.toList := by
        have e : listed[j] = false := by simpa [Array.getD, hj'] using h1
        rw [← e]
        exact Array.mem_toList_iff.2 (Array.getElem_mem hj')
      exact absurd hc (Nat.ne_of_gt (List.count_pos_iff.2 this))
    exact ⟨hr, done listed a w hI hr⟩
  | succ fuel ih =>
    intro listed a w hI hc
    refine ⟨fun hr => done listed a w hI hr, fun i hi => ?_⟩
    obtain ⟨h1, o', ho', hl⟩ := mem_ready.1 hi
    have hin : i < ops.size := (Array.getElem?_eq_some_iff.1 ho').1
    obtain ⟨o, t, ho, hd, ht, hne, ha, hdep⟩ := form_op hB hin
    rw [ho] at ho'
    injection ho' with ho'
    subst ho'
    have ed : dstK ops i = some t := by unfold dstK; rw [ho]; exact hd
    refine wpOp_mono ?_ (step i hin a w hI.asz hI.mo hI.base fun j hj => ?_)
    · rintro a2 w2 ⟨v, rfl, hM, hF⟩
      have hil : i < listed.size := by rw [hI.sz]; exact hin
      refine ih _ _ _ ⟨by simp [hI.sz], ?_, ?_, hI.mo.trans hM, fun t' ht' => ?_, fun k hk hk2 => ?_⟩ ?_
      · rw [ed]; simp [Act.put, hI.asz]
      · rw [ed]; exact hI.df
      · rw [ed]
        have : t ≠ t' := fun e => ht' i (by rw [ed, e])
        simp only [Act.put]
        rw [← hI.base t' ht']
        exact getD_ne _ _ _ this
      · by_cases e : k = i
        · subst e
          have : valK ops (a.put (dstK ops k) v) k = v := by
            unfold valK
            rw [ed]
            exact getD_eq _ _ _ (by rw [hI.asz]; exact ht)
          rw [this]
          exact hF
        · have hk3 : listed.getD k false = true := by
            have : (listed.setIfInBounds i true).getD k false = listed.getD k false := getD_ne _ _ _ (Ne.symm e)
            rwa [this] at hk2
          have : valK ops (a.put (dstK ops i) v) k = valK ops a k := by
            unfold valK
            rw [ed]
            cases hk4 : dstK ops k with
            | none => rfl
            | some t' =>
              have : t ≠ t' := fun e2 => hne k e (by rw [hk4, e2])
              exact getD_ne _ _ _ this
          rw [this]
          exact mono k _ _ _ (hI.val k hk hk3) hM
      · have e : listed.toList[i]'(by simpa using hil) = false := by simpa [Array.getD, hil] using h1
        rw [Array.toList_setIfInBounds, List.count_set (by simpa using hil), e, hc]
        simp
    · obtain ⟨e, he, rfl, hb⟩ := hdep j hj
      exact hI.val _ (by have := ha e he; omega) (hl e he hb)
set_option maxRecDepth 20000 in
theorem wp_region_facts {id : Nat} {a : Act} {w : World} (deps : Nat → List Nat) (F : Nat → Value → World → Prop) (hm : P.follows .mixedOrders = true) (hB : formB ops deps a.tmps.size = true) (mono : ∀ k v w w', F k v w → Mo w w' → F k v w')
    (step : ∀ k, k < ops.size → ∀ a' w', a'.tmps.size = a.tmps.size → Mo w w' → (∀ t, (∀ k, dstK ops k ≠ some t) → a'.tmps.getD t undef = a.tmps.getD t undef) → (∀ j ∈ deps k, F j (valK ops a' j) w') →
      wpOp P ops Q k (fun a2 w2 => ∃ v, a2 = a'.put (dstK ops k) v ∧ Mo w' w2 ∧ F k v w2) a' w')
    (fin : ∀ a' w', FInv ops F a w (Array.replicate ops.size true) a' w' → Q .normal a' w') : (Code.region id ops true).wp P Q a w := by
  refine wp_region_any hm ?_
  refine any_of_facts hB mono step fin _ _ _ _ ⟨by simp, rfl, rfl, ?_, fun _ _ => rfl, fun k hk h => ?_⟩ (by simp)
  · exact ⟨#[], w.drawn + 1, by simp [more]⟩
  · rw [Array.getD_eq_getD_getElem?, Array.getElem?_replicate, if_pos hk] at h; cases h
end
end Go.Proofs.Ythgkhllkhhnlpaa
/- Steps for RegF's law: an operation that yields, one that calls, one whose guard leaves it out. -/
namespace Go.Proofs.Ythgkhllkhhnlpaa
open Go.RowKit

/-- the predicates of a region's operations, as a list -/
def ofFL (L : List (Value → World → Prop)) (k : Nat) (v : Value) (w : World) : Prop := L.getD k (fun _ _ => True) v w
def MonoL (L : List (Value → World → Prop)) : Prop := ∀ f ∈ L, ∀ v w w', f v w → Mo w w' → f v w'
set_option maxRecDepth 20000 in
theorem MonoL.nil : MonoL [] := fun f h => by cases h
set_option maxRecDepth 20000 in
theorem MonoL.cons {f : Value → World → Prop} {L : List (Value → World → Prop)} (h : ∀ v w w', f v w → Mo w w' → f v w') (k : MonoL L) : MonoL (f :: L) := fun g hg => by
  rcases List.mem_cons.1 hg with rfl | hg
  · exact h
  · exact k g hg
set_option maxRecDepth 20000 in
theorem MonoL.eq (u : Value) {L : List (Value → World → Prop)} (k : MonoL L) : MonoL ((fun v _ => v = u) :: L) := MonoL.cons (fun _ _ _ h _ => h) k
set_option maxRecDepth 20000 in
theorem MonoL.any {L : List (Value → World → Prop)} (k : MonoL L) : MonoL ((fun _ _ => True) :: L) := MonoL.cons (fun _ _ _ h _ => h) k
set_option maxRecDepth 20000 in
theorem ofFL_mono {L : List (Value → World → Prop)} (h : MonoL L) (k : Nat) (v : Value) (w w' : World) (hk : ofFL L k v w) (m : Mo w w') : ofFL L k v w' := by
  unfold ofFL at hk ⊢
  rw [List.getD_eq_getElem?_getD] at hk ⊢
  cases e : L[k]? with
  | none => trivial
  | some f => rw [e] at hk; exact h f (List.mem_of_getElem? e) v w w' hk m
section
variable {P : Program} {ops : Array Oper} {Q : Exit → Act → World → Prop} {F : Nat → Value → World → Prop} {k : Nat} {o : Oper} {a : Act} {w : World}
set_option maxRecDepth 20000 in
theorem rg_dst (ho : ops[k]? = some o) : dstK ops k = o.dst := by unfold dstK; rw [ho]; rfl
set_option maxRecDepth 20000 in
theorem rg_dep {j t : Nat} (h : F j (valK ops a j) w) (e : dstK ops j = some t) : F j (a.tmps.getD t undef) w := by
  unfold valK at h
  rw [e] at h
  exact h
set_option maxRecDepth 20000 in
theorem rg_w0 {y : Nat → Option Bool} (hg : o.guard = none) : Region.wanted o y = true := by unfold Region.wanted; rw [hg]
set_option maxRecDepth 20000 in
theorem yielded_of {g t : Nat} {b : Bool} (e : dstK ops g = some t) (h : a.tmps.getD t undef = .bool b) : yielded ops a.tmps g = some b := by
  unfold yielded
  have e' : (ops[g]?).bind (·.dst) = some t := e
  rw [e']
  show (match a.tmps[t]? with | some (.bool b) => some b | _ => none) = some b
  rw [Array.getD_eq_getD_getElem?] at h
  cases q : a.tmps[t]? with
  | none => rw [q] at h; cases h
  | some v => rw [q] at h; have h' : v = .bool b := h; rw [h']
set_option maxRecDepth 20000 in
theorem rg_w1 {g t : Nat} {b : Bool} (hg : o.guard = some (g, b)) (e : dstK ops g = some t) (h : a.tmps.getD t undef = .bool b) : Region.wanted o (yielded ops a.tmps) = true := by
  unfold Region.wanted
  rw [hg]
  simp only [yielded_of e h]
  cases b <;> rfl
set_option maxRecDepth 20000 in
theorem rg_n1 {g t : Nat} {b : Bool} (hg : o.guard = some (g, b)) (e : dstK ops g = some t) (h : a.tmps.getD t undef = .bool (!b)) : Region.wanted o (yielded ops a.tmps) = false := by
  unfold Region.wanted
  rw [hg]
  simp only [yielded_of e h]
  cases b <;> rfl
set_option maxRecDepth 20000 in
theorem rg_val {v : Value} {w2 : World} (ho : ops[k]? = some o) (hw : Region.wanted o (yielded ops a.tmps) = true) (hr : (execOp a.eval o).run P w = .ok (.value v) w2) (hM : Mo w w2) (hF : F k v w2) :
    wpOp P ops Q k (fun a2 w2 => ∃ v, a2 = a.put (dstK ops k) v ∧ Mo w w2 ∧ F k v w2) a w := by
  unfold wpOp
  rw [ho]
  simp only
  rw [if_pos hw]
  refine .inl ?_
  unfold Oper.wp
  rw [hr, Oper.upon_value]
  exact ⟨v, by rw [rg_dst ho], hM, hF⟩
set_option maxRecDepth 20000 in
theorem rg_call {f : FuncId} {args : Array Value} (ho : ops[k]? = some o) (hw : Region.wanted o (yielded ops a.tmps) = true) (hr : (execOp a.eval o).run P w = .ok (.enter f args) w)
    (hC : Calls P f args w fun e w' => ∃ v, e = .returned v ∧ Mo w w' ∧ F k v w') :
    wpOp P ops Q k (fun a2 w2 => ∃ v, a2 = a.put (dstK ops k) v ∧ Mo w w2 ∧ F k v w2) a w := by
  unfold wpOp
  rw [ho]
  simp only
  rw [if_pos hw]
  refine .inl ?_
  unfold Oper.wp
  rw [hr, Oper.upon_enter]
  refine hC.mono ?_
  rintro e w' ⟨v, rfl, hM, hF⟩
  exact ⟨v, by rw [rg_dst ho], hM, hF⟩
set_option maxRecDepth 20000 in
/-- an operation that its guard leaves out -/
theorem rg_skip (ho : ops[k]? = some o) (hw : Region.wanted o (yielded ops a.tmps) = false) (hF : F k undef w) :
    wpOp P ops Q k (fun a2 w2 => ∃ v, a2 = a.put (dstK ops k) v ∧ Mo w w2 ∧ F k v w2) a w := by
  unfold wpOp
  rw [ho]
  simp only
  rw [hw]
  simp only [Bool.false_eq_true, if_false]
  exact ⟨undef, by rw [rg_dst ho], Mo.refl _, hF⟩
set_option maxRecDepth 20000 in
theorem rg_free {t : Nat} (h : ((List.range ops.size).all fun k => !(dstK ops k == some t)) = true) : ∀ k, dstK ops k ≠ some t := fun k e => by
  have hk : k < ops.size := by
    unfold dstK at e
    cases ho : ops[k]? with
    | none => rw [ho] at e; cases e
    | some _ => exact (Array.getElem?_eq_some_iff.1 ho).1
  have := (List.all_eq_true.1 h) k (List.mem_range.2 hk)
  rw [e] at this
  simp at this
end
set_option maxRecDepth 20000 in
theorem arr_eqG {a l : Array Value} (h : a.size = l.size) (k : ∀ i, i < l.size → a.getD i undef = l.getD i undef) : a = l := by
  refine Array.ext h fun i h1 h2 => ?_
  have := k i h2
  rw [Array.getD_eq_getD_getElem?, Array.getD_eq_getD_getElem?, Array.getElem?_eq_getElem h1, Array.getElem?_eq_getElem h2] at this
  exact this
set_option maxRecDepth 20000 in
theorem act_eqG {a : Act} {l : Array Value} (h1 : a.defers = []) (h2 : a.tmps = l) : a = { tmps := l, defers := [] } := by
  obtain ⟨t, d⟩ := a
  simp only at h1 h2
  rw [h1, h2]
end Go.Proofs.Ythgkhllkhhnlpaa
/- RegF's law with stores, too: operations without a slot, and what the world keeps as a letter (any relation that can be put together). -/
namespace Go.Proofs.Ythgkhllkhhnlpaa
open Go.RowKit

section
variable {P : Program} {ops : Array Oper} {Q : Exit → Act → World → Prop}

def opBH (ops : Array Oper) (deps : Nat → List Nat) (n k : Nat) : Bool := match ops[k]? with
  | none => false
  | some o => (match o.dst with
    | some t => decide (t < n) && ((List.range ops.size).all fun j => j == k || !(dstK ops j == some t))
    | none => true) && (o.after.all fun e => decide (e.on < k)) && ((deps k).all fun j => o.after.any fun e => e.on == j && Region.binds .any e)
def formBH (ops : Array Oper) (deps : Nat → List Nat) (n : Nat) : Bool := (List.range ops.size).all (opBH ops deps n)
/-- what holds of a state in which some operations have run -/
structure FInvH (R : World → World → Prop) (ops : Array Oper) (F : Nat → Value → World → Prop) (a0 : Act) (w0 : World) (listed : Array Bool) (a : Act) (w : World) : Prop where
  sz : listed.size = ops.size
  asz : a.tmps.size = a0.tmps.size
  df : a.defers = a0.defers
  mo : R w0 w
  base : ∀ t, (∀ k, dstK ops k ≠ some t) → a.tmps.getD t undef = a0.tmps.getD t undef
  val : ∀ k, k < ops.size → listed.getD k false = true → F k (valK ops a k) w
set_option maxRecDepth 20000 in
theorem form_opH {deps : Nat → List Nat} {n k : Nat} (h : formBH ops deps n = true) (hk : k < ops.size) : ∃ o, ops[k]? = some o ∧ (∀ t, o.dst = some t → t < n ∧ ∀ j, j ≠ k → dstK ops j ≠ some t) ∧ (∀ e ∈ o.after, e.on < k) ∧ ∀ j ∈ deps k, ∃ e ∈ o.after, e.on = j ∧ Region.binds .any e = true := by
  unfold formBH at h
  have h1 := (List.all_eq_true.1 h) k (List.mem_range.2 hk)
  unfold opBH at h1
  split at h1
  · cases h1
  · rename_i o ho
    simp only [Bool.and_eq_true] at h1
    obtain ⟨⟨h2, h3⟩, h4⟩ := h1
    refine ⟨o, ho, fun t hd => ?_, fun e he => ?_, fun j hj => ?_⟩
    · rw [hd] at h2
      simp only [Bool.and_eq_true] at h2
      refine ⟨of_decide_eq_true h2.1, fun j hj e => ?_⟩
      have hjn : j < ops.size := by
        unfold dstK at e
        cases hoj : ops[j]? with
        | none => rw [hoj] at e; cases e
        | some _ => exact (Array.getElem?_eq_some_iff.1 hoj).1
      have := (List.all_eq_true.1 h2.2) j (List.mem_range.2 hjn)
      rw [e] at this
      simp [hj] at this
    · exact of_decide_eq_true ((Array.all_eq_true_iff_forall_mem.1 h3) e he)
    · have := (List.all_eq_true.1 h4) j hj
      rw [← Array.any_toList, List.any_eq_true] at this
      obtain ⟨e, he, q⟩ := this
      replace he := Array.mem_toList_iff.1 he
      simp only [Bool.and_eq_true] at q
      exact ⟨e, he, by simpa using q.1, q.2⟩
set_option maxRecDepth 20000 in
theorem ready_allH {deps : Nat → List Nat} {n : Nat} (h : formBH ops deps n = true) {listed : Array Bool} (hs : listed.size = ops.size) (hr : Region.ready .any ops listed = []) : ∀ k, k < ops.size → listed.getD k false = true := by
  intro k
  induction k using Nat.strongRecOn with
  | ind k ih =>
    intro hk
    obtain ⟨o, ho, -, ha, -⟩ := form_opH h hk
    cases hl : listed.getD k false with
    | true => rfl
    | false =>
      have : k ∈ Region.ready .any ops listed := mem_ready.2 ⟨by rw [getD_some (by omega)]; exact hl, o, ho, fun e he _ => ih e.on (ha e he) (by have := ha e he; omega)⟩
      rw [hr] at this
      cases this
/-- the value that an operation leaves -/
def outK (ops : Array Oper) (k : Nat) (v : Value) : Value := match dstK ops k with
  | some _ => v
  | none => undef
set_option maxRecDepth 20000 in
theorem any_of_factsH {R : World → World → Prop} (Rt : ∀ a b c, R a b → R b c → R a c) {deps : Nat → List Nat} {F : Nat → Value → World → Prop} {a0 : Act} {w0 : World} (hB : formBH ops deps a0.tmps.size = true) (mono : ∀ k v w w', F k v w → R w w' → F k v w')
    (step : ∀ k, k < ops.size → ∀ a w, a.tmps.size = a0.tmps.size → R w0 w → (∀ t, (∀ k, dstK ops k ≠ some t) → a.tmps.getD t undef = a0.tmps.getD t undef) → (∀ j ∈ deps k, F j (valK ops a j) w) →
      wpOp P ops Q k (fun a2 w2 => ∃ v, a2 = a.put (dstK ops k) v ∧ R w w2 ∧ F k (outK ops k v) w2) a w)
    (fin : ∀ a w, FInvH R ops F a0 w0 (Array.replicate ops.size true) a w → Q .normal a w) :
    ∀ (fuel : Nat) (listed : Array Bool) (a : Act) (w : World), FInvH R ops F a0 w0 listed a w → listed.toList.count false = fuel → wpAny P .any ops Q fuel listed a w := by
  have done : ∀ (listed : Array Bool) (a : Act) (w : World), FInvH R ops F a0 w0 listed a w → Region.ready .any ops listed = [] → Q .normal a w := fun listed a w hI hr =>
    fin a w ⟨by simp, hI.asz, hI.df, hI.mo, hI.base, fun k hk _ => hI.val k hk (ready_allH hB hI.sz hr k hk)⟩
  intro fuel
  induction fuel with
  | zero =>
    intro listed a w hI hc
    have hr : Region.ready .any ops listed = [] := by
      refine List.eq_nil_iff_forall_not_mem.2 fun j hj => ?_
      obtain ⟨h1, o, ho, -⟩ := mem_ready.1 hj
      have hj' : j < listed.size := by rw [hI.sz]; exact (Array.getElem?_eq_some_iff.1 ho).1
      have : false ∈ listed.toList := by
        have e : listed[j] = false := by simpa [Array.getD, hj'] using h1
        rw [← e]
        exact Array.mem_toList_iff.2 (Array.getElem_mem hj')
      exact absurd hc (Nat.ne_of_gt (List.count_pos_iff.2 this))
    exact ⟨hr, done listed a w hI hr⟩
  | succ fuel ih =>
    intro listed a w hI hc
    refine ⟨fun hr => done listed a w hI hr, fun i hi => ?_⟩
    obtain ⟨h1, o', ho', hl⟩ := mem_ready.1 hi
    have hin : i < ops.size := (Array.getElem?_eq_some_iff.1 ho').1
    obtain ⟨o, ho, hne0, ha, hdep⟩ := form_opH hB hin
    rw [ho] at ho'
    injection ho' with ho'
    subst ho'
    refine wpOp_mono ?_ (step i hin a w hI.asz hI.mo hI.base fun j hj => ?_)
    · rintro a2 w2 ⟨v, rfl, hM, hF⟩
      have hil : i < listed.size := by rw [hI.sz]; exact hin
      have hcount : (listed.setIfInBounds i true).toList.count false = fuel := by
        have e : listed.toList[i]'(by simpa using hil) = false := by simpa [Array.getD, hil] using h1
        rw [Array.toList_setIfInBounds, List.count_set (by simpa using hil), e, hc]
        simp
      have hk3 : ∀ k, k ≠ i → (listed.setIfInBounds i true).getD k false = true → listed.getD k false = true := fun k e hk2 => by
        have : (listed.setIfInBounds i true).getD k false = listed.getD k false := getD_ne _ _ _ (Ne.symm e)
        rwa [this] at hk2
      cases hd : o.dst with
      | none =>
        have ed : dstK ops i = none := by unfold dstK; rw [ho]; exact hd
        have ep : a.put (dstK ops i) v = a := by rw [ed]; rfl
        rw [ep]
        refine ih _ _ _ ⟨by simp [hI.sz], hI.asz, hI.df, Rt _ _ _ hI.mo hM, hI.base, fun k hk hk2 => ?_⟩ hcount
        by_cases e : k = i
        · subst e
          have e1 : valK ops a k = undef := by unfold valK; rw [ed]
          have e2 : outK ops k v = undef := by unfold outK; rw [ed]
          rw [e1, ← e2]
          exact hF
        · exact mono k _ _ _ (hI.val k hk (hk3 k e hk2)) hM
      | some t =>
        obtain ⟨ht, hne⟩ := hne0 t hd
        have ed : dstK ops i = some t := by unfold dstK; rw [ho]; exact hd
        have eo : outK ops i v = v := by unfold outK; rw [ed]
        rw [eo] at hF
        refine ih _ _ _ ⟨by simp [hI.sz], ?_, ?_, Rt _ _ _ hI.mo hM, fun t' ht' => ?_, fun k hk hk2 => ?_⟩ hcount
        · rw [ed]; simp [Act.put, hI.asz]
        · rw [ed]; exact hI.df
        · rw [ed]
          have : t ≠ t' := fun e => ht' i (by rw [ed, e])
          simp only [Act.put]
          rw [← hI.base t' ht']
          exact getD_ne _ _ _ this
        · by_cases e : k = i
          · subst e
            have : valK ops (a.put (dstK ops k) v) k = v := by
              unfold valK
              rw [ed]
              exact getD_eq _ _ _ (by rw [hI.asz]; exact ht)
            rw [this]
            exact hF
          · have : valK ops (a.put (dstK ops i) v) k = valK ops a k := by
              unfold valK
              rw [ed]
              cases hk4 : dstK ops k with
              | none => rfl
              | some t' =>
                have : t ≠ t' := fun e2 => hne k e (by rw [hk4, e2])
                exact getD_ne _ _ _ this
            rw [this]
            exact mono k _ _ _ (hI.val k hk (hk3 k e hk2)) hM
    · obtain ⟨e, he, rfl, hb⟩ := hdep j hj
      exact hI.val _ (by have := ha e he; omega) (hl e he hb)
set_option maxRecDepth 20000 in
theorem wp_region_factsH {id : Nat} {a : Act} {w : World} (R : World → World → Prop) (Rm : ∀ w w', Mo w w' → R w w') (Rt : ∀ a b c, R a b → R b c → R a c) (deps : Nat → List Nat) (F : Nat → Value → World → Prop) (hm : P.follows .mixedOrders = true) (hB : formBH ops deps a.tmps.size = true) (mono : ∀ k v w w', F k v w → R w w' → F k v w')
    (step : ∀ k, k < ops.size → ∀ a' w', a'.tmps.size = a.tmps.size → R w w' → (∀ t, (∀ k, dstK ops k ≠ some t) → a'.tmps.getD t undef = a.tmps.getD t undef) → (∀ j ∈ deps k, F j (valK ops a' j) w') →
      wpOp P ops Q k (fun a2 w2 => ∃ v, a2 = a'.put (dstK ops k) v ∧ R w' w2 ∧ F k (outK ops k v) w2) a' w')
    (fin : ∀ a' w', FInvH R ops F a w (Array.replicate ops.size true) a' w' → Q .normal a' w') : (Code.region id ops true).wp P Q a w := by
  refine wp_region_any hm ?_
  refine any_of_factsH Rt hB mono step fin _ _ _ _ ⟨by simp, rfl, rfl, Rm _ _ ?_, fun _ _ => rfl, fun k hk h => ?_⟩ (by simp)
  · exact ⟨#[], w.drawn + 1, by simp [more]⟩
  · rw [Array.getD_eq_getD_getElem?, Array.getElem?_replicate, if_pos hk] at h; cases h
end
/-! ### the predicates of a region's operations -/
def MonoR (R : World → World → Prop) (L : List (Value → World → Prop)) : Prop := ∀ f ∈ L, ∀ v w w', f v w → R w w' → f v w'
set_option maxRecDepth 20000 in
theorem MonoR.nil {R : World → World → Prop} : MonoR R [] := fun f h => by cases h
set_option maxRecDepth 20000 in
theorem MonoR.cons {R : World → World → Prop} {f : Value → World → Prop} {L : List (Value → World → Prop)} (h : ∀ v w w', f v w → R w w' → f v w') (k : MonoR R L) : MonoR R (f :: L) := fun g hg => by
  rcases List.mem_cons.1 hg with rfl | hg
  · exact h
  · exact k g hg
set_option maxRecDepth 20000 in
theorem MonoR.eq {R : World → World → Prop} (u : Value) {L : List (Value → World → Prop)} (k : MonoR R L) : MonoR R ((fun v _ => v = u) :: L) := MonoR.cons (fun _ _ _ h _ => h) k
set_option maxRecDepth 20000 in
theorem ofFL_monoR {R : World → World → Prop} {L : List (Value → World → Prop)} (h : MonoR R L) (k : Nat) (v : Value) (w w' : World) (hk : ofFL L k v w) (m : R w w') : ofFL L k v w' := by
  unfold ofFL at hk ⊢
  rw [List.getD_eq_getElem?_getD] at hk ⊢
  cases e : L[k]? with
  | none => trivial
  | some f => rw [e] at hk; exact h f (List.mem_of_getElem? e) v w w' hk m
section
variable {P : Program} {ops : Array Oper} {Q : Exit → Act → World → Prop} {F : Nat → Value → World → Prop} {R : World → World → Prop} {k : Nat} {o : Oper} {a : Act} {w : World}
set_option maxRecDepth 20000 in
theorem rh_val {v u : Value} {w2 : World} (ho : ops[k]? = some o) (hw : Region.wanted o (yielded ops a.tmps) = true) (hr : (execOp a.eval o).run P w = .ok (.value v) w2) (hM : R w w2) (hu : outK ops k v = u) (hF : F k u w2) :
    wpOp P ops Q k (fun a2 w2 => ∃ v, a2 = a.put (dstK ops k) v ∧ R w w2 ∧ F k (outK ops k v) w2) a w := by
  unfold wpOp
  rw [ho]
  simp only
  rw [if_pos hw]
  refine .inl ?_
  unfold Oper.wp
  rw [hr, Oper.upon_value]
  exact ⟨v, by rw [rg_dst ho], hM, by rw [hu]; exact hF⟩
set_option maxRecDepth 20000 in
theorem rh_call {f : FuncId} {args : Array Value} (ho : ops[k]? = some o) (hw : Region.wanted o (yielded ops a.tmps) = true) (hr : (execOp a.eval o).run P w = .ok (.enter f args) w)
    (hC : Calls P f args w fun e w' => ∃ v, e = .returned v ∧ R w w' ∧ F k (outK ops k v) w') :
    wpOp P ops Q k (fun a2 w2 => ∃ v, a2 = a.put (dstK ops k) v ∧ R w w2 ∧ F k (outK ops k v) w2) a w := by
  unfold wpOp
  rw [ho]
  simp only
  rw [if_pos hw]
  refine .inl ?_
  unfold Oper.wp
  rw [hr, Oper.upon_enter]
  refine hC.mono ?_
  rintro e w' ⟨v, rfl, hM, hF⟩
  exact ⟨v, by rw [rg_dst ho], hM, hF⟩
set_option maxRecDepth 20000 in
/-- an operation that yields nothing: a store -/
theorem rh_unit {u : Value} {w2 : World} (ho : ops[k]? = some o) (hw : Region.wanted o (yielded ops a.tmps) = true) (hr : (execOp a.eval o).run P w = .ok .skip w2) (hM : R w w2) (hu : outK ops k undef = u) (hF : F k u w2) :
    wpOp P ops Q k (fun a2 w2 => ∃ v, a2 = a.put (dstK ops k) v ∧ R w w2 ∧ F k (outK ops k v) w2) a w := by
  unfold wpOp
  rw [ho]
  simp only
  rw [if_pos hw]
  refine .inl ?_
  unfold Oper.wp
  rw [hr, Oper.upon_skip]
  exact ⟨undef, by rw [rg_dst ho], hM, by rw [hu]; exact hF⟩
set_option maxRecDepth 20000 in
theorem rh_skip (ho : ops[k]? = some o) (hw : Region.wanted o (yielded ops a.tmps) = false) (hR : R w w) (hF : F k (outK ops k undef) w) :
    wpOp P ops Q k (fun a2 w2 => ∃ v, a2 = a.put (dstK ops k) v ∧ R w w2 ∧ F k (outK ops k v) w2) a w := by
  unfold wpOp
  rw [ho]
  simp only
  rw [hw]
  simp only [Bool.false_eq_true, if_false]
  exact ⟨undef, by rw [rg_dst ho], hR, hF⟩
end
end Go.Proofs.Ythgkhllkhhnlpaa
