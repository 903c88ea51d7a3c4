/- A region that draws its order, told operation by operation: each, whatever has run ahead of it, yields what its predicate says; the predicates bear more blocks. One proof for each operation serves every order. -/
import Derived.Test.YtdgmcgfkammioaaMo
namespace Go.Proofs.Ytdgmcgfkammioaa
open Go.RowKit

section
variable {P : Program} {ops : Array Oper} {Q : Exit → Act → World → Prop}

def dstK (ops : Array Oper) (k : Nat) : Option Tmp := (ops[k]?).bind (·.dst)
def valK (ops : Array Oper) (a : Act) (k : Nat) : Value := match dstK ops k with
  | some t => a.tmps.getD t undef
  | none => undef
def opB (ops : Array Oper) (deps : Nat → List Nat) (n k : Nat) : Bool := match ops[k]? with
  | none => false
  | some o => (match o.dst with
    | some t => decide (t < n) && ((List.range ops.size).all fun j => j == k || !(dstK ops j == some t))
    | none => false) && (o.after.all fun e => decide (e.on < k)) && ((deps k).all fun j => o.after.any fun e => e.on == j && Region.binds .any e)
def formB (ops : Array Oper) (deps : Nat → List Nat) (n : Nat) : Bool := (List.range ops.size).all (opB ops deps n)
set_option maxRecDepth 20000 in
theorem wpOp_mono {i : Nat} {K K' : Act → World → Prop} {a : Act} {w : World} (h : ∀ a w, K a w → K' a w) (hh : wpOp P ops Q i K a w) : wpOp P ops Q i K' a w := by
  unfold wpOp at hh ⊢
  split
  · rename_i e; rw [e] at hh; exact h _ _ hh
  · rename_i o e
    rw [e] at hh
    simp only at hh
    split
    · rename_i c
      rw [if_pos c] at hh
      rcases hh with hh | hh
      · exact .inl (Oper.wp_mono h hh)
      · exact .inr hh
    · rename_i c
      rw [if_neg c] at hh
      exact h _ _ hh
/-- what holds of a state in which some operations have run -/
structure FInv (ops : Array Oper) (F : Nat → Value → World → Prop) (a0 : Act) (w0 : World) (listed : Array Bool) (a : Act) (w : World) : Prop where
  sz : listed.size = ops.size
  asz : a.tmps.size = a0.tmps.size
  df : a.defers = a0.defers
  mo : Mo w0 w
  base : ∀ t, (∀ k, dstK ops k ≠ some t) → a.tmps.getD t undef = a0.tmps.getD t undef
  val : ∀ k, k < ops.size → listed.getD k false = true → F k (valK ops a k) w
set_option maxRecDepth 20000 in
theorem form_op {deps : Nat → List Nat} {n k : Nat} (h : formB ops deps n = true) (hk : k < ops.size) : ∃ o t, ops[k]? = some o ∧ o.dst = some t ∧ t < n ∧ (∀ j, j ≠ k → dstK ops j ≠ some t) ∧ (∀ e ∈ o.after, e.on < k) ∧ ∀ j ∈ deps k, ∃ e ∈ o.after, e.on = j ∧ Region.binds .any e = true := by
  unfold formB at h
  have h1 := (List.all_eq_true.1 h) k (List.mem_range.2 hk)
  unfold opB at h1
  split at h1
  · cases h1
  · rename_i o ho
    simp only [Bool.and_eq_true] at h1
    obtain ⟨⟨h2, h3⟩, h4⟩ := h1
    cases hd : o.dst with
    | none => rw [hd] at h2; cases h2
    | some t =>
      rw [hd] at h2
      simp only [Bool.and_eq_true] at h2
      refine ⟨o, t, ho, hd, of_decide_eq_true h2.1, fun j hj e => ?_, fun e he => ?_, fun j hj => ?_⟩
      · have hjn : j < ops.size := by
          unfold dstK at e
          cases hoj : ops[j]? with
          | none => rw [hoj] at e; cases e
          | some _ => exact (Array.getElem?_eq_some_iff.1 hoj).1
        have := (List.all_eq_true.1 h2.2) j (List.mem_range.2 hjn)
        rw [e] at this
        simp [hj] at this
      · exact of_decide_eq_true ((Array.all_eq_true_iff_forall_mem.1 h3) e he)
      · have := (List.all_eq_true.1 h4) j hj
        rw [← Array.any_toList, List.any_eq_true] at this
        obtain ⟨e, he, q⟩ := this
        replace he := Array.mem_toList_iff.1 he
        simp only [Bool.and_eq_true] at q
        exact ⟨e, he, by simpa using q.1, q.2⟩
set_option maxRecDepth 20000 in
theorem getD_ne {α : Type} (l : Array α) {i j : Nat} (v d : α) (h : i ≠ j) : (l.setIfInBounds i v).getD j d = l.getD j d := by
  rw [Array.getD_eq_getD_getElem?, Array.getD_eq_getD_getElem?, Array.getElem?_setIfInBounds, if_neg h]
set_option maxRecDepth 20000 in
theorem getD_eq {α : Type} (l : Array α) {i : Nat} (v d : α) (h : i < l.size) : (l.setIfInBounds i v).getD i d = v := by
  rw [Array.getD_eq_getD_getElem?, Array.getElem?_setIfInBounds, if_pos rfl, if_pos h]
  rfl
set_option maxRecDepth 20000 in
theorem getD_some {l : Array Bool} {k : Nat} (h : k < l.size) : l.getD k true = l.getD k false := by simp [Array.getD, h]
set_option maxRecDepth 20000 in
theorem ready_all {deps : Nat → List Nat} {n : Nat} (h : formB ops deps n = true) {listed : Array Bool} (hs : listed.size = ops.size) (hr : Region.ready .any ops listed = []) : ∀ k, k < ops.size → listed.getD k false = true := by
  intro k
  induction k using Nat.strongRecOn with
  | ind k ih =>
    intro hk
    obtain ⟨o, t, ho, -, -, -, ha, -⟩ := form_op h hk
    cases hl : listed.getD k false with
    | true => rfl
    | false =>
      have : k ∈ Region.ready .any ops listed := mem_ready.2 ⟨by rw [getD_some (by omega)]; exact hl, o, ho, fun e he _ => ih e.on (ha e he) (by have := ha e he; omega)⟩
      rw [hr] at this
      cases this
set_option maxRecDepth 20000 in
theorem any_of_facts {deps : Nat → List Nat} {F : Nat → Value → World → Prop} {a0 : Act} {w0 : World} (hB : formB ops deps a0.tmps.size = true) (mono : ∀ k v w w', F k v w → Mo w w' → F k v w')
    (step : ∀ k, k < ops.size → ∀ a w, a.tmps.size = a0.tmps.size → Mo w0 w → (∀ t, (∀ k, dstK ops k ≠ some t) → a.tmps.getD t undef = a0.tmps.getD t undef) → (∀ j ∈ deps k, F j (valK ops a j) w) →
      wpOp P ops Q k (fun a2 w2 => ∃ v, a2 = a.put (dstK ops k) v ∧ Mo w w2 ∧ F k v w2) a w)
    (fin : ∀ a w, FInv ops F a0 w0 (Array.replicate ops.size true) a w → Q .normal a w) :
    ∀ (fuel : Nat) (listed : Array Bool) (a : Act) (w : World), FInv ops F a0 w0 listed a w → listed.toList.count false = fuel → wpAny P .any ops Q fuel listed a w := by
  have done : ∀ (listed : Array Bool) (a : Act) (w : World), FInv ops F a0 w0 listed a w → Region.ready .any ops listed = [] → Q .normal a w := fun listed a w hI hr =>
    fin a w ⟨by simp, hI.asz, hI.df, hI.mo, hI.base, fun k hk _ => hI.val k hk (ready_all hB hI.sz hr k hk)⟩
  intro fuel
  induction fuel with
  | zero =>
    intro listed a w hI hc
    have hr : Region.ready .any ops listed = [] := by
      refine List.eq_nil_iff_forall_not_mem.2 fun j hj => ?_
      obtain ⟨h1, o, ho, -⟩ := mem_ready.1 hj
      have hj' : j < listed.size := by rw [hI.sz]; exact (Array.getElem?_eq_some_iff.1 ho).1
      have : false ∈ listed.toList := by
        have e : listed[j] = false := by simpa [Array.getD, hj'] using h1
        rw [← e]
        exact Array.mem_toList_iff.2 (Array.getElem_mem hj')
      exact absurd hc (Nat.ne_of_gt (List.count_pos_iff.2 this))
    exact ⟨hr, done listed a w hI hr⟩
  | succ fuel ih =>
    intro listed a w hI hc
    refine ⟨fun hr => done listed a w hI hr, fun i hi => ?_⟩
    obtain ⟨h1, o', ho', hl⟩ := mem_ready.1 hi
    have hin : i < ops.size := (Array.getElem?_eq_some_iff.1 ho').1
    obtain ⟨o, t, ho, hd, ht, hne, ha, hdep⟩ := form_op hB hin
    rw [ho] at ho'
    injection ho' with ho'
    subst ho'
    have ed : dstK ops i = some t := by unfold dstK; rw [ho]; exact hd
    refine wpOp_mono ?_ (step i hin a w hI.asz hI.mo hI.base fun j hj => ?_)
    · rintro a2 w2 ⟨v, rfl, hM, hF⟩
      have hil : i < listed.size := by rw [hI.sz]; exact hin
      refine ih _ _ _ ⟨by simp [hI.sz], ?_, ?_, hI.mo.trans hM, fun t' ht' => ?_, fun k hk hk2 => ?_⟩ ?_
      · rw [ed]; simp [Act.put, hI.asz]
      · rw [ed]; exact hI.df
      · rw [ed]
        have : t ≠ t' := fun e => ht' i (by rw [ed, e])
        simp only [Act.put]
        rw [← hI.base t' ht']
        exact getD_ne _ _ _ this
      · by_cases e : k = i
        · subst e
          have : valK ops (a.put (dstK ops k) v) k = v := by
            unfold valK
            rw [ed]
            exact getD_eq _ _ _ (by rw [hI.asz]; exact ht)
          rw [this]
          exact hF
        · have hk3 : listed.getD k false = true := by
            have : (listed.setIfInBounds i true).getD k false = listed.getD k false := getD_ne _ _ _ (Ne.symm e)
            rwa [this] at hk2
          have : valK ops (a.put (dstK ops i) v) k = valK ops a k := by
            unfold valK
            rw [ed]
            cases hk4 : dstK ops k with
            | none => rfl
            | some t' =>
              have : t ≠ t' := fun e2 => hne k e (by rw [hk4, e2])
              exact getD_ne _ _ _ this
          rw [this]
          exact mono k _ _ _ (hI.val k hk hk3) hM
      · have e : listed.toList[i]'(by simpa using hil) = false := by simpa [Array.getD, hil] using h1
        rw [Array.toList_setIfInBounds, List.count_set (by simpa using hil), e, hc]
        simp
    · obtain ⟨e, he, rfl, hb⟩ := hdep j hj
      exact hI.val _ (by have := ha e he; omega) (hl e he hb)
set_option maxRecDepth 20000 in
theorem wp_region_facts {id : Nat} {a : Act} {w : World} (deps : Nat → List Nat) (F : Nat → Value → World → Prop) (hm : P.follows .mixedOrders = true) (hB : formB ops deps a.tmps.size = true) (mono : ∀ k v w w', F k v w → Mo w w' → F k v w')
    (step : ∀ k, k < ops.size → ∀ a' w', a'.tmps.size = a.tmps.size → Mo w w' → (∀ t, (∀ k, dstK ops k ≠ some t) → a'.tmps.getD t undef = a.tmps.getD t undef) → (∀ j ∈ deps k, F j (valK ops a' j) w') →
      wpOp P ops Q k (fun a2 w2 => ∃ v, a2 = a'.put (dstK ops k) v ∧ Mo w' w2 ∧ F k v w2) a' w')
    (fin : ∀ a' w', FInv ops F a w (Array.replicate ops.size true) a' w' → Q .normal a' w') : (Code.region id ops true).wp P Q a w := by
  refine wp_region_any hm ?_
  refine any_of_facts hB mono step fin _ _ _ _ ⟨by simp, rfl, rfl, ?_, fun _ _ => rfl, fun k hk h => ?_⟩ (by simp)
  · exact ⟨#[], w.drawn + 1, by simp [more]⟩
  · rw [Array.getD_eq_getD_getElem?, Array.getElem?_replicate, if_pos hk] at h; cases h
end
end Go.Proofs.Ytdgmcgfkammioaa
