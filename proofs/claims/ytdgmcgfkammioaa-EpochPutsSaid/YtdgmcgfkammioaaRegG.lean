/- Steps for RegF's law: an operation that yields, one that calls, one whose guard leaves it out. -/
import Derived.Test.YtdgmcgfkammioaaRegF
namespace Go.Proofs.Ytdgmcgfkammioaa
open Go.RowKit

/-- the predicates of a region's operations, as a list -/
def ofFL (L : List (Value → World → Prop)) (k : Nat) (v : Value) (w : World) : Prop := L.getD k (fun _ _ => True) v w
def MonoL (L : List (Value → World → Prop)) : Prop := ∀ f ∈ L, ∀ v w w', f v w → Mo w w' → f v w'
set_option maxRecDepth 20000 in
theorem MonoL.nil : MonoL [] := fun f h => by cases h
set_option maxRecDepth 20000 in
theorem MonoL.cons {f : Value → World → Prop} {L : List (Value → World → Prop)} (h : ∀ v w w', f v w → Mo w w' → f v w') (k : MonoL L) : MonoL (f :: L) := fun g hg => by
  rcases List.mem_cons.1 hg with rfl | hg
  · exact h
  · exact k g hg
set_option maxRecDepth 20000 in
theorem MonoL.eq (u : Value) {L : List (Value → World → Prop)} (k : MonoL L) : MonoL ((fun v _ => v = u) :: L) := MonoL.cons (fun _ _ _ h _ => h) k
set_option maxRecDepth 20000 in
theorem MonoL.any {L : List (Value → World → Prop)} (k : MonoL L) : MonoL ((fun _ _ => True) :: L) := MonoL.cons (fun _ _ _ h _ => h) k
set_option maxRecDepth 20000 in
theorem ofFL_mono {L : List (Value → World → Prop)} (h : MonoL L) (k : Nat) (v : Value) (w w' : World) (hk : ofFL L k v w) (m : Mo w w') : ofFL L k v w' := by
  unfold ofFL at hk ⊢
  rw [List.getD_eq_getElem?_getD] at hk ⊢
  cases e : L[k]? with
  | none => trivial
  | some f => rw [e] at hk; exact h f (List.mem_of_getElem? e) v w w' hk m
section
variable {P : Program} {ops : Array Oper} {Q : Exit → Act → World → Prop} {F : Nat → Value → World → Prop} {k : Nat} {o : Oper} {a : Act} {w : World}
set_option maxRecDepth 20000 in
theorem rg_dst (ho : ops[k]? = some o) : dstK ops k = o.dst := by unfold dstK; rw [ho]; rfl
set_option maxRecDepth 20000 in
theorem rg_dep {j t : Nat} (h : F j (valK ops a j) w) (e : dstK ops j = some t) : F j (a.tmps.getD t undef) w := by
  unfold valK at h
  rw [e] at h
  exact h
set_option maxRecDepth 20000 in
theorem rg_w0 {y : Nat → Option Bool} (hg : o.guard = none) : Region.wanted o y = true := by unfold Region.wanted; rw [hg]
set_option maxRecDepth 20000 in
theorem yielded_of {g t : Nat} {b : Bool} (e : dstK ops g = some t) (h : a.tmps.getD t undef = .bool b) : yielded ops a.tmps g = some b := by
  unfold yielded
  have e' : (ops[g]?).bind (·.dst) = some t := e
  rw [e']
  show (match a.tmps[t]? with | some (.bool b) => some b | _ => none) = some b
  rw [Array.getD_eq_getD_getElem?] at h
  cases q : a.tmps[t]? with
  | none => rw [q] at h; cases h
  | some v => rw [q] at h; have h' : v = .bool b := h; rw [h']
set_option maxRecDepth 20000 in
theorem rg_w1 {g t : Nat} {b : Bool} (hg : o.guard = some (g, b)) (e : dstK ops g = some t) (h : a.tmps.getD t undef = .bool b) : Region.wanted o (yielded ops a.tmps) = true := by
  unfold Region.wanted
  rw [hg]
  simp only [yielded_of e h]
  cases b <;> rfl
set_option maxRecDepth 20000 in
theorem rg_n1 {g t : Nat} {b : Bool} (hg : o.guard = some (g, b)) (e : dstK ops g = some t) (h : a.tmps.getD t undef = .bool (!b)) : Region.wanted o (yielded ops a.tmps) = false := by
  unfold Region.wanted
  rw [hg]
  simp only [yielded_of e h]
  cases b <;> rfl
set_option maxRecDepth 20000 in
theorem rg_val {v : Value} {w2 : World} (ho : ops[k]? = some o) (hw : Region.wanted o (yielded ops a.tmps) = true) (hr : (execOp a.eval o).run P w = .ok (.value v) w2) (hM : Mo w w2) (hF : F k v w2) :
    wpOp P ops Q k (fun a2 w2 => ∃ v, a2 = a.put (dstK ops k) v ∧ Mo w w2 ∧ F k v w2) a w := by
  unfold wpOp
  rw [ho]
  simp only
  rw [if_pos hw]
  refine .inl ?_
  unfold Oper.wp
  rw [hr, Oper.upon_value]
  exact ⟨v, by rw [rg_dst ho], hM, hF⟩
set_option maxRecDepth 20000 in
theorem rg_call {f : FuncId} {args : Array Value} (ho : ops[k]? = some o) (hw : Region.wanted o (yielded ops a.tmps) = true) (hr : (execOp a.eval o).run P w = .ok (.enter f args) w)
    (hC : Calls P f args w fun e w' => ∃ v, e = .returned v ∧ Mo w w' ∧ F k v w') :
    wpOp P ops Q k (fun a2 w2 => ∃ v, a2 = a.put (dstK ops k) v ∧ Mo w w2 ∧ F k v w2) a w := by
  unfold wpOp
  rw [ho]
  simp only
  rw [if_pos hw]
  refine .inl ?_
  unfold Oper.wp
  rw [hr, Oper.upon_enter]
  refine hC.mono ?_
  rintro e w' ⟨v, rfl, hM, hF⟩
  exact ⟨v, by rw [rg_dst ho], hM, hF⟩
set_option maxRecDepth 20000 in
/-- an operation that its guard leaves out -/
theorem rg_skip (ho : ops[k]? = some o) (hw : Region.wanted o (yielded ops a.tmps) = false) (hF : F k undef w) :
    wpOp P ops Q k (fun a2 w2 => ∃ v, a2 = a.put (dstK ops k) v ∧ Mo w w2 ∧ F k v w2) a w := by
  unfold wpOp
  rw [ho]
  simp only
  rw [hw]
  simp only [Bool.false_eq_true, if_false]
  exact ⟨undef, by rw [rg_dst ho], Mo.refl _, hF⟩
set_option maxRecDepth 20000 in
theorem rg_free {t : Nat} (h : ((List.range ops.size).all fun k => !(dstK ops k == some t)) = true) : ∀ k, dstK ops k ≠ some t := fun k e => by
  have hk : k < ops.size := by
    unfold dstK at e
    cases ho : ops[k]? with
    | none => rw [ho] at e; cases e
    | some _ => exact (Array.getElem?_eq_some_iff.1 ho).1
  have := (List.all_eq_true.1 h) k (List.mem_range.2 hk)
  rw [e] at this
  simp at this
end
set_option maxRecDepth 20000 in
theorem arr_eqG {a l : Array Value} (h : a.size = l.size) (k : ∀ i, i < l.size → a.getD i undef = l.getD i undef) : a = l := by
  refine Array.ext h fun i h1 h2 => ?_
  have := k i h2
  rw [Array.getD_eq_getD_getElem?, Array.getD_eq_getD_getElem?, Array.getElem?_eq_getElem h1, Array.getElem?_eq_getElem h2] at this
  exact this
set_option maxRecDepth 20000 in
theorem act_eqG {a : Act} {l : Array Value} (h1 : a.defers = []) (h2 : a.tmps = l) : a = { tmps := l, defers := [] } := by
  obtain ⟨t, d⟩ := a
  simp only at h1 h2
  rw [h1, h2]
end Go.Proofs.Ytdgmcgfkammioaa
