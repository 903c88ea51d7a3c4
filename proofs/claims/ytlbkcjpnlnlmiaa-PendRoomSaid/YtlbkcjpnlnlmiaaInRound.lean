/- A region that draws its order inside a round of a loop over an iterator: what holds of it outside holds in the round (no operation is a defer statement). -/
import Derived.Test.YtlbkcjpnlnlmiaaRangeP
import Derived.OrdersHeld
namespace Go.Proofs.Ytlbkcjpnlnlmiaa
open Go.RowKit Go.Shelf

def noDefer (ops : List Oper) : Bool := ops.all fun o => match o.op with
  | .defer _ => false
  | _ => true
section
variable {P : Program} {n l : Nat} {Q : Exit → Act → World → Prop}
set_option maxRecDepth 20000 in
theorem uponIn_of_upon {o : Oper} {a : Act} {K : Act → World → Prop} {r : Result Next} (h : o.upon P a K Q r) : o.uponIn (Fence.wide.inRound l) n P a K Q r := by
  cases r with
  | ok x w' =>
    cases x <;> simp only [Oper.upon, Oper.uponIn] at h ⊢
    case value => exact h
    case skip => exact h
    case defer => exact h
    case enter f args => exact ⟨fun h => (by cases h), CallsIn.inRound l (callsIn_wide.2 h)⟩
    case row row args => exact ⟨fun h => (by cases h), fun c cs _ => let ⟨v, w', r, s⟩ := h c cs; ⟨v, w', r, stepsIn_wide.2 s⟩⟩
  | halt x w' =>
    cases x <;> simp only [Oper.upon, Oper.uponIn] at h ⊢
    case panic u => exact h
set_option maxRecDepth 20000 in
theorem wpOpIn_of_wpOp {ops : Array Oper} (hd : noDefer ops.toList = true) (hL : ¬ LetsOut Q) {i : Nat} {K : Act → World → Prop} {a : Act} {w : World} (h : wpOp P ops Q i K a w) : wpOpIn (Fence.wide.inRound l) n P ops Q i K a w := by
  unfold wpOp at h
  unfold wpOpIn
  cases ho : ops[i]? with
  | none => rw [ho] at h; exact h
  | some o =>
    rw [ho] at h
    simp only at h ⊢
    have hno : ∀ c, o.op ≠ .defer c := fun c hc => by
      obtain ⟨hi, he⟩ := Array.getElem?_eq_some_iff.1 ho
      have hm : o ∈ ops.toList := by rw [← he]; simp
      have := List.all_eq_true.1 hd o hm
      rw [hc] at this
      cases this
    split
    · rename_i hw
      rw [if_pos hw] at h
      rcases h with h | ⟨_, h⟩
      · refine ⟨fun _ _ => trivial, ?_⟩
        show o.uponIn _ n P a K Q ((o.semAt (some l) a.eval).run P w)
        rw [Oper.semAt_some l a.eval o hno]
        exact uponIn_of_upon h
      · exact absurd h hL
    · rename_i hw
      rw [if_neg hw] at h
      exact ⟨fun _ _ => trivial, h⟩
set_option maxRecDepth 20000 in
theorem wpAnyIn_of_wpAny {md : Region.Mode} {ops : Array Oper} (hd : noDefer ops.toList = true) (hL : ¬ LetsOut Q) : ∀ (fuel : Nat) (listed : Array Bool) (a : Act) (w : World), wpAny P md ops Q fuel listed a w → wpAnyIn (Fence.wide.inRound l) n P md ops Q fuel listed a w
  | 0, _, _, _, h => h
  | fuel + 1, _, _, _, h => ⟨h.1, fun i hi => wpOpIn_of_wpOp hd hL (wpOp_mono (fun a' w' h' => wpAnyIn_of_wpAny hd hL fuel _ a' w' h') (h.2 i hi))⟩
set_option maxRecDepth 20000 in
/-- the beginning: a region that draws, in a round; loads of held cells are taken first -/
theorem wpIn_region_round {S : World → Prop} {id : Nat} {ops : Array Oper} {a : Act} {w : World} (hm : P.follows .mixedOrders = true) (hd : noDefer ops.toList = true) (hL : ¬ LetsOut Q)
    (h : wpAnyH P .any ops Q S ops.size (Array.replicate ops.size false) a w.drew) : (Code.region id ops true).wpIn (Fence.wide.inRound l) n P Q a w :=
  wpIn_region_any hm (wpAnyIn_of_wpAny hd hL _ _ _ _ (wpAny_of_held _ _ _ _ h))
end
end Go.Proofs.Ytlbkcjpnlnlmiaa
