/- horologelaw35.EpochCopies: End of a maker in a state of going. -/
import Derived.Test.YtdgmcgfkammioaaEpC
namespace Go.Proofs.Ytdgmcgfkammioaa
open Go.RowKit Go.Maps

/-- what End tells in a state -/
def EndIs (st : GS) (E : Ep) (b : Bool) : Prop := (st.cur = [] ∧ E = ep0 ∧ b = false) ∨ (st.cur ≠ [] ∧ IsTold st.n 16 (bestL st.cur) E ∧ b = true)
set_option maxRecDepth 20000 in
theorem EndIs.uniq {st : GS} {E E' : Ep} {b b' : Bool} (h : EndIs st E b) (k : EndIs st E' b') : E = E' ∧ b = b' := by
  rcases h with ⟨h1, h2, h3⟩ | ⟨h1, h2, h3⟩ <;> rcases k with ⟨k1, k2, k3⟩ | ⟨k1, k2, k3⟩
  · exact ⟨h2.trans k2.symm, h3.trans k3.symm⟩
  · exact absurd h1 k1
  · exact absurd k1 h1
  · exact ⟨told_uniq h2 k2, h3.trans k3.symm⟩
set_option maxRecDepth 20000 in
theorem told_len16 {n : Int} {f : BestF} {E : Ep} (h : IsTold n 16 f E) : E.srv.length ≤ 1000 ∧ E.tr.length ≤ 1000 := by
  have h1 := (told_len h).2
  have h2 := (told_tr h).2.2
  have h3 := keysB_len 16 f
  rw [← h1] at h3
  omega
set_option maxRecDepth 20000 in
theorem EndIs.len {st : GS} {E : Ep} {b : Bool} (h : EndIs st E b) : E.srv.length ≤ 1000 ∧ E.tr.length ≤ 1000 := by
  rcases h with ⟨_, rfl, _⟩ | ⟨_, h, _⟩
  · exact ⟨Nat.zero_le _, Nat.zero_le _⟩
  · exact told_len16 h
set_option maxRecDepth 20000 in
theorem eend_any (M B : Nat) (st : GS) (W : World) (h : MkIs W M B (mkG st)) :
    Calls Try.prog 15 #[pM M] W fun e w' => ∃ E A c D d b, e = .returned (.tuple #[.agg (eC E A c D d), .bool b]) ∧ IntT w' A (natI E.srv) ∧ IntT w' D (natI E.tr) ∧ EndIs st E b ∧ Mo W w' := by
  by_cases c1 : st.cur = []
  · refine (eend_no M B (mkG st) W h (by unfold mkG; rw [if_pos c1]; rfl)).mono ?_
    rintro e w' ⟨rfl, m⟩
    exact ⟨ep0, none, 0, none, 0, false, rfl, .inl rfl, .inl rfl, .inl ⟨c1, rfl, rfl⟩, m⟩
  · have inum : (mkG st).num = st.n := by unfold mkG; rw [if_neg c1]
    have isv : (mkG st).sv = 16 := by unfold mkG; rw [if_neg c1]
    have iff' : (mkG st).f = bestL st.cur := by unfold mkG; rw [if_neg c1]
    refine (eend_yes M B (mkG st) W h (by unfold mkG; rw [if_neg c1])).mono ?_
    rintro e w' ⟨E, v, hE, rfl, ⟨A, c, D, d, rfl, J1, J2⟩, m⟩
    rw [inum, isv, iff'] at hE
    exact ⟨E, A, c, D, d, true, rfl, J1, J2, .inr ⟨c1, hE, rfl⟩, m⟩
end Go.Proofs.Ytdgmcgfkammioaa
