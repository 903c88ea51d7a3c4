/- What is put is taken as it was, and the other way about: plain. -/
import Derived.Test.YtofbhkodnijkjaaExtI
namespace Go.Proofs.Ytofbhkodnijkjaa
open Go.RowKit

set_option maxRecDepth 20000 in
theorem put_take {l : List Fld} {mac bs : List Int} (hx : ∀ x ∈ l, (0 ≤ x.kind ∧ x.kind ≤ 65535) ∧ ∀ c ∈ x.val, 0 ≤ c ∧ c ≤ 255) (hm : ∀ c ∈ mac, 0 ≤ c ∧ c ≤ 255) (h : putM l mac = (bs, 0)) : takeM bs = (l, mac, 0) := by
  have h2 := h
  rw [← refPut_eq l mac hx hm] at h2
  unfold putM at h
  unfold refPutM at h2
  by_cases c1 : 32 < l.length
  · rw [if_pos c1] at h; simp at h
  rw [if_neg c1] at h h2
  by_cases c2 : l.any big = true
  · rw [if_pos c2] at h; simp at h
  rw [if_neg c2] at h h2
  by_cases c3 : (takeM (encM l ++ mac)).2.2 ≠ 0 ∨ (takeM (encM l ++ mac)).2.1.length ≠ mac.length ∨ l ≠ (takeM (encM l ++ mac)).1
  · rw [if_pos c3] at h; simp at h
  rw [if_neg c3] at h
  by_cases c4 : (nextM ((encM l ++ mac).drop (endF (encM l ++ mac) 0))).1 = 3 ∨ (parse (encM l ++ mac) 0).map fldOf ≠ l ∨ macM (encM l ++ mac) ≠ mac
  · rw [if_pos c4] at h2; simp at h2
  have hb : encM l ++ mac = bs := (Prod.mk.inj h).1
  rw [hb] at c3 c4
  have t0 : (takeM bs).2.2 = 0 := Decidable.byContradiction fun h => c3 (.inl h)
  have t1 : (parse bs 0).map fldOf = l := Decidable.byContradiction fun h => c4 (.inr (.inl h))
  have t2 : macM bs = mac := Decidable.byContradiction fun h => c4 (.inr (.inr h))
  rw [takeM_val t0, t1, t2]
set_option maxRecDepth 20000 in
theorem big_no {l : List Fld} (h : totM l ≤ 65532) : ¬ l.any big = true := by
  intro h2
  obtain ⟨x, hx, hb⟩ := List.any_eq_true.1 h2
  unfold big at hb
  rw [decide_eq_true_eq] at hb
  have : 4 + x.val.length ≤ totM l := by
    unfold totM
    clear h h2 hb
    induction l with
    | nil => simp at hx
    | cons y ys ih =>
      rw [List.map_cons, List.sum_cons]
      rcases List.mem_cons.1 hx with rfl | hx
      · omega
      · have := ih hx; omega
  omega
set_option maxRecDepth 20000 in
theorem take_put {b mac : List Int} {l : List Fld} (hb : ∀ c ∈ b, 0 ≤ c ∧ c ≤ 255) (hl : b.length ≤ 65532) (h : takeM b = (l, mac, 0)) : putM l mac = (b, 0) ∧ l.length ≤ 32 ∧ totM l + mac.length = b.length := by
  have t0 : (takeM b).2.2 = 0 := by rw [h]
  obtain ⟨q1, q2⟩ := takeM_ok.1 t0
  have tv := takeM_val t0
  rw [h] at tv
  have e1 : l = (parse b 0).map fldOf := (Prod.mk.inj tv).1
  have e2 : mac = macM b := (Prod.mk.inj (Prod.mk.inj tv).2).1
  have ep := enc_parse b hb (b.length) 0 (by omega)
  rw [List.drop_zero, ← e1] at ep
  have hmac : b.drop (endF b 0) = mac := by
    rw [e2]
    unfold macM
    rcases nextM_cases (b.drop (endF b 0)) with c | c | c | c
    · rw [if_neg (by rw [c]; decide)]; exact macM_nil c
    · rw [if_pos c]
    · exact absurd c (nextM_end b b.length 0 (by omega))
    · exact absurd c q2
  rw [hmac] at ep
  have hlen : totM l + mac.length = b.length := by rw [← ep, List.length_append, encM_len]
  have hl32 : l.length ≤ 32 := by rw [e1, List.length_map]; exact q1
  refine ⟨?_, hl32, hlen⟩
  unfold putM
  rw [if_neg (by omega), if_neg (big_no (by omega)), ep, h, if_neg (by simp)]
end Go.Proofs.Ytofbhkodnijkjaa
