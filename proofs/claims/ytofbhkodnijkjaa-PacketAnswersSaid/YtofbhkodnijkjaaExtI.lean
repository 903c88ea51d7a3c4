/- What is put is what is read: the reference's Put is Put's (no program in sight). -/
import Derived.Test.YtofbhkodnijkjaaExtE
namespace Go.Proofs.Ytofbhkodnijkjaa
open Go.RowKit

def macM (bs : List Int) : List Int := if (nextM (bs.drop (endF bs 0))).1 = 1 then bs.drop (endF bs 0) else []
def refPutM (l : List Fld) (mac : List Int) : List Int × Int :=
  if 32 < l.length then ([], 3)
  else if l.any big = true then ([], 2)
  else if (nextM ((encM l ++ mac).drop (endF (encM l ++ mac) 0))).1 = 3 ∨ (parse (encM l ++ mac) 0).map fldOf ≠ l ∨ macM (encM l ++ mac) ≠ mac then ([], 2)
  else (encM l ++ mac, 0)
set_option maxRecDepth 20000 in
theorem four {bs : List Int} (h : 4 ≤ bs.length) : bs = bs.getD 0 0 :: bs.getD 1 0 :: bs.getD 2 0 :: bs.getD 3 0 :: bs.drop 4 := by
  match bs, h with
  | a :: b :: c :: d :: t, _ => rfl
set_option maxRecDepth 20000 in
theorem enc_parse (bs : List Int) (hb : ∀ c ∈ bs, 0 ≤ c ∧ c ≤ 255) : ∀ (m a : Nat), bs.length - a ≤ m → encM ((parse bs a).map fldOf) ++ bs.drop (endF bs a) = bs.drop a := by
  intro m
  induction m with
  | zero =>
    intro a hm
    have h : ¬ (nextM (bs.drop a)).1 = 2 := fun h => by
      have := (nextM_field h).1
      rw [List.length_drop] at this
      omega
    rw [parse_nil h, endF_nil h]
    rfl
  | succ m ih =>
    intro a hm
    by_cases h : (nextM (bs.drop a)).1 = 2
    · obtain ⟨f1, f2, f3, f4, f5⟩ := nextM_field h
      have hl := part_len h
      have hi := ih (a + sz (bs.drop a)) (by rw [List.length_drop] at f1; omega)
      rw [parse_cons h, endF_cons h]
      have hbd : ∀ c ∈ bs.drop a, 0 ≤ c ∧ c ≤ 255 := fun c hc => hb c (List.mem_of_mem_drop hc)
      have hd : bs.drop (a + sz (bs.drop a)) = (bs.drop a).drop (sz (bs.drop a)) := by rw [List.drop_drop]
      rw [hd] at hi
      rw [List.map_cons, show encM (_ :: _) = fldB _ ++ encM _ from rfl, List.append_assoc, hi]
      generalize bs.drop a = t at *
      have g : ∀ i, i < t.length → 0 ≤ t.getD i 0 ∧ t.getD i 0 ≤ 255 := fun i hi => by
        rw [List.getD_eq_getElem?_getD, List.getElem?_eq_getElem hi]
        exact hbd _ (List.getElem_mem hi)
      have g0 := g 0 (by omega)
      have g1 := g 1 (by omega)
      have g2 := g 2 (by omega)
      have g3 := g 3 (by omega)
      have es : (sz t : Int) = t.getD 2 0 * 256 + t.getD 3 0 := by unfold sz sizeM; omega
      unfold fldB fldOf kindM
      simp only [hl]
      rw [show (4 + (sz t - 4) : Nat) = sz t by omega]
      have e0 : (t.getD 0 0 * 256 + t.getD 1 0) / 256 = t.getD 0 0 := by omega
      have e1 : (t.getD 0 0 * 256 + t.getD 1 0) % 256 = t.getD 1 0 := by omega
      have e2 : (sz t : Int) / 256 = t.getD 2 0 := by omega
      have e3 : (sz t : Int) % 256 = t.getD 3 0 := by omega
      rw [e0, e1, e2, e3]
      have e4 : t.drop (sz t) = (t.drop 4).drop (sz t - 4) := by rw [List.drop_drop]; congr 1; omega
      rw [e4]
      conv => rhs; rw [four (bs := t) (by omega)]
      simp only [List.cons_append]
      rw [List.take_append_drop]
    · rw [parse_nil h, endF_nil h]
      rfl
set_option maxRecDepth 20000 in
theorem macM_nil {bs : List Int} (h : (nextM (bs.drop (endF bs 0))).1 = 0) : bs.drop (endF bs 0) = [] := by
  unfold nextM at h
  by_cases c0 : (bs.drop (endF bs 0)).length = 0
  · exact List.eq_nil_of_length_eq_zero c0
  · rw [if_neg c0] at h
    split at h
    · simp at h
    · split at h
      · simp at h
      · split at h <;> simp at h
set_option maxRecDepth 20000 in
theorem nextM_end (bs : List Int) : ∀ (m a : Nat), bs.length - a ≤ m → ¬ (nextM (bs.drop (endF bs a))).1 = 2 := by
  intro m
  induction m with
  | zero =>
    intro a hm
    have h : ¬ (nextM (bs.drop a)).1 = 2 := fun h => by
      have := (nextM_field h).1
      rw [List.length_drop] at this
      omega
    rw [endF_nil h]
    exact h
  | succ m ih =>
    intro a hm
    by_cases h : (nextM (bs.drop a)).1 = 2
    · rw [endF_cons h]
      obtain ⟨f1, _, f3, _, _⟩ := nextM_field h
      rw [List.length_drop] at f1
      exact ih _ (by omega)
    · rw [endF_nil h]; exact h
set_option maxRecDepth 20000 in
theorem nextM_cases (bs : List Int) : (nextM bs).1 = 0 ∨ (nextM bs).1 = 1 ∨ (nextM bs).1 = 2 ∨ (nextM bs).1 = 3 := by
  unfold nextM
  split
  · exact .inl rfl
  · split
    · exact .inr (.inl rfl)
    · split
      · exact .inr (.inr (.inr rfl))
      · split
        · exact .inr (.inr (.inr rfl))
        · exact .inr (.inr (.inl rfl))
set_option maxRecDepth 20000 in
theorem takeM_ok {bs : List Int} : (takeM bs).2.2 = 0 ↔ (parse bs 0).length ≤ 32 ∧ ¬ (nextM (bs.drop (endF bs 0))).1 = 3 := by
  unfold takeM
  simp only [List.length_map]
  by_cases h1 : 32 < (parse bs 0).length
  · rw [if_pos h1]; simp; omega
  · rw [if_neg h1]
    by_cases h2 : (nextM (bs.drop (endF bs 0))).1 = 3
    · rw [if_pos h2]; simp [h2]
    · rw [if_neg h2]; simp [h2]; omega
set_option maxRecDepth 20000 in
theorem takeM_val {bs : List Int} (h : (takeM bs).2.2 = 0) : takeM bs = ((parse bs 0).map fldOf, macM bs, 0) := by
  obtain ⟨h1, h2⟩ := takeM_ok.1 h
  unfold takeM macM
  simp only [List.length_map]
  rw [if_neg (by omega), if_neg h2]
set_option maxRecDepth 20000 in
theorem refPut_eq (l : List Fld) (mac : List Int) (hx : ∀ x ∈ l, (0 ≤ x.kind ∧ x.kind ≤ 65535) ∧ ∀ c ∈ x.val, 0 ≤ c ∧ c ≤ 255) (hm : ∀ c ∈ mac, 0 ≤ c ∧ c ≤ 255) : refPutM l mac = putM l mac := by
  unfold refPutM putM
  by_cases h1 : 32 < l.length
  · rw [if_pos h1, if_pos h1]
  rw [if_neg h1, if_neg h1]
  by_cases h2 : l.any big = true
  · rw [if_pos h2, if_pos h2]
  rw [if_neg h2, if_neg h2]
  have hby : ∀ c ∈ encM l ++ mac, 0 ≤ c ∧ c ≤ 255 := fun c hc => by
    rcases List.mem_append.1 hc with h | h
    · exact encM_byte l hx (fun x hx' hb => h2 (List.any_eq_true.2 ⟨x, hx', hb⟩)) c h
    · exact hm c h
  have hep := enc_parse (encM l ++ mac) hby (encM l ++ mac).length 0 (by omega)
  rw [List.drop_zero] at hep
  have iff : ((nextM ((encM l ++ mac).drop (endF (encM l ++ mac) 0))).1 = 3 ∨ (parse (encM l ++ mac) 0).map fldOf ≠ l ∨ macM (encM l ++ mac) ≠ mac) ↔ ((takeM (encM l ++ mac)).2.2 ≠ 0 ∨ (takeM (encM l ++ mac)).2.1.length ≠ mac.length ∨ l ≠ (takeM (encM l ++ mac)).1) := by
    obtain ⟨b, hb0⟩ : ∃ b, encM l ++ mac = b := ⟨_, rfl⟩
    rw [hb0] at hep ⊢
    constructor
    · rintro (h | h | h)
      · exact .inl fun e => (takeM_ok.1 e).2 h
      · by_cases e : (takeM b).2.2 = 0
        · refine .inr (.inr ?_)
          rw [takeM_val e]
          exact fun e => h e.symm
        · exact .inl e
      · by_cases e : (takeM b).2.2 = 0
        · by_cases e2 : (parse b 0).map fldOf = l
          · refine .inr (.inl ?_)
            rw [takeM_val e]
            intro e3
            apply h
            rw [e2, ← hb0] at hep
            have hd : (encM l ++ mac).drop (endF (encM l ++ mac) 0) = mac := List.append_cancel_left hep
            rw [hb0] at hd
            unfold macM
            rcases nextM_cases (b.drop (endF b 0)) with q | q | q | q
            · rw [if_neg (by rw [q]; decide), ← hd, macM_nil q]
            · rw [if_pos q, hd]
            · exact absurd q (nextM_end b b.length 0 (by omega))
            · exact absurd q (takeM_ok.1 e).2
          · refine .inr (.inr ?_)
            rw [takeM_val e]
            exact fun e => e2 e.symm
        · exact .inl e
    · intro h
      by_cases q3 : (nextM (b.drop (endF b 0))).1 = 3
      · exact .inl q3
      by_cases q2 : (parse b 0).map fldOf = l
      · refine .inr (.inr fun q1 => ?_)
        have e : (takeM b).2.2 = 0 := takeM_ok.2 ⟨by have := congrArg List.length q2; rw [List.length_map] at this; omega, q3⟩
        rw [takeM_val e] at h
        rcases h with h | h | h
        · exact h rfl
        · exact h (by rw [q1])
        · exact h q2.symm
      · exact .inr (.inl q2)
  by_cases h3 : (takeM (encM l ++ mac)).2.2 ≠ 0 ∨ (takeM (encM l ++ mac)).2.1.length ≠ mac.length ∨ l ≠ (takeM (encM l ++ mac)).1
  · rw [if_pos h3, if_pos (iff.2 h3)]
  · rw [if_neg h3, if_neg (fun h => h3 (iff.1 h))]
end Go.Proofs.Ytofbhkodnijkjaa
