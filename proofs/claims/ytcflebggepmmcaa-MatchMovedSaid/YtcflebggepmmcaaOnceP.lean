/- horologelaw30.MatchOnce, plain: between two answers to one key it was asked. -/
import Derived.Test.YtcflebggepmmcaaBetP
namespace Go.Proofs.Ytcflebggepmmcaa
open Go.RowKit

set_option maxRecDepth 20000 in
theorem cls_12 {win : Int} {E : List En} {d : Dg} (c : clsM win E d = 1 ∨ clsM win E d = 2) : (classP d.bs).2 = 1 := by
  unfold clsM at c
  by_cases c1 : (classP d.bs).2 = 1
  · exact c1
  · rw [if_neg c1] at c
    by_cases c4 : (classP d.bs).2 = 4
    · rw [if_pos c4] at c
      exfalso
      revert c
      split
      · simp
      · split
        · simp
        · split <;> simp
    · rw [if_neg c4] at c
      rcases classP_rng d.bs with e | e | e | e | e <;> omega
set_option maxRecDepth 20000 in
theorem cls_45 {win : Int} {E : List En} {d : Dg} (c : clsM win E d = 4 ∨ clsM win E d = 5) : (classP d.bs).2 = 4 ∧ ∃ e, findE E (keyC d (classP d.bs).1.h) = some e ∧ e.d = false := by
  unfold clsM at c
  by_cases c1 : (classP d.bs).2 = 1
  · rw [if_pos c1] at c
    exfalso
    revert c
    split <;> simp
  · rw [if_neg c1] at c
    by_cases c4 : (classP d.bs).2 = 4
    · rw [if_pos c4] at c
      refine ⟨c4, ?_⟩
      cases hf : findE E (keyC d (classP d.bs).1.h) with
      | none => rw [hf] at c; simp at c
      | some e =>
        rw [hf] at c
        refine ⟨e, rfl, ?_⟩
        cases hd : e.d with
        | false => rfl
        | true => simp only [hd] at c; simp at c
    · rw [if_neg c4] at c
      rcases classP_rng d.bs with e | e | e | e | e <;> omega
set_option maxRecDepth 20000 in
theorem findE_key {E : List En} {k : Array Value} {e : En} (h : findE E k = some e) : e ∈ E ∧ e.k = k := by
  unfold findE at h
  exact ⟨List.mem_of_find?_eq_some h, eqA_iff.1 (List.find?_some (p := fun e : En => eqA e.k k) h)⟩
set_option maxRecDepth 20000 in
theorem askE_mem {room : Int} {E : List En} {k a : Array Value} {e : En} (h : e ∈ (askE room E k a).2.2) : (e ∈ E ∧ e.k ≠ k) ∨ e.k = k := by
  unfold askE at h
  have key : ∀ x, x ∈ strike E k ++ [(⟨k, a, false⟩ : En)] → (x ∈ E ∧ x.k ≠ k) ∨ x.k = k := fun x hx => by
    rcases List.mem_append.1 hx with q | q
    · exact .inl (strike_mem.1 q)
    · rw [List.mem_singleton] at q; rw [q]; exact .inr rfl
  by_cases c : ((strike E k ++ [(⟨k, a, false⟩ : En)]).length : Int) ≤ room
  · rw [if_pos c] at h; exact key e h
  · rw [if_neg c] at h; exact key e (List.mem_of_mem_tail h)
set_option maxRecDepth 20000 in
theorem ansE_open {E : List En} {k : Array Value} {e : En} (h : e ∈ ansE E k) (o : e.d = false) : e ∈ E ∧ e.k ≠ k := by
  unfold ansE at h
  obtain ⟨x, hx, rfl⟩ := List.mem_map.1 h
  by_cases c : eqA x.k k = true
  · rw [if_pos c] at o; cases o
  · rw [if_neg c]; exact ⟨hx, fun q => c (eqA_iff.2 q)⟩
/-- these keys may be answered -/
structure OnceI (win room : Int) (l : List Dg) (j : Nat) (O : List (Array Value)) : Prop where
  inv : ∀ e ∈ playM room l j, e.d = false → e.k ∈ O
  cnt : runC win room l j 4 + runC win room l j 5 + O.length ≤ runC win room l j 1 + runC win room l j 2
  kp : ∀ k ∈ O, KeyP k
  len : O.length ≤ j
set_option maxRecDepth 20000 in
theorem OnceI.start (win room : Int) (l : List Dg) : OnceI win room l 0 [] := ⟨fun e h => (by cases h), by simp [runC], fun k h => (by cases h), Nat.le_refl _⟩
set_option maxRecDepth 20000 in
theorem upC_at (c : Nat → Int) {q : Int} (i : Nat) (h : (i : Int) = q) : upC c q i = c i + 1 := by unfold upC; rw [if_pos h]
set_option maxRecDepth 20000 in
theorem upC_ne (c : Nat → Int) {q : Int} (i : Nat) (h : (i : Int) ≠ q) : upC c q i = c i := by unfold upC; rw [if_neg h]
set_option maxRecDepth 20000 in
theorem OnceI.ask {win room : Int} {l : List Dg} {j : Nat} {O : List (Array Value)} (h : OnceI win room l j O) (hj : j < l.length) (c : clsM win (playM room l j) l[j] = 1 ∨ clsM win (playM room l j) l[j] = 2) (hk : KeyP (keyC l[j] (classP l[j].bs).1.h)) :
    (keyC l[j] (classP l[j].bs).1.h ∈ O → OnceI win room l (j + 1) O) ∧ (OnceI win room l (j + 1) (O ++ [keyC l[j] (classP l[j].bs).1.h])) := by
  have c1 := cls_12 c
  have en : playM room l (j + 1) = (askE room (playM room l j) (keyC l[j] (classP l[j].bs).1.h) l[j].at_).2.2 := by rw [playM_succ room l j hj]; unfold entM; rw [if_pos c1]
  have rc := runC_succ win room l j hj
  have e4 : runC win room l (j + 1) 4 = runC win room l j 4 := by rw [rc]; exact upC_ne _ 4 (by omega)
  have e5 : runC win room l (j + 1) 5 = runC win room l j 5 := by rw [rc]; exact upC_ne _ 5 (by omega)
  have e12 : runC win room l (j + 1) 1 + runC win room l (j + 1) 2 = runC win room l j 1 + runC win room l j 2 + 1 := by
    rw [rc]
    rcases c with c | c
    · rw [upC_at _ 1 (by omega), upC_ne _ 2 (by omega)]; omega
    · rw [upC_ne _ 1 (by omega), upC_at _ 2 (by omega)]; omega
  have hc := h.cnt
  have hl := h.len
  refine ⟨fun hm => ⟨fun e he o => ?_, by omega, h.kp, by omega⟩, ⟨fun e he o => ?_, by rw [List.length_append, List.length_singleton]; omega, fun k hk' => ?_, by rw [List.length_append, List.length_singleton]; omega⟩⟩
  · rw [en] at he
    rcases askE_mem he with q | q
    · exact h.inv e q.1 o
    · rw [q]; exact hm
  · rw [en] at he
    rw [List.mem_append, List.mem_singleton]
    rcases askE_mem he with q | q
    · exact .inl (h.inv e q.1 o)
    · exact .inr q
  · rcases List.mem_append.1 hk' with q | q
    · exact h.kp k q
    · rw [List.mem_singleton] at q; rw [q]; exact hk
set_option maxRecDepth 20000 in
theorem OnceI.had {win room : Int} {l : List Dg} {j : Nat} {O : List (Array Value)} (h : OnceI win room l j O) (hj : j < l.length) (c : clsM win (playM room l j) l[j] = 4 ∨ clsM win (playM room l j) l[j] = 5) : keyC l[j] (classP l[j].bs).1.h ∈ O := by
  obtain ⟨_, e, he, hd⟩ := cls_45 c
  obtain ⟨h1, h2⟩ := findE_key he
  rw [← h2]
  exact h.inv e h1 hd
set_option maxRecDepth 20000 in
theorem OnceI.answer {win room : Int} {l : List Dg} {j : Nat} {O A B : List (Array Value)} (h : OnceI win room l j O) (hj : j < l.length) (c : clsM win (playM room l j) l[j] = 4 ∨ clsM win (playM room l j) l[j] = 5) (hO : O = A ++ keyC l[j] (classP l[j].bs).1.h :: B) : OnceI win room l (j + 1) (A ++ B) := by
  obtain ⟨c4, _⟩ := cls_45 c
  have c1 : (classP l[j].bs).2 ≠ 1 := by omega
  have en : playM room l (j + 1) = ansE (playM room l j) (keyC l[j] (classP l[j].bs).1.h) := by rw [playM_succ room l j hj]; unfold entM; rw [if_neg c1, if_pos c4]
  have rc := runC_succ win room l j hj
  have e1 : runC win room l (j + 1) 1 = runC win room l j 1 := by rw [rc]; exact upC_ne _ 1 (by omega)
  have e2 : runC win room l (j + 1) 2 = runC win room l j 2 := by rw [rc]; exact upC_ne _ 2 (by omega)
  have e45 : runC win room l (j + 1) 4 + runC win room l (j + 1) 5 = runC win room l j 4 + runC win room l j 5 + 1 := by
    rw [rc]
    rcases c with c | c
    · rw [upC_at _ 4 (by omega), upC_ne _ 5 (by omega)]; omega
    · rw [upC_ne _ 4 (by omega), upC_at _ 5 (by omega)]; omega
  have hc := h.cnt
  have hl := h.len
  have hlen : O.length = (A ++ B).length + 1 := by rw [hO]; simp; omega
  refine ⟨fun e he o => ?_, by omega, fun k hk => ?_, by omega⟩
  · rw [en] at he
    obtain ⟨q1, q2⟩ := ansE_open he o
    have := h.inv e q1 o
    rw [hO, List.mem_append, List.mem_cons] at this
    rw [List.mem_append]
    rcases this with q | q | q
    · exact .inl q
    · exact absurd q q2
    · exact .inr q
  · refine h.kp k ?_
    rw [hO, List.mem_append, List.mem_cons]
    rcases List.mem_append.1 hk with q | q
    · exact .inl q
    · exact .inr (.inr q)
set_option maxRecDepth 20000 in
theorem OnceI.rest {win room : Int} {l : List Dg} {j : Nat} {O : List (Array Value)} (h : OnceI win room l j O) (hj : j < l.length) (c1 : clsM win (playM room l j) l[j] ≠ 1) (c2 : clsM win (playM room l j) l[j] ≠ 2) (c4 : clsM win (playM room l j) l[j] ≠ 4) (c5 : clsM win (playM room l j) l[j] ≠ 5) : OnceI win room l (j + 1) O := by
  have rc := runC_succ win room l j hj
  have e1 : runC win room l (j + 1) 1 = runC win room l j 1 := by rw [rc]; exact upC_ne _ 1 (by omega)
  have e2 : runC win room l (j + 1) 2 = runC win room l j 2 := by rw [rc]; exact upC_ne _ 2 (by omega)
  have e4 : runC win room l (j + 1) 4 = runC win room l j 4 := by rw [rc]; exact upC_ne _ 4 (by omega)
  have e5 : runC win room l (j + 1) 5 = runC win room l j 5 := by rw [rc]; exact upC_ne _ 5 (by omega)
  refine ⟨fun e he o => ?_, by rw [e1, e2, e4, e5]; exact h.cnt, h.kp, by have := h.len; omega⟩
  rw [playM_succ room l j hj] at he
  unfold entM at he
  by_cases k1 : (classP l[j].bs).2 = 1
  · exfalso
    unfold clsM at c1 c2
    rw [if_pos k1] at c1 c2
    revert c1 c2
    split <;> simp
  · rw [if_neg k1] at he
    by_cases k4 : (classP l[j].bs).2 = 4
    · rw [if_pos k4] at he
      exact h.inv e (ansE_open he o).1 o
    · rw [if_neg k4] at he
      exact h.inv e he o
set_option maxRecDepth 20000 in
/-- each datagram is counted once -/
theorem runC_sum (win room : Int) (l : List Dg) : ∀ n, n ≤ l.length → runC win room l n 0 + runC win room l n 1 + runC win room l n 2 + runC win room l n 3 + runC win room l n 4 + runC win room l n 5 + runC win room l n 6 + runC win room l n 7 + runC win room l n 8 = n
  | 0, _ => by simp [runC]
  | n + 1, h => by
    have ih := runC_sum win room l n (by omega)
    rw [runC_succ win room l n (by omega)]
    have b := clsM_rng win (playM room l n) (l[n]'(by omega))
    generalize clsM win (playM room l n) (l[n]'(by omega)) = q at *
    generalize runC win room l n = c at *
    have : q = 0 ∨ q = 1 ∨ q = 2 ∨ q = 3 ∨ q = 4 ∨ q = 5 ∨ q = 6 ∨ q = 7 ∨ q = 8 := by omega
    unfold upC
    rcases this with rfl | rfl | rfl | rfl | rfl | rfl | rfl | rfl | rfl <;> simp <;> omega
end Go.Proofs.Ytcflebggepmmcaa
