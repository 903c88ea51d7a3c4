/- pend's calls, told of entries alone. -/
import Derived.Test.YtlbkcjpnlnlmiaaPendE
namespace Go.Proofs.Ytlbkcjpnlnlmiaa
open Go.RowKit Go.Maps

/-- a table of entries E, whose blocks are of P -/
def TabE (W : World) (T B : Nat) (room : Int) (E : List En) (P : Nat → Prop) : Prop := ∃ L, TabAt W T B room L ∧ L.map (·.2) = E ∧ ∀ i, Foot T B L i → P i
set_option maxRecDepth 20000 in
theorem TabE.mo {W w : World} {T B : Nat} {room : Int} {E : List En} {P : Nat → Prop} (h : TabE W T B room E P) (k : Mo W w) : TabE w T B room E P := by
  obtain ⟨L, h1, h2, h3⟩ := h
  exact ⟨L, h1.mo k, h2, h3⟩
set_option maxRecDepth 20000 in
theorem TabE.keep {W w : World} {T B : Nat} {room : Int} {E : List En} {P : Nat → Prop} (h : TabE W T B room E P) (k : ∀ i, i < W.heap.size → P i → w.heap[i]? = W.heap[i]?) : TabE w T B room E P := by
  obtain ⟨L, h1, h2, h3⟩ := h
  exact ⟨L, h1.keep fun i hi hf => k i hi (h3 i hf), h2, h3⟩
set_option maxRecDepth 20000 in
theorem TabE.weak {W : World} {T B : Nat} {room : Int} {E : List En} {P Q : Nat → Prop} (h : TabE W T B room E P) (k : ∀ i, i < W.heap.size → P i → Q i) : TabE W T B room E Q := by
  obtain ⟨L, h1, h2, h3⟩ := h
  exact ⟨L, h1, h2, fun i hf => k i (h1.lt i hf) (h3 i hf)⟩
set_option maxRecDepth 20000 in
theorem TabE.ok {W : World} {T B : Nat} {room : Int} {E : List En} {P : Nat → Prop} (h : TabE W T B room E P) : ∀ e ∈ E, EnOk e := by
  obtain ⟨L, h1, rfl, -⟩ := h
  intro e he
  obtain ⟨q, hq, rfl⟩ := List.mem_map.1 he
  exact h1.ok q hq
set_option maxRecDepth 20000 in
theorem TabE.keys {W : World} {T B : Nat} {room : Int} {E : List En} {P : Nat → Prop} (h : TabE W T B room E P) : (E.map (·.k)).Nodup := by
  obtain ⟨L, h1, rfl, -⟩ := h
  have := h1.keys
  rw [List.map_map]
  exact this
set_option maxRecDepth 20000 in
theorem TabE.tab {W : World} {T B : Nat} {room : Int} {E : List En} {P : Nat → Prop} (h : TabE W T B room E P) : ∃ o y, Blk W T 75 #[.int .i64 room, .map (some B), o, y] := by
  obtain ⟨L, h1, -, -⟩ := h
  exact ⟨_, _, h1.t⟩
noncomputable def findE (E : List En) (k : Array Value) : Option En := E.find? fun e => eqA e.k k
noncomputable def ansE (E : List En) (k : Array Value) : List En := E.map fun e => if eqA e.k k then ⟨e.k, e.a, true⟩ else e
noncomputable def ansV (E : List En) (k : Array Value) : Value × Int :=
  match findE E k with
  | none => (.agg (enC k wdz false), 7)
  | some e => (.agg (enC e.k e.a e.d), if e.d then 6 else 4)
set_option maxRecDepth 20000 in
theorem findE_some {E : List En} {e : En} (nd : (E.map (·.k)).Nodup) (h : e ∈ E) : findE E e.k = some e := by
  unfold findE
  induction E with
  | nil => cases h
  | cons x E ih =>
    rw [List.map_cons, List.nodup_cons] at nd
    rcases List.mem_cons.1 h with rfl | h
    · exact List.find?_cons_of_pos (p := fun y : En => eqA y.k e.k) (eqA_self _)
    · rw [List.find?_cons_of_neg (p := fun y : En => eqA y.k e.k) (fun c => nd.1 (by rw [eqA_iff.1 c]; exact List.mem_map_of_mem h)), ih nd.2 h]
set_option maxRecDepth 20000 in
theorem findE_none {E : List En} {k : Array Value} (h : ∀ e ∈ E, e.k ≠ k) : findE E k = none := by
  unfold findE
  rw [List.find?_eq_none]
  intro e he c
  exact h e he (eqA_iff.1 c)
set_option maxRecDepth 20000 in
theorem hasE_find (E : List En) (k : Array Value) : hasE E k = (findE E k).isSome := by
  unfold hasE findE
  rw [Bool.eq_iff_iff, List.any_eq_true, List.find?_isSome]
set_option maxRecDepth 20000 in
theorem length_askE {room : Int} {E : List En} {k a : Array Value} (h : (E.length : Int) ≤ room) : ((askE room E k a).2.2.length : Int) ≤ room := by
  unfold askE
  by_cases c : ((strike E k ++ [(⟨k, a, false⟩ : En)]).length : Int) ≤ room
  · rw [if_pos c]; exact c
  · rw [if_neg c]
    have : (strike E k).length ≤ E.length := List.length_filter_le _ _
    simp only [List.length_tail, List.length_append, List.length_cons, List.length_nil]
    omega
set_option maxRecDepth 20000 in
theorem ask_e (T B : Nat) (room : Int) (E : List En) (P : Nat → Prop) (k a : Array Value) (W : World) (h : TabE W T B room E P) (hk : KeyP k) (ha : Fits (ksOf 40) a.toList) (hl : E.length ≤ 65536) :
    Calls Try.prog 11 #[ptr T, .agg k, .agg a] W fun e w' => ∃ r, askE room E k a = r ∧ e = .returned (.tuple #[.bool r.1, outV r.2.1, .bool r.2.1.isSome]) ∧ TabE w' T B room r.2.2 (fun i => P i ∨ W.heap.size ≤ i) ∧ KpS P W w' := by
  obtain ⟨L, h1, rfl, h3⟩ := h
  refine (ask_any T B room L k a W h1 hk ha (by rwa [List.length_map] at hl)).mono ?_
  rintro e w' ⟨L', t, kp, sb, e1, e2⟩
  refine ⟨_, rfl, e2, ⟨L', t, e1, fun i hf => ?_⟩, kp.mono fun i _ s => h3 i s⟩
  by_cases c : i < W.heap.size
  · exact .inl (h3 i (sb i c hf))
  · exact .inr (by omega)
set_option maxRecDepth 20000 in
theorem find_e (T B : Nat) (room : Int) (E : List En) (P : Nat → Prop) (k : Array Value) (W : World) (h : TabE W T B room E P) (hk : KeyP k) :
    Calls Try.prog 10 #[ptr T, .agg k] W fun e w' => e = .returned (.tuple #[outV (findE E k), .bool (hasE E k)]) ∧ Mo W w' := by
  have nd := h.keys
  obtain ⟨L, h1, rfl, h3⟩ := h
  refine (find_any T B room L k W h1 hk).mono ?_
  rintro e w' ⟨M, ⟨q, hq, rfl, e2⟩ | ⟨hn, e2⟩⟩
  · have hm : q.2 ∈ L.map (·.2) := List.mem_map_of_mem hq
    rw [hasE_find, findE_some nd hm]
    exact ⟨e2, M⟩
  · have : findE (L.map (·.2)) k = none := findE_none fun e he => by
      obtain ⟨q, hq, rfl⟩ := List.mem_map.1 he
      exact hn q hq
    rw [hasE_find, this]
    exact ⟨e2, M⟩
set_option maxRecDepth 20000 in
theorem answer_e (T B : Nat) (room : Int) (E : List En) (P : Nat → Prop) (k : Array Value) (W : World) (h : TabE W T B room E P) (hk : KeyP k) :
    Calls Try.prog 12 #[ptr T, .agg k] W fun e w' => ∃ r, ansV E k = r ∧ e = .returned (.tuple #[r.1, .int .u8 r.2]) ∧ TabE w' T B room (ansE E k) P ∧ KpS P W w' := by
  have nd := h.keys
  obtain ⟨L, h1, rfl, h3⟩ := h
  refine (answer_any T B room L k W h1 hk).mono ?_
  rintro e w' ⟨t, kp, hr⟩
  have tt : TabE w' T B room (ansE (L.map (·.2)) k) P := ⟨AnsL L k, t, by
    unfold AnsL ansE
    rw [List.map_map, List.map_map]
    refine List.map_congr_left fun q _ => ?_
    simp only [Function.comp]
    by_cases c : eqA q.2.k k = true
    · rw [if_pos c, if_pos c]
    · rw [if_neg c, if_neg c], fun i hf => h3 i (by
    rcases hf with q | q | ⟨q, hq, e⟩
    · exact .inl q
    · exact .inr (.inl q)
    · unfold AnsL at hq
      obtain ⟨x, hx, rfl⟩ := List.mem_map.1 hq
      refine .inr (.inr ⟨x, hx, ?_⟩)
      rw [← e]
      by_cases c : eqA x.2.k k = true
      · rw [if_pos c]
      · rw [if_neg c])⟩
  refine ⟨_, rfl, ?_, tt, kp.mono fun i _ s => h3 i s⟩
  unfold ansV
  rcases hr with ⟨q, hq, rfl, e2⟩ | ⟨hn, e2⟩
  · have hm : q.2 ∈ L.map (·.2) := List.mem_map_of_mem hq
    rw [findE_some nd hm]
    exact e2
  · have : findE (L.map (·.2)) k = none := findE_none fun e he => by
      obtain ⟨q, hq, rfl⟩ := List.mem_map.1 he
      exact hn q hq
    rw [this]
    exact e2
set_option maxRecDepth 20000 in
theorem new_e (k : Int) (W : World) : Calls Try.prog 8 #[.int .i64 k] W fun e w' => Mo W w' ∧ ((1 ≤ k ∧ k ≤ 65536 ∧ ∃ T B, e = .returned (.tuple #[ptr T, .int .i64 0]) ∧ TabE w' T B k [] (fun i => W.heap.size ≤ i)) ∨ (¬ (1 ≤ k ∧ k ≤ 65536) ∧ e = .returned (.tuple #[nilp, .int .i64 2]))) := by
  refine (new_any k W).mono ?_
  rintro e w' ⟨M, ⟨c1, c2, T, B, e1, t, h1, h2⟩ | h⟩
  · refine ⟨M, .inl ⟨c1, c2, T, B, e1, [], t, rfl, ?_⟩⟩
    rintro i (rfl | rfl | ⟨q, hq, -⟩)
    · exact h1
    · exact h2
    · cases hq
  · exact ⟨M, .inr h⟩
set_option maxRecDepth 20000 in
theorem len_e (T B : Nat) (room : Int) (E : List En) (P : Nat → Prop) (W : World) (h : TabE W T B room E P) : Calls Try.prog 13 #[ptr T] W fun e w' => e = .returned (.int .i64 E.length) ∧ Mo W w' := by
  obtain ⟨L, h1, rfl, h3⟩ := h
  rw [List.length_map]
  exact len_any T B room L W h1
end Go.Proofs.Ytlbkcjpnlnlmiaa
