/- pend: the stage's theorem, plain: what is there is what was asked, and fewer than K others behind it. -/
import Derived.Test.YtlbkcjpnlnlmiaaPendF
namespace Go.Proofs.Ytlbkcjpnlnlmiaa
open Go.RowKit Go.Maps

structure Do where
  kd : Int
  k : Array Value
  a : Array Value
structure DoOk (d : Do) : Prop where
  kd : 0 ≤ d.kd ∧ d.kd ≤ 255
  k : KeyP d.k
  a : Fits (ksOf 40) d.a.toList
noncomputable def stepE (room : Int) (E : List En) (x : Do) : List En := if x.kd = 0 then (askE room E x.k x.a).2.2 else if x.kd = 1 then ansE E x.k else E
noncomputable def playE (room : Int) (l : List Do) : Nat → List En
  | 0 => []
  | n + 1 => match l[n]? with
    | none => playE room l n
    | some x => stepE room (playE room l n) x
noncomputable def stepU (U : List En) (x : Do) : List En := if x.kd = 0 then strike U x.k ++ [⟨x.k, x.a, false⟩] else if x.kd = 1 then ansE U x.k else U
noncomputable def playU (l : List Do) : Nat → List En
  | 0 => []
  | n + 1 => match l[n]? with
    | none => playU l n
    | some x => stepU (playU l n) x
open Classical in
noncomputable def scanN (l : List Do) (xk : Array Value) : Nat → Int × Bool
  | 0 => (-1, false)
  | n + 1 => match l[n]? with
    | none => scanN l xk n
    | some y => if y.k = xk then (if y.kd = 0 then ((n : Int), false) else if y.kd = 1 then ((scanN l xk n).1, true) else scanN l xk n) else scanN l xk n
open Classical in
/-- the keys that were asked behind m, but l[m]'s -/
noncomputable def othK (l : List Do) (xk : Array Value) (m : Nat) : Nat → List (Array Value)
  | 0 => []
  | n + 1 => match l[n]? with
    | none => othK l xk m n
    | some y => if m < n ∧ y.kd = 0 ∧ y.k ≠ xk ∧ ¬ y.k ∈ othK l xk m n then othK l xk m n ++ [y.k] else othK l xk m n
set_option maxRecDepth 20000 in
theorem strike_mem {E : List En} {k : Array Value} {e : En} : e ∈ strike E k ↔ e ∈ E ∧ e.k ≠ k := by
  unfold strike
  rw [List.mem_filter]
  refine and_congr_right fun _ => ?_
  rw [Bool.not_eq_true', Bool.eq_false_iff]
  exact not_congr eqA_iff
set_option maxRecDepth 20000 in
theorem strike_append (A B : List En) (k : Array Value) : strike (A ++ B) k = strike A k ++ strike B k := by unfold strike; rw [List.filter_append]
set_option maxRecDepth 20000 in
theorem strike_self {E : List En} {k : Array Value} (h : ∀ e ∈ E, e.k ≠ k) : strike E k = E := by
  unfold strike
  rw [List.filter_eq_self]
  intro x hx
  rw [Bool.not_eq_true', Bool.eq_false_iff]
  exact fun c => h x hx (eqA_iff.1 c)
set_option maxRecDepth 20000 in
theorem strike_cons_same {e : En} {E : List En} {k : Array Value} (h : e.k = k) : strike (e :: E) k = strike E k := by
  unfold strike
  rw [List.filter_cons_of_neg]
  rw [eqA_iff.2 h]; decide
set_option maxRecDepth 20000 in
theorem strike_cons_ne {e : En} {E : List En} {k : Array Value} (h : e.k ≠ k) : strike (e :: E) k = e :: strike E k := by
  unfold strike
  rw [List.filter_cons_of_pos]
  rw [Bool.not_eq_true', Bool.eq_false_iff]
  exact fun c => h (eqA_iff.1 c)
set_option maxRecDepth 20000 in
theorem strike_len {E : List En} {k : Array Value} (nd : (E.map (·.k)).Nodup) (h : k ∈ E.map (·.k)) : (strike E k).length + 1 = E.length := by
  induction E with
  | nil => cases h
  | cons e E ih =>
    rw [List.map_cons, List.nodup_cons] at nd
    rw [List.map_cons] at h
    by_cases c : e.k = k
    · rw [strike_cons_same c, strike_self]
      · rfl
      · intro x hx e1
        exact nd.1 (by rw [c, ← e1]; exact List.mem_map_of_mem (f := fun e : En => e.k) hx)
    · rcases List.mem_cons.1 h with e1 | h
      · exact absurd e1.symm c
      · rw [strike_cons_ne c, List.length_cons, List.length_cons, ih nd.2 h]
set_option maxRecDepth 20000 in
theorem strike_keys {E : List En} {k : Array Value} (nd : (E.map (·.k)).Nodup) : ((strike E k).map (·.k)).Nodup := nd.sublist (List.Sublist.map _ (List.filter_sublist))
set_option maxRecDepth 20000 in
theorem ansE_keys (E : List En) (k : Array Value) : (ansE E k).map (·.k) = E.map (·.k) := by
  unfold ansE
  rw [List.map_map]
  refine List.map_congr_left fun e _ => ?_
  simp only [Function.comp]
  by_cases c : eqA e.k k = true
  · rw [if_pos c]
  · rw [if_neg c]
set_option maxRecDepth 20000 in
theorem ansE_append (A B : List En) (k : Array Value) : ansE (A ++ B) k = ansE A k ++ ansE B k := by unfold ansE; rw [List.map_append]
set_option maxRecDepth 20000 in
theorem ansE_drop (A : List En) (k : Array Value) (n : Nat) : ansE (A.drop n) k = (ansE A k).drop n := by unfold ansE; rw [List.map_drop]
set_option maxRecDepth 20000 in
theorem ansE_len (A : List En) (k : Array Value) : (ansE A k).length = A.length := by unfold ansE; rw [List.length_map]
set_option maxRecDepth 20000 in
theorem ansE_cons_same {e : En} {E : List En} {k : Array Value} (h : e.k = k) : ansE (e :: E) k = ⟨e.k, e.a, true⟩ :: ansE E k := by
  unfold ansE
  rw [List.map_cons, if_pos (eqA_iff.2 h)]
set_option maxRecDepth 20000 in
theorem ansE_cons_ne {e : En} {E : List En} {k : Array Value} (h : e.k ≠ k) : ansE (e :: E) k = e :: ansE E k := by
  unfold ansE
  rw [List.map_cons, if_neg (fun c => h (eqA_iff.1 c))]
set_option maxRecDepth 20000 in
theorem playU_keys (l : List Do) : ∀ n, ((playU l n).map (·.k)).Nodup
  | 0 => by simp [playU]
  | n + 1 => by
    have ih := playU_keys l n
    unfold playU
    cases h : l[n]? with
    | none => exact ih
    | some x =>
      simp only
      unfold stepU
      by_cases c : x.kd = 0
      · rw [if_pos c, List.map_append, List.nodup_append]
        refine ⟨strike_keys ih, by simp, ?_⟩
        intro a ha b hb e
        obtain ⟨y, hy, rfl⟩ := List.mem_map.1 ha
        simp only [List.map_cons, List.map_nil, List.mem_singleton] at hb
        exact (strike_mem.1 hy).2 (e.trans hb)
      · rw [if_neg c]
        by_cases c : x.kd = 1
        · rw [if_pos c, ansE_keys]; exact ih
        · rw [if_neg c]; exact ih
/-- the last r of a list -/
def lastn {α : Type} (r : Nat) (U : List α) : List α := U.drop (U.length - r)
set_option maxRecDepth 20000 in
theorem lastn_append {α : Type} {r : Nat} (A B : List α) (h : r ≤ B.length) : lastn r (A ++ B) = lastn r B := by
  unfold lastn
  rw [List.length_append, List.drop_append]
  rw [List.drop_eq_nil_of_le (by omega), List.nil_append]
  congr 1
  omega
set_option maxRecDepth 20000 in
theorem lastn_len {α : Type} (r : Nat) (U : List α) : (lastn r U).length = min r U.length := by
  unfold lastn
  rw [List.length_drop]
  omega
set_option maxRecDepth 20000 in
theorem lastn_all {α : Type} {r : Nat} {U : List α} (h : U.length ≤ r) : lastn r U = U := by
  unfold lastn
  rw [show U.length - r = 0 by omega, List.drop_zero]
set_option maxRecDepth 20000 in
theorem ask_lastn {room : Int} (h1 : 1 ≤ room) {E : List En} {k a : Array Value} (h : (E.length : Int) ≤ room) : (askE room E k a).2.2 = lastn room.toNat (strike E k ++ [(⟨k, a, false⟩ : En)]) := by
  unfold askE
  have hl : (strike E k).length ≤ E.length := List.length_filter_le _ _
  have hlen : (strike E k ++ [(⟨k, a, false⟩ : En)]).length = (strike E k).length + 1 := by simp
  by_cases c : ((strike E k ++ [(⟨k, a, false⟩ : En)]).length : Int) ≤ room
  · rw [if_pos c, lastn_all (by omega)]
  · rw [if_neg c]
    unfold lastn
    rw [show (strike E k ++ [(⟨k, a, false⟩ : En)]).length - room.toNat = 1 by omega, List.drop_one]
set_option maxRecDepth 20000 in
theorem play_lastn {room : Int} (h1 : 1 ≤ room) (l : List Do) : ∀ n, playE room l n = lastn room.toNat (playU l n)
  | 0 => by simp [playE, playU, lastn]
  | n + 1 => by
    have ih := play_lastn h1 l n
    have nd := playU_keys l n
    unfold playE playU
    cases h : l[n]? with
    | none => exact ih
    | some x =>
      simp only
      unfold stepE stepU
      generalize playU l n = U at *
      rw [ih]
      by_cases c : x.kd = 0
      · rw [if_pos c, if_pos c, ask_lastn h1 (by rw [lastn_len]; omega)]
        have hU : U = U.take (U.length - room.toNat) ++ lastn room.toNat U := (List.take_append_drop _ _).symm
        have hl := lastn_len room.toNat U
        have hp : (U.take (U.length - room.toNat)).length = U.length - room.toNat := by rw [List.length_take]; omega
        generalize hE : lastn room.toNat U = E at *
        generalize U.take (U.length - room.toNat) = P at *
        rw [hU, strike_append, List.append_assoc]
        rw [hU, List.map_append, List.nodup_append] at nd
        by_cases q : x.k ∈ E.map (·.k)
        · have hs := strike_len nd.2.1 q
          have hP : strike P x.k = P := strike_self fun e he e1 => nd.2.2 _ (List.mem_map_of_mem (f := fun e : En => e.k) he) _ q e1
          rw [hP]
          have hEl : (strike E x.k ++ [(⟨x.k, x.a, false⟩ : En)]).length = E.length := by rw [List.length_append]; exact hs
          by_cases z : room.toNat ≤ U.length
          · rw [lastn_append P (strike E x.k ++ [(⟨x.k, x.a, false⟩ : En)]) (by rw [hEl, hl]; omega)]
          · have : P = [] := List.eq_nil_of_length_eq_zero (by omega)
            rw [this, List.nil_append]
        · have hs : strike E x.k = E := strike_self fun e he e1 => q (e1 ▸ List.mem_map_of_mem (f := fun e : En => e.k) he)
          rw [hs]
          by_cases z : room.toNat ≤ U.length
          · rw [lastn_append (strike P x.k) (E ++ [(⟨x.k, x.a, false⟩ : En)]) (by rw [List.length_append, hl]; omega)]
          · have : P = [] := List.eq_nil_of_length_eq_zero (by omega)
            rw [this]
            rfl
      · rw [if_neg c, if_neg c]
        by_cases c : x.kd = 1
        · rw [if_pos c, if_pos c]
          unfold lastn
          rw [ansE_drop, ansE_len]
        · rw [if_neg c, if_neg c]
open Classical in
set_option maxRecDepth 20000 in
/-- what a scan tells of the unbounded table -/
theorem scan_law (l : List Do) (xk : Array Value) : ∀ n, n ≤ l.length →
    ((scanN l xk n).1 = -1 ∧ ∀ e ∈ playU l n, e.k ≠ xk) ∨ ∃ (m : Nat) (y : Do) (P Q : List En), (scanN l xk n).1 = m ∧ m < n ∧ l[m]? = some y ∧ y.k = xk ∧ playU l n = P ++ ⟨xk, y.a, (scanN l xk n).2⟩ :: Q ∧ Q.length = (othK l xk m n).length ∧ ∀ z, z ∈ Q.map (·.k) ↔ z ∈ othK l xk m n
  | 0, _ => .inl ⟨rfl, fun e he => by cases he⟩
  | n + 1, hn => by
    have ih := scan_law l xk n (by omega)
    have nd := playU_keys l n
    obtain ⟨x, hx⟩ : ∃ x, l[n]? = some x := ⟨_, List.getElem?_eq_getElem (by omega)⟩
    have eU : playU l (n + 1) = stepU (playU l n) x := by rw [playU, hx]
    have eS : scanN l xk (n + 1) = if x.k = xk then (if x.kd = 0 then ((n : Int), false) else if x.kd = 1 then ((scanN l xk n).1, true) else scanN l xk n) else scanN l xk n := by rw [scanN, hx]
    have eO : ∀ m, othK l xk m (n + 1) = if m < n ∧ x.kd = 0 ∧ x.k ≠ xk ∧ ¬ x.k ∈ othK l xk m n then othK l xk m n ++ [x.k] else othK l xk m n := fun m => by rw [othK, hx]
    generalize playU l n = U at *
    unfold stepU at eU
    by_cases c0 : x.kd = 0
    · rw [if_pos c0] at eU
      rw [eU, eS]
      by_cases cx : x.k = xk
      · rw [if_pos cx, if_pos c0]
        refine .inr ⟨n, x, strike U x.k, [], rfl, by omega, hx, cx, ?_, ?_, ?_⟩
        · rw [cx]
        · have : ∀ j, j ≤ n + 1 → othK l xk n j = [] := fun j hj => by
            induction j with
            | zero => rfl
            | succ j ihj =>
              have := ihj (by omega)
              unfold othK
              rw [this]
              cases l[j]? with
              | none => rfl
              | some y => simp only; rw [if_neg (fun h => by have := h.1; omega)]
          rw [this (n + 1) (Nat.le_refl _)]
          rfl
        · have : ∀ j, j ≤ n + 1 → othK l xk n j = [] := fun j hj => by
            induction j with
            | zero => rfl
            | succ j ihj =>
              have := ihj (by omega)
              unfold othK
              rw [this]
              cases l[j]? with
              | none => rfl
              | some y => simp only; rw [if_neg (fun h => by have := h.1; omega)]
          rw [this (n + 1) (Nat.le_refl _)]
          simp
      · rw [if_neg cx]
        rcases ih with ⟨h1, h2⟩ | ⟨m, y, P, Q, h1, h2, h3, h4, h5, h6, h7⟩
        · refine .inl ⟨h1, fun e he => ?_⟩
          rcases List.mem_append.1 he with h | h
          · exact h2 e (strike_mem.1 h).1
          · rw [List.mem_singleton] at h
            subst h
            exact cx
        · refine .inr ⟨m, y, strike P x.k, strike Q x.k ++ [⟨x.k, x.a, false⟩], h1, by omega, h3, h4, ?_, ?_, ?_⟩
          · rw [h5, strike_append, strike_cons_ne (fun e => cx e.symm), List.append_assoc, List.cons_append]
          · rw [h5, List.map_append, List.map_cons, List.nodup_append, List.nodup_cons] at nd
            rw [eO m, List.length_append, List.length_singleton]
            by_cases q : x.k ∈ othK l xk m n
            · rw [if_neg (fun h => h.2.2.2 q), ← h6]
              exact strike_len nd.2.1.2 ((h7 _).2 q)
            · rw [if_pos ⟨h2, c0, cx, q⟩, List.length_append, List.length_singleton, strike_self, h6]
              intro e he e1
              exact q ((h7 _).1 (e1 ▸ List.mem_map_of_mem (f := fun e : En => e.k) he))
          · intro z
            rw [eO m, List.map_append, List.mem_append]
            by_cases q : x.k ∈ othK l xk m n
            · rw [if_neg (fun h => h.2.2.2 q)]
              constructor
              · rintro (h | h)
                · obtain ⟨e, he, rfl⟩ := List.mem_map.1 h
                  exact (h7 _).1 (List.mem_map_of_mem (f := fun e : En => e.k) (strike_mem.1 he).1)
                · simp only [List.map_cons, List.map_nil, List.mem_singleton] at h
                  rw [h]; exact q
              · intro h
                by_cases r : z = x.k
                · right; simp [r]
                · left
                  obtain ⟨e, he, rfl⟩ := List.mem_map.1 ((h7 _).2 h)
                  exact List.mem_map_of_mem (f := fun e : En => e.k) (strike_mem.2 ⟨he, r⟩)
            · rw [if_pos ⟨h2, c0, cx, q⟩, List.mem_append, strike_self]
              · rw [h7]; simp
              · intro e he e1
                exact q ((h7 _).1 (e1 ▸ List.mem_map_of_mem (f := fun e : En => e.k) he))
    · rw [if_neg c0] at eU
      have eO' : ∀ m, othK l xk m (n + 1) = othK l xk m n := fun m => by rw [eO, if_neg (fun h => c0 h.2.1)]
      by_cases c1 : x.kd = 1
      · rw [if_pos c1] at eU
        rw [eU, eS]
        by_cases cx : x.k = xk
        · rw [if_pos cx, if_neg c0, if_pos c1]
          rcases ih with ⟨h1, h2⟩ | ⟨m, y, P, Q, h1, h2, h3, h4, h5, h6, h7⟩
          · refine .inl ⟨h1, fun e he e1 => ?_⟩
            have : e.k ∈ (ansE U x.k).map (·.k) := List.mem_map_of_mem (f := fun e : En => e.k) he
            rw [ansE_keys] at this
            obtain ⟨f, hf, e2⟩ := List.mem_map.1 this
            exact h2 f hf (e2.trans e1)
          · refine .inr ⟨m, y, ansE P x.k, ansE Q x.k, h1, by omega, h3, h4, ?_, ?_, ?_⟩
            · rw [h5, ansE_append, ansE_cons_same cx.symm]
            · rw [ansE_len, eO', h6]
            · intro z; rw [ansE_keys, eO', h7]
        · rw [if_neg cx]
          rcases ih with ⟨h1, h2⟩ | ⟨m, y, P, Q, h1, h2, h3, h4, h5, h6, h7⟩
          · refine .inl ⟨h1, fun e he e1 => ?_⟩
            have : e.k ∈ (ansE U x.k).map (·.k) := List.mem_map_of_mem (f := fun e : En => e.k) he
            rw [ansE_keys] at this
            obtain ⟨f, hf, e2⟩ := List.mem_map.1 this
            exact h2 f hf (e2.trans e1)
          · refine .inr ⟨m, y, ansE P x.k, ansE Q x.k, h1, by omega, h3, h4, ?_, ?_, ?_⟩
            · rw [h5, ansE_append, ansE_cons_ne (fun e => cx e.symm)]
            · rw [ansE_len, eO', h6]
            · intro z; rw [ansE_keys, eO', h7]
      · rw [if_neg c1] at eU
        rw [eU, eS]
        have e1 : (if x.k = xk then (if x.kd = 0 then ((n : Int), false) else if x.kd = 1 then ((scanN l xk n).1, true) else scanN l xk n) else scanN l xk n) = scanN l xk n := by
          by_cases cx : x.k = xk
          · rw [if_pos cx, if_neg c0, if_neg c1]
          · rw [if_neg cx]
        rw [e1]
        rcases ih with ⟨h1, h2⟩ | ⟨m, y, P, Q, h1, h2, h3, h4, h5, h6, h7⟩
        · exact .inl ⟨h1, h2⟩
        · exact .inr ⟨m, y, P, Q, h1, by omega, h3, h4, h5, by rw [eO']; exact h6, fun z => by rw [eO']; exact h7 z⟩
set_option maxRecDepth 20000 in
/-- the stage's theorem, plain -/
theorem rule_law {room : Int} (h1 : 1 ≤ room) (l : List Do) (xk : Array Value) (n : Nat) (hn : n ≤ l.length) :
    ((scanN l xk n).1 = -1 ∧ findE (playE room l n) xk = none) ∨ ∃ (m : Nat) (y : Do), (scanN l xk n).1 = m ∧ m < n ∧ l[m]? = some y ∧ y.k = xk ∧
      (((othK l xk m n).length : Int) < room ∧ findE (playE room l n) xk = some ⟨xk, y.a, (scanN l xk n).2⟩ ∨ ¬ ((othK l xk m n).length : Int) < room ∧ findE (playE room l n) xk = none) := by
  have nd := playU_keys l n
  rw [play_lastn h1]
  rcases scan_law l xk n hn with ⟨e1, h2⟩ | ⟨m, y, P, Q, e1, h2, h3, h4, h5, h6, h7⟩
  · exact .inl ⟨e1, findE_none fun e he => h2 e (List.mem_of_mem_drop he)⟩
  · refine .inr ⟨m, y, e1, h2, h3, h4, ?_⟩
    rw [h5] at nd ⊢
    rw [← h6]
    by_cases c : (Q.length : Int) < room
    · refine .inl ⟨c, ?_⟩
      have hm : (⟨xk, y.a, (scanN l xk n).2⟩ : En) ∈ lastn room.toNat (P ++ ⟨xk, y.a, (scanN l xk n).2⟩ :: Q) := by
        unfold lastn
        rw [List.length_append, List.length_cons, List.drop_append]
        refine List.mem_append_right _ ?_
        rw [show P.length + (Q.length + 1) - room.toNat - P.length = 0 by omega]
        exact List.mem_cons_self
      have nd2 : ((lastn room.toNat (P ++ ⟨xk, y.a, (scanN l xk n).2⟩ :: Q)).map (·.k)).Nodup := nd.sublist (List.Sublist.map _ (List.drop_sublist _ _))
      exact findE_some nd2 hm
    · refine .inr ⟨c, findE_none fun e he e1 => ?_⟩
      have hq : e ∈ Q := by
        have : lastn room.toNat (P ++ ⟨xk, y.a, (scanN l xk n).2⟩ :: Q) = lastn room.toNat Q := by
          have e2 : P ++ (⟨xk, y.a, (scanN l xk n).2⟩ : En) :: Q = (P ++ [⟨xk, y.a, (scanN l xk n).2⟩]) ++ Q := by simp
          rw [e2]
          exact lastn_append _ _ (by omega)
        rw [this] at he
        exact List.mem_of_mem_drop he
      rw [List.map_append, List.map_cons, List.nodup_append, List.nodup_cons] at nd
      exact nd.2.1.1 (List.mem_map.2 ⟨e, hq, e1⟩)
set_option maxRecDepth 20000 in
theorem playE_len {room : Int} (h1 : 1 ≤ room) (l : List Do) (n : Nat) : ((playE room l n).length : Int) ≤ room := by
  rw [play_lastn h1, lastn_len]; omega
end Go.Proofs.Ytlbkcjpnlnlmiaa
