/- pend, plain: where a key was asked last, told from behind; how many keys are kept. -/
import Derived.Test.YtcflebggepmmcaaPendY
namespace Go.Proofs.Ytcflebggepmmcaa
open Go.RowKit Go.Maps

set_option maxRecDepth 20000 in
theorem nodup_len {α : Type} : ∀ (A B : List α), A.Nodup → (∀ x ∈ A, x ∈ B) → A.length ≤ B.length
  | [], _, _, _ => Nat.zero_le _
  | a :: A, B, nd, h => by
    have hb : a ∈ B := h a List.mem_cons_self
    obtain ⟨s, t, rfl⟩ := List.append_of_mem hb
    have := nodup_len A (s ++ t) (List.nodup_cons.1 nd).2 (fun x hx => by
      have := h x (List.mem_cons_of_mem _ hx)
      rw [List.mem_append, List.mem_cons] at this
      rw [List.mem_append]
      rcases this with h | h | h
      · exact .inl h
      · exact absurd (h ▸ hx) (List.nodup_cons.1 nd).1
      · exact .inr h)
    rw [List.length_append] at this
    rw [List.length_append, List.length_cons, List.length_cons]
    omega
set_option maxRecDepth 20000 in
open Classical in
/-- what a scan tells: the last asking, and whether it was answered behind it -/
theorem scan_at (l : List Do) (xk : Array Value) : ∀ n, n ≤ l.length →
    ((scanN l xk n).1 = -1 ∧ ∀ j y, j < n → l[j]? = some y → y.k = xk → y.kd ≠ 0) ∨ ∃ (m : Nat) (y : Do), (scanN l xk n).1 = m ∧ m < n ∧ l[m]? = some y ∧ y.k = xk ∧ y.kd = 0 ∧ (∀ j z, m < j → j < n → l[j]? = some z → z.k = xk → z.kd ≠ 0) ∧
      ((scanN l xk n).2 = true ↔ ∃ j z, m < j ∧ j < n ∧ l[j]? = some z ∧ z.k = xk ∧ z.kd = 1)
  | 0, _ => .inl ⟨rfl, fun j _ h => absurd h (by omega)⟩
  | n + 1, hn => by
    have ih := scan_at l xk n (by omega)
    obtain ⟨x, hx⟩ : ∃ x, l[n]? = some x := ⟨_, List.getElem?_eq_getElem (by omega)⟩
    have eS : scanN l xk (n + 1) = if x.k = xk then (if x.kd = 0 then ((n : Int), false) else if x.kd = 1 then ((scanN l xk n).1, true) else scanN l xk n) else scanN l xk n := by rw [scanN, hx]
    have up : ∀ {j}, j < n + 1 → j < n ∨ j = n := fun h => by omega
    rw [eS]
    by_cases cx : x.k = xk
    · rw [if_pos cx]
      by_cases c0 : x.kd = 0
      · rw [if_pos c0]
        refine .inr ⟨n, x, rfl, by omega, hx, cx, c0, fun j z h1 h2 => absurd h2 (by omega), ?_⟩
        constructor
        · intro h; cases h
        · rintro ⟨j, z, h1, h2, -⟩; omega
      · rw [if_neg c0]
        by_cases c1 : x.kd = 1
        · rw [if_pos c1]
          rcases ih with ⟨e, h⟩ | ⟨m, y, e, h1, h2, h3, h4, h5, h6⟩
          · refine .inl ⟨e, fun j y hj hy hk => ?_⟩
            rcases up hj with q | rfl
            · exact h j y q hy hk
            · rw [hx] at hy; injection hy with hy; rw [← hy]; exact c0
          · refine .inr ⟨m, y, e, by omega, h2, h3, h4, fun j z q1 q2 hz hk => ?_, ?_⟩
            · rcases up q2 with q | rfl
              · exact h5 j z q1 q hz hk
              · rw [hx] at hz; injection hz with hz; rw [← hz]; exact c0
            · exact ⟨fun _ => ⟨n, x, h1, by omega, hx, cx, c1⟩, fun _ => rfl⟩
        · rw [if_neg c1]
          rcases ih with ⟨e, h⟩ | ⟨m, y, e, h1, h2, h3, h4, h5, h6⟩
          · refine .inl ⟨e, fun j y hj hy hk => ?_⟩
            rcases up hj with q | rfl
            · exact h j y q hy hk
            · rw [hx] at hy; injection hy with hy; rw [← hy]; exact c0
          · refine .inr ⟨m, y, e, by omega, h2, h3, h4, fun j z q1 q2 hz hk => ?_, ?_⟩
            · rcases up q2 with q | rfl
              · exact h5 j z q1 q hz hk
              · rw [hx] at hz; injection hz with hz; rw [← hz]; exact c0
            · rw [h6]
              constructor
              · rintro ⟨j, z, q1, q2, q3⟩; exact ⟨j, z, q1, by omega, q3⟩
              · rintro ⟨j, z, q1, q2, q3, q4, q5⟩
                rcases up q2 with q | rfl
                · exact ⟨j, z, q1, q, q3, q4, q5⟩
                · rw [hx] at q3; injection q3 with q3; exact absurd (q3 ▸ q5) c1
    · rw [if_neg cx]
      rcases ih with ⟨e, h⟩ | ⟨m, y, e, h1, h2, h3, h4, h5, h6⟩
      · refine .inl ⟨e, fun j y hj hy hk => ?_⟩
        rcases up hj with q | rfl
        · exact h j y q hy hk
        · rw [hx] at hy; injection hy with hy; exact absurd (hy ▸ hk) cx
      · refine .inr ⟨m, y, e, by omega, h2, h3, h4, fun j z q1 q2 hz hk => ?_, ?_⟩
        · rcases up q2 with q | rfl
          · exact h5 j z q1 q hz hk
          · rw [hx] at hz; injection hz with hz; exact absurd (hz ▸ hk) cx
        · rw [h6]
          constructor
          · rintro ⟨j, z, q1, q2, q3⟩; exact ⟨j, z, q1, by omega, q3⟩
          · rintro ⟨j, z, q1, q2, q3, q4, q5⟩
            rcases up q2 with q | rfl
            · exact ⟨j, z, q1, q, q3, q4, q5⟩
            · rw [hx] at q3; injection q3 with q3; exact absurd (q3 ▸ q4) cx
set_option maxRecDepth 20000 in
open Classical in
theorem othK_mem (l : List Do) (xk : Array Value) (m : Nat) : ∀ n, n ≤ l.length → (othK l xk m n).Nodup ∧ ∀ z, z ∈ othK l xk m n ↔ ∃ j y, m < j ∧ j < n ∧ l[j]? = some y ∧ y.kd = 0 ∧ y.k = z ∧ z ≠ xk
  | 0, _ => ⟨List.nodup_nil, fun z => ⟨fun h => (by cases h), fun ⟨_, _, _, h, _⟩ => absurd h (by omega)⟩⟩
  | n + 1, hn => by
    obtain ⟨nd, ih⟩ := othK_mem l xk m n (by omega)
    obtain ⟨x, hx⟩ : ∃ x, l[n]? = some x := ⟨_, List.getElem?_eq_getElem (by omega)⟩
    rw [othK, hx]
    simp only
    have up : ∀ {j}, j < n + 1 → j < n ∨ j = n := fun h => by omega
    by_cases c : m < n ∧ x.kd = 0 ∧ x.k ≠ xk ∧ ¬ x.k ∈ othK l xk m n
    · rw [if_pos c]
      refine ⟨?_, fun z => ?_⟩
      · rw [List.nodup_append]
        refine ⟨nd, by simp, fun a ha b hb e => ?_⟩
        rw [List.mem_singleton] at hb
        exact c.2.2.2 (hb ▸ e ▸ ha)
      · rw [List.mem_append, List.mem_singleton, ih]
        constructor
        · rintro (⟨j, y, h1, h2, h3⟩ | rfl)
          · exact ⟨j, y, h1, by omega, h3⟩
          · exact ⟨n, x, c.1, by omega, hx, c.2.1, rfl, c.2.2.1⟩
        · rintro ⟨j, y, h1, h2, h3, h4, h5, h6⟩
          rcases up h2 with q | rfl
          · exact .inl ⟨j, y, h1, q, h3, h4, h5, h6⟩
          · rw [hx] at h3; injection h3 with h3; exact .inr (by rw [← h5, h3])
    · rw [if_neg c]
      refine ⟨nd, fun z => ?_⟩
      rw [ih]
      constructor
      · rintro ⟨j, y, h1, h2, h3⟩; exact ⟨j, y, h1, by omega, h3⟩
      · rintro ⟨j, y, h1, h2, h3, h4, h5, h6⟩
        rcases up h2 with q | rfl
        · exact ⟨j, y, h1, q, h3, h4, h5, h6⟩
        · rw [hx] at h3; injection h3 with h3
          subst h3
          by_cases r : x.k ∈ othK l xk m j
          · obtain ⟨j', y', q1, q2, q3, q4, q5, q6⟩ := (ih _).1 r
            exact ⟨j', y', q1, q2, q3, q4, q5.trans h5, h6⟩
          · exact absurd ⟨h1, h4, by rw [h5]; exact h6, r⟩ c
set_option maxRecDepth 20000 in
theorem playU_mem (l : List Do) : ∀ n, n ≤ l.length → ∀ z, z ∈ (playU l n).map (·.k) ↔ ∃ j y, j < n ∧ l[j]? = some y ∧ y.kd = 0 ∧ y.k = z
  | 0, _, z => ⟨fun h => (by cases h), fun ⟨_, _, h, _⟩ => absurd h (by omega)⟩
  | n + 1, hn, z => by
    have ih := playU_mem l n (by omega)
    obtain ⟨x, hx⟩ : ∃ x, l[n]? = some x := ⟨_, List.getElem?_eq_getElem (by omega)⟩
    rw [playU, hx]
    simp only
    have up : ∀ {j}, j < n + 1 → j < n ∨ j = n := fun h => by omega
    unfold stepU
    by_cases c : x.kd = 0
    · rw [if_pos c, List.map_append, List.mem_append]
      simp only [List.map_cons, List.map_nil, List.mem_singleton]
      constructor
      · rintro (h | rfl)
        · obtain ⟨e, he, rfl⟩ := List.mem_map.1 h
          obtain ⟨j, y, h1, h2⟩ := (ih e.k).1 (List.mem_map_of_mem (f := fun e : En => e.k) (strike_mem.1 he).1)
          exact ⟨j, y, by omega, h2⟩
        · exact ⟨n, x, by omega, hx, c, rfl⟩
      · rintro ⟨j, y, h1, h2, h3, h4⟩
        rcases up h1 with q | rfl
        · by_cases e : z = x.k
          · exact .inr e
          · obtain ⟨f, hf, e2⟩ := List.mem_map.1 ((ih z).2 ⟨j, y, q, h2, h3, h4⟩)
            exact .inl (List.mem_map.2 ⟨f, strike_mem.2 ⟨hf, fun e3 => e (e2.symm.trans e3)⟩, e2⟩)
        · rw [hx] at h2; injection h2 with h2; exact .inr (by rw [← h4, h2])
    · rw [if_neg c]
      have : (if x.kd = 1 then ansE (playU l n) x.k else playU l n).map (·.k) = (playU l n).map (·.k) := by
        by_cases c : x.kd = 1
        · rw [if_pos c, ansE_keys]
        · rw [if_neg c]
      rw [this, ih]
      constructor
      · rintro ⟨j, y, h1, h2⟩; exact ⟨j, y, by omega, h2⟩
      · rintro ⟨j, y, h1, h2, h3, h4⟩
        rcases up h1 with q | rfl
        · exact ⟨j, y, q, h2, h3, h4⟩
        · rw [hx] at h2; injection h2 with h2; exact absurd (h2 ▸ h3) c
/-- where a key was asked last, if it is kept; else -1 -/
noncomputable def askedE (room : Int) (l : List Do) (n : Nat) (xk : Array Value) : Int := if (findE (playE room l n) xk).isSome then (scanN l xk n).1 else -1
/-- these keys were asked from i on, ahead of n, each told once -/
structure Behind (l : List Do) (i n : Nat) (O : List (Array Value)) : Prop where
  nd : O.Nodup
  mem : ∀ z, z ∈ O ↔ ∃ j y, i ≤ j ∧ j < n ∧ l[j]? = some y ∧ y.kd = 0 ∧ y.k = z
set_option maxRecDepth 20000 in
theorem Behind.nil (l : List Do) (n : Nat) : Behind l n n [] := ⟨List.nodup_nil, fun z => ⟨fun h => (by cases h), fun ⟨_, _, h1, h2, _⟩ => absurd h1 (by omega)⟩⟩
set_option maxRecDepth 20000 in
theorem Behind.skip {l : List Do} {i n : Nat} {O : List (Array Value)} {y : Do} (h : Behind l (i + 1) n O) (hy : l[i]? = some y) (c : y.kd ≠ 0) : Behind l i n O := ⟨h.nd, fun z => by
  rw [h.mem]
  constructor
  · rintro ⟨j, x, h1, h2⟩; exact ⟨j, x, by omega, h2⟩
  · rintro ⟨j, x, h1, h2, h3, h4, h5⟩
    by_cases e : j = i
    · subst e; rw [hy] at h3; injection h3 with h3; exact absurd (h3 ▸ h4) c
    · exact ⟨j, x, by omega, h2, h3, h4, h5⟩⟩
set_option maxRecDepth 20000 in
theorem Behind.same {l : List Do} {i n : Nat} {O : List (Array Value)} {y : Do} (h : Behind l (i + 1) n O) (hy : l[i]? = some y) (m : y.k ∈ O) : Behind l i n O := ⟨h.nd, fun z => by
  constructor
  · intro hz
    obtain ⟨j, x, h1, h2⟩ := (h.mem z).1 hz
    exact ⟨j, x, by omega, h2⟩
  · rintro ⟨j, x, h1, h2, h3, h4, h5⟩
    by_cases e : j = i
    · subst e; rw [hy] at h3; injection h3 with h3; rw [← h5, ← h3]; exact m
    · exact (h.mem z).2 ⟨j, x, by omega, h2, h3, h4, h5⟩⟩
set_option maxRecDepth 20000 in
theorem Behind.more {l : List Do} {i n : Nat} {O : List (Array Value)} {y : Do} (h : Behind l (i + 1) n O) (hi : i < n) (hy : l[i]? = some y) (c : y.kd = 0) (m : ¬ y.k ∈ O) : Behind l i n (O ++ [y.k]) := ⟨by
  rw [List.nodup_append]
  refine ⟨h.nd, by simp, fun a ha b hb e => ?_⟩
  rw [List.mem_singleton] at hb
  exact m (hb ▸ e ▸ ha), fun z => by
  rw [List.mem_append, List.mem_singleton]
  constructor
  · rintro (hz | rfl)
    · obtain ⟨j, x, h1, h2⟩ := (h.mem z).1 hz
      exact ⟨j, x, by omega, h2⟩
    · exact ⟨i, y, by omega, hi, hy, c, rfl⟩
  · rintro ⟨j, x, h1, h2, h3, h4, h5⟩
    by_cases e : j = i
    · subst e; rw [hy] at h3; injection h3 with h3; exact .inr (by rw [← h5, ← h3])
    · exact .inl ((h.mem z).2 ⟨j, x, by omega, h2, h3, h4, h5⟩)⟩
set_option maxRecDepth 20000 in
theorem asked_found {room : Int} (h1 : 1 ≤ room) {l : List Do} {i n : Nat} {O : List (Array Value)} {y : Do} (hn : n ≤ l.length) (h : Behind l (i + 1) n O) (hi : i < n) (hy : l[i]? = some y) (c : y.kd = 0) (hO : ¬ y.k ∈ O) (hl : (O.length : Int) < room) : askedE room l n y.k = i := by
  have no : ∀ j z, i < j → j < n → l[j]? = some z → z.k = y.k → z.kd ≠ 0 := fun j z q1 q2 hz hk h0 => hO ((h.mem _).2 ⟨j, z, by omega, q2, hz, h0, hk⟩)
  have sc : (scanN l y.k n).1 = i := by
    rcases scan_at l y.k n hn with ⟨_, q⟩ | ⟨m, x, e, q1, q2, q3, q4, q5, _⟩
    · exact absurd c (q i y hi hy rfl)
    · rw [e]
      rcases Nat.lt_trichotomy m i with g | g | g
      · exact absurd c (q5 i y g hi hy rfl)
      · rw [g]
      · exact absurd q4 (no m x g q1 q2 q3)
  unfold askedE
  rcases rule_law h1 l y.k n hn with ⟨e, _⟩ | ⟨m, x, e, q1, q2, q3, q4⟩
  · rw [sc] at e; omega
  · have em : m = i := by rw [sc] at e; omega
    subst em
    have hle : (othK l y.k m n).length ≤ O.length := nodup_len _ _ (othK_mem l y.k m n hn).1 fun z hz => by
      obtain ⟨j, w, p1, p2, p3, p4, p5, _⟩ := ((othK_mem l y.k m n hn).2 z).1 hz
      exact (h.mem z).2 ⟨j, w, by omega, p2, p3, p4, p5⟩
    rcases q4 with ⟨_, q⟩ | ⟨q, _⟩
    · rw [q]; exact sc
    · omega
set_option maxRecDepth 20000 in
theorem asked_full {room : Int} (h1 : 1 ≤ room) {l : List Do} {i n : Nat} {O : List (Array Value)} {xk : Array Value} (hn : n ≤ l.length) (h : Behind l i n O) (hO : ¬ xk ∈ O) (hl : room ≤ (O.length : Int)) : askedE room l n xk = -1 := by
  unfold askedE
  rcases rule_law h1 l xk n hn with ⟨e, q⟩ | ⟨m, x, e, q1, q2, q3, q4⟩
  · rw [q]; rfl
  · have hm : x.kd = 0 := by
      rcases scan_at l xk n hn with ⟨e', _⟩ | ⟨m', x', e', p1, p2, p3, p4, _⟩
      · omega
      · have : m = m' := by omega
        subst this
        rw [q2] at p2; injection p2 with p2; rw [p2]; exact p4
    have hmi : m < i := by
      rcases Nat.lt_or_ge m i with g | g
      · exact g
      · exact absurd ((h.mem xk).2 ⟨m, x, g, q1, q2, hm, q3⟩) hO
    have hle : O.length ≤ (othK l xk m n).length := nodup_len _ _ h.nd fun z hz => by
      obtain ⟨j, w, p1, p2, p3, p4, p5⟩ := (h.mem z).1 hz
      exact ((othK_mem l xk m n hn).2 z).2 ⟨j, w, by omega, p2, p3, p4, p5, fun e => hO (e ▸ hz)⟩
    rcases q4 with ⟨q, _⟩ | ⟨_, q⟩
    · omega
    · rw [q]; rfl
set_option maxRecDepth 20000 in
theorem asked_none {room : Int} {l : List Do} {n : Nat} {O : List (Array Value)} {xk : Array Value} (hn : n ≤ l.length) (h : Behind l 0 n O) (hO : ¬ xk ∈ O) : askedE room l n xk = -1 := by
  have : (scanN l xk n).1 = -1 := by
    rcases scan_at l xk n hn with ⟨e, _⟩ | ⟨m, x, e, p1, p2, p3, p4, _⟩
    · exact e
    · exact absurd ((h.mem xk).2 ⟨m, x, by omega, p1, p2, p4, p3⟩) hO
  unfold askedE
  rw [this]
  split <;> rfl
set_option maxRecDepth 20000 in
/-- how many keys are kept -/
theorem keys_full {room : Int} (h1 : 1 ≤ room) {l : List Do} {i n : Nat} {O : List (Array Value)} (hn : n ≤ l.length) (h : Behind l i n O) (hl : (O.length : Int) = room) : ((playE room l n).length : Int) = O.length := by
  have := nodup_len O ((playU l n).map (·.k)) h.nd fun z hz => by
    obtain ⟨j, y, _, q⟩ := (h.mem z).1 hz
    exact (playU_mem l n hn z).2 ⟨j, y, q⟩
  rw [List.length_map] at this
  rw [play_lastn h1, lastn_len]
  omega
set_option maxRecDepth 20000 in
theorem keys_all {room : Int} (h1 : 1 ≤ room) {l : List Do} {n : Nat} {O : List (Array Value)} (hn : n ≤ l.length) (h : Behind l 0 n O) (hl : (O.length : Int) ≤ room) : ((playE room l n).length : Int) = O.length := by
  have a := nodup_len O ((playU l n).map (·.k)) h.nd fun z hz => by
    obtain ⟨j, y, _, q⟩ := (h.mem z).1 hz
    exact (playU_mem l n hn z).2 ⟨j, y, q⟩
  have b := nodup_len ((playU l n).map (·.k)) O (playU_keys l n) fun z hz => by
    obtain ⟨j, y, q⟩ := (playU_mem l n hn z).1 hz
    exact (h.mem z).2 ⟨j, y, by omega, q⟩
  rw [List.length_map] at a b
  rw [play_lastn h1, lastn_len]
  omega
set_option maxRecDepth 20000 in
/-- what stands of a key, told of where it was asked -/
theorem find_asked {room : Int} (h1 : 1 ≤ room) (l : List Do) (xk : Array Value) (n : Nat) (hn : n ≤ l.length) :
    (askedE room l n xk = -1 ∧ findE (playE room l n) xk = none) ∨ ∃ (m : Nat) (y : Do) (b : Bool), askedE room l n xk = m ∧ m < n ∧ l[m]? = some y ∧ findE (playE room l n) xk = some ⟨xk, y.a, b⟩ ∧ (b = true ↔ ∃ j z, m < j ∧ j < n ∧ l[j]? = some z ∧ z.k = xk ∧ z.kd = 1) := by
  unfold askedE
  rcases rule_law h1 l xk n hn with ⟨e, q⟩ | ⟨m, x, e, q1, q2, q3, ⟨_, q⟩ | ⟨_, q⟩⟩
  · rw [q]; exact .inl ⟨rfl, rfl⟩
  · rw [q]
    refine .inr ⟨m, x, _, e, q1, q2, rfl, ?_⟩
    rcases scan_at l xk n hn with ⟨e', _⟩ | ⟨m', x', e', p1, p2, p3, p4, p5, p6⟩
    · omega
    · have : m = m' := by omega
      subst this
      exact p6
  · rw [q]; exact .inl ⟨rfl, rfl⟩
end Go.Proofs.Ytcflebggepmmcaa
