/- law33, plain: points that many intervals have; what is agreed upon. No program in sight. -/
import Derived.Test.YtdgmcgfkammioaaPlain
namespace Go.Proofs.Ytdgmcgfkammioaa

structure Iv where
  lo : Int
  hi : Int
set_option maxRecDepth 20000 in
theorem Iv.same {a b : Iv} (h : a.lo = b.lo) (k : a.hi = b.hi) : a = b := by
  cases a; cases b; simp only at h k; rw [h, k]
def had (l : List Iv) (p : Int) : Nat := l.countP fun x => decide (x.lo ≤ p) && decide (p ≤ x.hi)
def MayL (l : List Iv) : Prop := ∀ x ∈ l, x.lo ≤ x.hi
def IsAgr (l : List Iv) (m : Nat) : Option Iv → Prop
  | none => ∀ x ∈ l, had l x.lo < m
  | some i => ((∃ x ∈ l, x.lo = i.lo) ∧ m ≤ had l i.lo ∧ ∀ x ∈ l, m ≤ had l x.lo → i.lo ≤ x.lo) ∧ ((∃ x ∈ l, x.hi = i.hi) ∧ m ≤ had l i.hi ∧ ∀ x ∈ l, m ≤ had l x.hi → x.hi ≤ i.hi)
set_option maxRecDepth 20000 in
theorem isAgr_uniq {l : List Iv} {m : Nat} {a b : Option Iv} (ha : IsAgr l m a) (hb : IsAgr l m b) : a = b := by
  cases a with
  | none =>
    cases b with
    | none => rfl
    | some i =>
      obtain ⟨⟨⟨x, hx, e⟩, h2, _⟩, _⟩ := hb
      have := ha x hx
      rw [e] at this
      omega
  | some i =>
    cases b with
    | none =>
      obtain ⟨⟨⟨x, hx, e⟩, h2, _⟩, _⟩ := ha
      have := hb x hx
      rw [e] at this
      omega
    | some j =>
      obtain ⟨⟨⟨x, hx, e⟩, h2, h3⟩, ⟨⟨x', hx', e'⟩, h2', h3'⟩⟩ := ha
      obtain ⟨⟨⟨y, hy, f⟩, k2, k3⟩, ⟨⟨y', hy', f'⟩, k2', k3'⟩⟩ := hb
      have a1 := h3 y hy (by rw [f]; exact k2)
      have a2 := k3 x hx (by rw [e]; exact h2)
      have a3 := h3' y' hy' (by rw [f']; exact k2')
      have a4 := k3' x' hx' (by rw [e']; exact h2')
      rw [Iv.same (a := i) (b := j) (by omega) (by omega)]
set_option maxRecDepth 20000 in
theorem exists_most {α : Type} (q : α → Prop) (f : α → Int) (l : List α) : (∃ x ∈ l, q x) → ∃ x ∈ l, q x ∧ ∀ y ∈ l, q y → f y ≤ f x := by
  induction l with
  | nil => rintro ⟨x, hx, _⟩; cases hx
  | cons a l ih =>
    intro h
    by_cases c : ∃ x ∈ l, q x
    · obtain ⟨x, hx, h1, h2⟩ := ih c
      by_cases k : q a ∧ f x ≤ f a
      · refine ⟨a, List.mem_cons_self, k.1, fun y hy hq => ?_⟩
        rcases List.mem_cons.1 hy with rfl | hy
        · exact Int.le_refl _
        · exact Int.le_trans (h2 y hy hq) k.2
      · refine ⟨x, List.mem_cons_of_mem _ hx, h1, fun y hy hq => ?_⟩
        rcases List.mem_cons.1 hy with rfl | hy
        · rcases Int.lt_or_le (f x) (f y) with e | e
          · exact absurd ⟨hq, by omega⟩ k
          · exact e
        · exact h2 y hy hq
    · obtain ⟨x, hx, hq⟩ := h
      rcases List.mem_cons.1 hx with rfl | hx
      · refine ⟨x, List.mem_cons_self, hq, fun y hy hy' => ?_⟩
        rcases List.mem_cons.1 hy with rfl | hy
        · exact Int.le_refl _
        · exact absurd ⟨y, hy, hy'⟩ c
      · exact absurd ⟨x, hx, hq⟩ c
set_option maxRecDepth 20000 in
theorem had_pos {l : List Iv} {p : Int} (h : 0 < had l p) : ∃ x ∈ l, x.lo ≤ p ∧ p ≤ x.hi := by
  unfold had at h
  obtain ⟨x, hx, k⟩ := List.countP_pos_iff.1 h
  simp at k
  exact ⟨x, hx, k.1, k.2⟩
set_option maxRecDepth 20000 in
theorem had_mono {l : List Iv} {p p' : Int} (h : ∀ x ∈ l, x.lo ≤ p → p ≤ x.hi → x.lo ≤ p' ∧ p' ≤ x.hi) : had l p ≤ had l p' := by
  unfold had
  refine List.countP_mono_left fun x hx k => ?_
  simp at k ⊢
  exact h x hx k.1 k.2
set_option maxRecDepth 20000 in
/-- the last beginning ahead of a point has as many -/
theorem had_low {l : List Iv} {p : Int} (h : 0 < had l p) : ∃ x ∈ l, x.lo ≤ p ∧ p ≤ x.hi ∧ had l p ≤ had l x.lo := by
  obtain ⟨x, hx, ⟨h1, h2⟩, h3⟩ := exists_most (fun x : Iv => x.lo ≤ p ∧ p ≤ x.hi) (fun x => x.lo) l (by obtain ⟨x, hx, a, b⟩ := had_pos h; exact ⟨x, hx, a, b⟩)
  exact ⟨x, hx, h1, h2, had_mono fun y hy a b => ⟨h3 y hy ⟨a, b⟩, Int.le_trans h1 b⟩⟩
set_option maxRecDepth 20000 in
/-- the first end behind a point has as many -/
theorem had_high {l : List Iv} {p : Int} (h : 0 < had l p) : ∃ x ∈ l, x.lo ≤ p ∧ p ≤ x.hi ∧ had l p ≤ had l x.hi := by
  obtain ⟨x, hx, ⟨h1, h2⟩, h3⟩ := exists_most (fun x : Iv => x.lo ≤ p ∧ p ≤ x.hi) (fun x => -x.hi) l (by obtain ⟨x, hx, a, b⟩ := had_pos h; exact ⟨x, hx, a, b⟩)
  exact ⟨x, hx, h1, h2, had_mono fun y hy a b => ⟨Int.le_trans a h2, by have := h3 y hy ⟨a, b⟩; omega⟩⟩
set_option maxRecDepth 20000 in
theorem had_le_length (l : List Iv) (p : Int) : had l p ≤ l.length := List.countP_le_length
set_option maxRecDepth 20000 in
/-- what is agreed upon has an order -/
theorem agr_le {l : List Iv} {m : Nat} {i : Iv} (hm : 0 < m) (h : IsAgr l m (some i)) : i.lo ≤ i.hi := by
  obtain ⟨x, hx, h1, h2, h3⟩ := had_high (l := l) (p := i.lo) (by have := h.1.2.1; omega)
  have := h.2.2.2 x hx (by have := h.1.2.1; omega)
  omega
set_option maxRecDepth 20000 in
/-- every point that many have is within -/
theorem agr_within {l : List Iv} {m : Nat} {i : Iv} (hm : 0 < m) (h : IsAgr l m (some i)) {p : Int} (hp : m ≤ had l p) : i.lo ≤ p ∧ p ≤ i.hi := by
  obtain ⟨x, hx, h1, h2, h3⟩ := had_low (l := l) (p := p) (by omega)
  obtain ⟨y, hy, k1, k2, k3⟩ := had_high (l := l) (p := p) (by omega)
  have a := h.1.2.2 x hx (by omega)
  have b := h.2.2.2 y hy (by omega)
  omega
set_option maxRecDepth 20000 in
theorem agr_none {l : List Iv} {m : Nat} (hm : 0 < m) (h : IsAgr l m none) (p : Int) : had l p < m := by
  rcases Nat.lt_or_ge (had l p) m with c | c
  · exact c
  · obtain ⟨x, hx, h1, h2, h3⟩ := had_low (l := l) (p := p) (by omega)
    have := h x hx
    omega
set_option maxRecDepth 20000 in
/-- what is agreed upon, told of points alone -/
theorem isAgr_of {l : List Iv} {m : Nat} {i : Iv} (hm : 0 < m) (h1 : m ≤ had l i.lo) (h2 : m ≤ had l i.hi) (h3 : ∀ p, m ≤ had l p → i.lo ≤ p ∧ p ≤ i.hi) : IsAgr l m (some i) := by
  obtain ⟨x, hx, a1, a2, a3⟩ := had_low (l := l) (p := i.lo) (by omega)
  obtain ⟨y, hy, b1, b2, b3⟩ := had_high (l := l) (p := i.hi) (by omega)
  have c1 := h3 x.lo (by omega)
  have c2 := h3 y.hi (by omega)
  exact ⟨⟨⟨x, hx, by omega⟩, h1, fun z _ hz => (h3 z.lo hz).1⟩, ⟨⟨y, hy, by omega⟩, h2, fun z _ hz => (h3 z.hi hz).2⟩⟩
set_option maxRecDepth 20000 in
theorem isAgr_ex (l : List Iv) (m : Nat) (hm : 0 < m) : ∃ o, IsAgr l m o := by
  by_cases c : ∃ x ∈ l, m ≤ had l x.lo
  · obtain ⟨x, hx, h1, h2⟩ := exists_most (fun x : Iv => m ≤ had l x.lo) (fun x => -x.lo) l c
    have c' : ∃ x ∈ l, m ≤ had l x.hi := by
      obtain ⟨y, hy, k1, k2, k3⟩ := had_high (l := l) (p := x.lo) (by omega)
      exact ⟨y, hy, by omega⟩
    obtain ⟨y, hy, k1, k2⟩ := exists_most (fun x : Iv => m ≤ had l x.hi) (fun x => x.hi) l c'
    exact ⟨some ⟨x.lo, y.hi⟩, ⟨⟨x, hx, rfl⟩, h1, fun z hz hq => by have := h2 z hz hq; show x.lo ≤ z.lo; omega⟩, ⟨⟨y, hy, rfl⟩, k1, fun z hz hq => k2 z hz hq⟩⟩
  · exact ⟨none, fun x hx => by
      rcases Nat.lt_or_ge (had l x.lo) m with q | q
      · exact q
      · exact absurd ⟨x, hx, q⟩ c⟩
/-! ### the least f -/
def IsFind (l : List Iv) : Option (Iv × Nat) → Prop
  | none => ∀ f, 2 * f < l.length → IsAgr l (l.length - f) none
  | some (i, f) => 2 * f < l.length ∧ IsAgr l (l.length - f) (some i) ∧ ∀ f', f' < f → IsAgr l (l.length - f') none
set_option maxRecDepth 20000 in
theorem isFind_uniq {l : List Iv} {a b : Option (Iv × Nat)} (ha : IsFind l a) (hb : IsFind l b) : a = b := by
  cases a with
  | none =>
    cases b with
    | none => rfl
    | some j =>
      obtain ⟨h1, h2, h3⟩ := hb
      have := isAgr_uniq (ha _ h1) h2
      cases this
  | some i =>
    obtain ⟨h1, h2, h3⟩ := ha
    cases b with
    | none =>
      have := isAgr_uniq h2 (hb _ h1)
      cases this
    | some j =>
      obtain ⟨i, f⟩ := i
      obtain ⟨j, g⟩ := j
      obtain ⟨k1, k2, k3⟩ := hb
      simp only at h1 h2 h3 k1 k2 k3
      rcases Nat.lt_trichotomy f g with c | c | c
      · have := isAgr_uniq h2 (k3 f c)
        cases this
      · subst c
        have := isAgr_uniq h2 k2
        injection this with this
        rw [this]
      · have := isAgr_uniq (h3 g c) k2
        cases this
/-- the places of those that meet it -/
def meets (i x : Iv) : Bool := decide (x.lo ≤ i.hi) && decide (i.lo ≤ x.hi)
def trueL (l : List Iv) (i : Iv) : List Nat := (List.range l.length).filter fun k => l[k]?.any (meets i)
/-! ### numbers in order -/
set_option maxRecDepth 20000 in
theorem sorted_countP (q : Int → Bool) (hq : ∀ a b, a ≤ b → q b = true → q a = true) (L : List Int) (h : L.Pairwise (· ≤ ·)) (i : Nat) (hi : i < L.length) : q L[i] = true ↔ i < L.countP q := by
  induction L generalizing i with
  | nil => simp at hi
  | cons a L ih =>
    rw [List.pairwise_cons] at h
    rw [List.countP_cons]
    by_cases c : q a = true
    · rw [if_pos c]
      cases i with
      | zero => simp [c]
      | succ i =>
        have := ih h.2 i (by simpa using hi)
        simp only [List.getElem_cons_succ]
        rw [this]
        omega
    · have hz : L.countP q = 0 := by
        rw [List.countP_eq_zero]
        intro x hx k
        exact c (hq a x (h.1 x hx) k)
      rw [if_neg c, hz]
      constructor
      · intro k
        exfalso
        cases i with
        | zero => exact c k
        | succ i => exact c (hq a _ (h.1 _ (List.getElem_mem (by simpa using hi))) k)
      · intro k; omega
set_option maxRecDepth 20000 in
theorem sorted_le {L : List Int} (h : L.Pairwise (· ≤ ·)) {i j : Nat} (hij : i ≤ j) (hj : j < L.length) : L[i] ≤ L[j] := by
  rcases Nat.lt_or_ge i j with c | c
  · exact List.pairwise_iff_getElem.1 h i j (by omega) hj c
  · obtain rfl : i = j := by omega
    exact Int.le_refl _
def begun (L : List Int) (p : Int) : Nat := L.countP fun x => decide (x ≤ p)
def ended (H : List Int) (p : Int) : Nat := H.countP fun x => decide (x < p)
set_option maxRecDepth 20000 in
theorem begun_iff {L : List Int} (h : L.Pairwise (· ≤ ·)) (p : Int) (i : Nat) (hi : i < L.length) : L[i] ≤ p ↔ i < begun L p := by
  have := sorted_countP (fun x => decide (x ≤ p)) (fun a b hab hb => by simp at hb ⊢; omega) L h i hi
  rw [decide_eq_true_eq] at this
  exact this
set_option maxRecDepth 20000 in
theorem ended_iff {H : List Int} (h : H.Pairwise (· ≤ ·)) (p : Int) (i : Nat) (hi : i < H.length) : H[i] < p ↔ i < ended H p := by
  have := sorted_countP (fun x => decide (x < p)) (fun a b hab hb => by simp at hb ⊢; omega) H h i hi
  rw [decide_eq_true_eq] at this
  exact this
set_option maxRecDepth 20000 in
theorem begun_le (L : List Int) (p : Int) : begun L p ≤ L.length := List.countP_le_length
set_option maxRecDepth 20000 in
theorem ended_le (L : List Int) (p : Int) : ended L p ≤ L.length := List.countP_le_length
/-- beginnings and ends, in order -/
structure Cov (l : List Iv) (L H : List Int) : Prop where
  may : MayL l
  pL : L.Perm (l.map (·.lo))
  pH : H.Perm (l.map (·.hi))
  sL : L.Pairwise (· ≤ ·)
  sH : H.Pairwise (· ≤ ·)
set_option maxRecDepth 20000 in
theorem Cov.lenL {l : List Iv} {L H : List Int} (h : Cov l L H) : L.length = l.length := by rw [h.pL.length_eq, List.length_map]
set_option maxRecDepth 20000 in
theorem Cov.lenH {l : List Iv} {L H : List Int} (h : Cov l L H) : H.length = l.length := by rw [h.pH.length_eq, List.length_map]
set_option maxRecDepth 20000 in
theorem split_count (l : List Iv) (h : MayL l) (p : Int) : l.countP (fun x => decide (x.lo ≤ p)) = had l p + l.countP (fun x => decide (x.hi < p)) := by
  unfold had
  induction l with
  | nil => rfl
  | cons x l ih =>
    have hx := h x List.mem_cons_self
    have hl := ih fun y hy => h y (List.mem_cons_of_mem _ hy)
    rw [List.countP_cons, List.countP_cons, List.countP_cons, hl]
    by_cases a : x.lo ≤ p
    · by_cases b : p ≤ x.hi
      · simp [a, b, Int.not_lt.2 b]; omega
      · simp [a, b, Int.not_le.1 b]; omega
    · have : ¬ x.hi < p := by omega
      simp [a, this]
set_option maxRecDepth 20000 in
theorem Cov.had {l : List Iv} {L H : List Int} (h : Cov l L H) (p : Int) : begun L p = had l p + ended H p := by
  unfold begun ended
  rw [h.pL.countP_eq, h.pH.countP_eq, List.countP_map, List.countP_map]
  exact split_count l h.may p
set_option maxRecDepth 20000 in
theorem Cov.ex {l : List Iv} (h : MayL l) : Cov l ((l.map (·.lo)).mergeSort fun x y => decide (x ≤ y)) ((l.map (·.hi)).mergeSort fun x y => decide (x ≤ y)) := by
  have t : ∀ a b c : Int, decide (a ≤ b) = true → decide (b ≤ c) = true → decide (a ≤ c) = true := fun a b c h k => by simp at h k ⊢; omega
  have o : ∀ a b : Int, (decide (a ≤ b) || decide (b ≤ a)) = true := fun a b => by simp; omega
  refine ⟨h, List.mergeSort_perm _ _, List.mergeSort_perm _ _, ?_, ?_⟩
  · exact (List.pairwise_mergeSort t o _).imp fun k => by simpa using k
  · exact (List.pairwise_mergeSort t o _).imp fun k => by simpa using k
set_option maxRecDepth 20000 in
/-- a beginning that so many have begun with, or fewer -/
theorem begun_step {L : List Int} (h : L.Pairwise (· ≤ ·)) {i : Nat} (hi : i < L.length) {p : Int} (hp : p ∈ L) (hb : begun L p ≤ i + 1) : begun L p ≤ i ∨ p = L[i] := by
  rcases Nat.lt_or_ge i (begun L p) with c | c
  · right
    have h1 := (begun_iff h p i hi).2 c
    obtain ⟨j, hj, rfl⟩ := List.getElem_of_mem hp
    have h2 := (begun_iff h L[j] j hj).1 (Int.le_refl _)
    have := sorted_le h (show j ≤ i by omega) hi
    omega
  · left; exact c
set_option maxRecDepth 20000 in
theorem begun_last {L : List Int} (h : L.Pairwise (· ≤ ·)) {i : Nat} (hi : i < L.length) (hn : ∀ k : i + 1 < L.length, L[i] < L[i + 1]) : begun L L[i] = i + 1 := by
  have h1 := (begun_iff h L[i] i hi).1 (Int.le_refl _)
  rcases Nat.lt_or_ge (i + 1) (begun L L[i]) with c | c
  · have hk : i + 1 < L.length := Nat.lt_of_lt_of_le c (begun_le _ _)
    have := (begun_iff h L[i] (i + 1) hk).2 c
    have := hn hk
    omega
  · omega
set_option maxRecDepth 20000 in
theorem begun_not {L : List Int} (h : L.Pairwise (· ≤ ·)) {i : Nat} (hk : i + 1 < L.length) (he : L[i + 1] ≤ L[i]) {p : Int} (hp : p ∈ L) (hb : begun L p ≤ i + 1) : begun L p ≤ i := by
  rcases begun_step h (by omega) hp hb with c | c
  · exact c
  · have := (begun_iff h p (i + 1) hk).1 (by omega)
    omega
/-- what is noted behind so many beginnings -/
structure Noted (l : List Iv) (L : List Int) (m i : Nat) (found : Bool) (lo hi : Int) : Prop where
  no : found = false → lo = 0 ∧ hi = 0 ∧ ∀ p ∈ L, begun L p ≤ i → had l p < m
  lows : found = true → lo ∈ L ∧ begun L lo ≤ i ∧ m ≤ had l lo ∧ ∀ p ∈ L, begun L p ≤ i → m ≤ had l p → lo ≤ p
  highs : found = true → hi ∈ L ∧ begun L hi ≤ i ∧ m ≤ had l hi ∧ ∀ p ∈ L, begun L p ≤ i → m ≤ had l p → p ≤ hi
set_option maxRecDepth 20000 in
theorem begun_pos {L : List Int} {p : Int} (h : p ∈ L) : 0 < begun L p := by
  unfold begun
  rw [List.countP_pos_iff]
  exact ⟨p, h, by simp⟩
set_option maxRecDepth 20000 in
theorem noted_start (l : List Iv) (L : List Int) (m : Nat) : Noted l L m 0 false 0 0 :=
  ⟨fun _ => ⟨rfl, rfl, fun p hp k => by have := begun_pos hp; omega⟩, fun h => (by cases h), fun h => (by cases h)⟩
set_option maxRecDepth 20000 in
theorem Noted.skip {l : List Iv} {L : List Int} {m i : Nat} {f : Bool} {lo hi : Int} (s : L.Pairwise (· ≤ ·)) (n : Noted l L m i f lo hi) (hk : i + 1 < L.length) (he : L[i + 1] ≤ L[i]) : Noted l L m (i + 1) f lo hi :=
  ⟨fun h => ⟨(n.no h).1, (n.no h).2.1, fun p hp k => (n.no h).2.2 p hp (begun_not s hk he hp k)⟩,
   fun h => ⟨(n.lows h).1, Nat.le_succ_of_le (n.lows h).2.1, (n.lows h).2.2.1, fun p hp k q => (n.lows h).2.2.2 p hp (begun_not s hk he hp k) q⟩,
   fun h => ⟨(n.highs h).1, Nat.le_succ_of_le (n.highs h).2.1, (n.highs h).2.2.1, fun p hp k q => (n.highs h).2.2.2 p hp (begun_not s hk he hp k) q⟩⟩
set_option maxRecDepth 20000 in
theorem Noted.less {l : List Iv} {L : List Int} {m i : Nat} {f : Bool} {lo hi : Int} (s : L.Pairwise (· ≤ ·)) (n : Noted l L m i f lo hi) (hi' : i < L.length) (he : had l L[i] < m) : Noted l L m (i + 1) f lo hi := by
  refine ⟨fun h => ⟨(n.no h).1, (n.no h).2.1, fun p hp k => ?_⟩, fun h => ⟨(n.lows h).1, Nat.le_succ_of_le (n.lows h).2.1, (n.lows h).2.2.1, fun p hp k q => ?_⟩, fun h => ⟨(n.highs h).1, Nat.le_succ_of_le (n.highs h).2.1, (n.highs h).2.2.1, fun p hp k q => ?_⟩⟩
  · rcases begun_step s hi' hp k with c | c
    · exact (n.no h).2.2 p hp c
    · rw [c]; exact he
  · rcases begun_step s hi' hp k with c | c
    · exact (n.lows h).2.2.2 p hp c q
    · rw [c] at q; omega
  · rcases begun_step s hi' hp k with c | c
    · exact (n.highs h).2.2.2 p hp c q
    · rw [c] at q; omega
set_option maxRecDepth 20000 in
theorem begun_up {L : List Int} (s : L.Pairwise (· ≤ ·)) {i : Nat} (hi' : i < L.length) {p : Int} (k : begun L p ≤ i) : p < L[i] := by
  rcases Int.lt_or_le p L[i] with c | c
  · exact c
  · have h1 := (begun_iff s p i hi').1 c
    omega
set_option maxRecDepth 20000 in
theorem Noted.more {l : List Iv} {L : List Int} {m i : Nat} {f : Bool} {lo hi : Int} (s : L.Pairwise (· ≤ ·)) (n : Noted l L m i f lo hi) (hi' : i < L.length) (hb : begun L L[i] = i + 1) (he : m ≤ had l L[i]) : Noted l L m (i + 1) true (if f then lo else L[i]) L[i] := by
  refine ⟨fun h => (by cases h), fun _ => ?_, fun _ => ⟨List.getElem_mem hi', Nat.le_of_eq hb, he, fun p hp k q => ?_⟩⟩
  · cases f with
    | true =>
      refine ⟨(n.lows rfl).1, Nat.le_succ_of_le (n.lows rfl).2.1, (n.lows rfl).2.2.1, fun p hp k q => ?_⟩
      rcases begun_step s hi' hp k with c | c
      · exact (n.lows rfl).2.2.2 p hp c q
      · rw [c]
        exact Int.le_of_lt (begun_up s hi' (n.lows rfl).2.1)
    | false =>
      refine ⟨List.getElem_mem hi', Nat.le_of_eq hb, he, fun p hp k q => ?_⟩
      rcases begun_step s hi' hp k with c | c
      · have := (n.no rfl).2.2 p hp c
        omega
      · rw [c]; exact Int.le_refl _
  · rcases begun_step s hi' hp k with c | c
    · exact Int.le_of_lt (begun_up s hi' c)
    · rw [c]; exact Int.le_refl _
set_option maxRecDepth 20000 in
theorem begun_mono (L : List Int) {a b : Int} (h : a ≤ b) : begun L a ≤ begun L b := by
  unfold begun
  exact List.countP_mono_left fun x _ k => by simp at k ⊢; omega
set_option maxRecDepth 20000 in
theorem ended_mono (L : List Int) {a b : Int} (h : a ≤ b) : ended L a ≤ ended L b := by
  unfold ended
  exact List.countP_mono_left fun x _ k => by simp at k ⊢; omega
set_option maxRecDepth 20000 in
theorem Cov.low {l : List Iv} {L H : List Int} (h : Cov l L H) {p : Int} (hp : p ∈ L) : ∃ x ∈ l, x.lo = p := by
  have := h.pL.mem_iff.1 hp
  simpa using this
set_option maxRecDepth 20000 in
theorem Cov.high {l : List Iv} {L H : List Int} (h : Cov l L H) {p : Int} (hp : p ∈ H) : ∃ x ∈ l, x.hi = p := by
  have := h.pH.mem_iff.1 hp
  simpa using this
set_option maxRecDepth 20000 in
theorem noted_none {l : List Iv} {L H : List Int} (h : Cov l L H) {m : Nat} {lo hi : Int} (n : Noted l L m L.length false lo hi) : IsAgr l m none := fun x hx =>
  (n.no rfl).2.2 x.lo (h.pL.mem_iff.2 (List.mem_map_of_mem hx)) (begun_le _ _)
set_option maxRecDepth 20000 in
theorem noted_some {l : List Iv} {L H : List Int} (h : Cov l L H) {m : Nat} (hm : 0 < m) {lo hi : Int} (n : Noted l L m L.length true lo hi) : m ≤ begun L hi ∧ ∃ hj : begun L hi - m < H.length, IsAgr l m (some ⟨lo, H[begun L hi - m]⟩) := by
  obtain ⟨a1, -, a3, a4⟩ := n.lows rfl
  obtain ⟨b1, -, b3, b4⟩ := n.highs rfl
  have e := h.had hi
  have hbl := begun_le L hi
  have hl := h.lenL
  have hh := h.lenH
  have hj : begun L hi - m < H.length := by omega
  refine ⟨by omega, hj, ?_⟩
  obtain ⟨x, hx, ex⟩ := h.low a1
  obtain ⟨y, hy, ey⟩ := h.high (List.getElem_mem hj)
  have g1 : ¬ H[begun L hi - m] < hi := fun c => by
    have := (ended_iff h.sH hi _ hj).1 c
    omega
  have g2 : ended H H[begun L hi - m] ≤ begun L hi - m := by
    rcases Nat.lt_or_ge (begun L hi - m) (ended H H[begun L hi - m]) with c | c
    · have := (ended_iff h.sH _ _ hj).2 c
      omega
    · exact c
  have g3 := begun_mono L (show hi ≤ H[begun L hi - m] by omega)
  have e2 := h.had H[begun L hi - m]
  refine ⟨⟨⟨x, hx, ex⟩, a3, fun z hz q => a4 z.lo (h.pL.mem_iff.2 (List.mem_map_of_mem hz)) (begun_le _ _) q⟩, ⟨⟨y, hy, ey⟩, by show m ≤ had l H[begun L hi - m]; omega, fun z hz q => ?_⟩⟩
  show z.hi ≤ H[begun L hi - m]
  rcases Int.lt_or_le H[begun L hi - m] z.hi with c | c
  · exfalso
    have c1 := (ended_iff h.sH z.hi _ hj).1 c
    have e3 := h.had z.hi
    have c2 : begun L hi < begun L z.hi := by omega
    have c3 := begun_le L z.hi
    have k1 : begun L z.hi - 1 < L.length := by omega
    have k2 := (begun_iff h.sL z.hi _ k1).2 (by omega)
    have k3 : hi < L[begun L z.hi - 1] := by
      rcases Int.lt_or_le hi L[begun L z.hi - 1] with d | d
      · exact d
      · have := (begun_iff h.sL hi _ k1).1 d
        omega
    have k4 := (begun_iff h.sL L[begun L z.hi - 1] _ k1).1 (Int.le_refl _)
    have k5 := ended_mono H k2
    have e4 := h.had L[begun L z.hi - 1]
    have := b4 _ (List.getElem_mem k1) (begun_le _ _) (by omega)
    omega
  · exact c
/-! ### what the stage's theorem asks -/
set_option maxRecDepth 20000 in
theorem find_le {l : List Iv} {i : Iv} {f : Nat} (h : IsFind l (some (i, f))) : i.lo ≤ i.hi := agr_le (by have := h.1; omega) h.2.1
set_option maxRecDepth 20000 in
theorem trueL_count (l : List Iv) (q : Iv → Bool) : ((List.range l.length).filter fun k => l[k]?.any q).length = l.countP q := by
  induction l with
  | nil => rfl
  | cons x l ih =>
    have e : (List.filter (fun k => ((x :: l)[k]?).any q) (List.map Nat.succ (List.range l.length))).length = l.countP q := by
      rw [← ih, List.filter_map, List.length_map]
      congr 1
    rw [List.length_cons, List.range_succ_eq_map, List.filter_cons, List.countP_cons]
    by_cases hq : q x = true
    · simp [hq, e]
    · simp [hq, e]
end Go.Proofs.Ytdgmcgfkammioaa
