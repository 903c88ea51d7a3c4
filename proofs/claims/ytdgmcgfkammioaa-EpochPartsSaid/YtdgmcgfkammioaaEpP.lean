/- epoch: what a maker tells, plain. -/
import Derived.Test.YtdgmcgfkammioaaTruR
import Derived.Test.YtdgmcgfkammioaaPlain
import Derived.Test.YtdgmcgfkammioaaAround33
namespace Go.Proofs.Ytdgmcgfkammioaa
open Go.RowKit

/-- best samples: of each server its offset and its distance -/
abbrev BestF := Nat → Option (Int × Int)
def b0F : BestF := fun _ => none
def putF (f : BestF) (s : Nat) (x : Int × Int) : BestF := fun k => if k = s then some x else f k
set_option maxRecDepth 20000 in
theorem putF_same (f : BestF) (s : Nat) (x : Int × Int) : putF f s x s = some x := if_pos rfl
set_option maxRecDepth 20000 in
theorem putF_other {f : BestF} {s k : Nat} (x : Int × Int) (h : k ≠ s) : putF f s x k = f k := if_neg h
def bestPut (f : BestF) (s : Nat) (o d : Int) : BestF := match f s with
  | some x => if d < x.2 then putF f s (o, d) else f
  | none => putF f s (o, d)
def keysB (sv : Nat) (f : BestF) : List Nat := (List.range sv).filter fun s => (f s).isSome
def ivP (x : Int × Int) : Iv := ⟨cl64 (x.1 - dist x.2), cl64 (x.1 + dist x.2)⟩
def ivsB (sv : Nat) (f : BestF) : List Iv := (keysB sv f).map fun s => ivP ((f s).getD (0, 0))
structure Ep where
  num : Int
  srv : List Nat
  maj : Bool
  lo : Int
  hi : Int
  fl : Nat
  tr : List Nat
set_option maxRecDepth 20000 in
theorem Ep.same {a b : Ep} (h1 : a.num = b.num) (h2 : a.srv = b.srv) (h3 : a.maj = b.maj) (h4 : a.lo = b.lo) (h5 : a.hi = b.hi) (h6 : a.fl = b.fl) (h7 : a.tr = b.tr) : a = b := by
  cases a; cases b; simp only at *; subst h1 h2 h3 h4 h5 h6 h7; rfl
def ep0 : Ep := ⟨0, [], false, 0, 0, 0, []⟩
def epOf (num : Int) (srv : List Nat) (l : List Iv) : Option (Iv × Nat) → Ep
  | none => ⟨num, srv, false, 0, 0, 0, []⟩
  | some (i, f) => ⟨num, srv, true, i.lo, i.hi, f, (trueL l i).map fun k => srv.getD k 0⟩
def IsTold (num : Int) (sv : Nat) (f : BestF) (E : Ep) : Prop := ∃ r, IsFind (ivsB sv f) r ∧ E = epOf num (keysB sv f) (ivsB sv f) r
set_option maxRecDepth 20000 in
theorem told_uniq {num : Int} {sv : Nat} {f : BestF} {E E' : Ep} (h : IsTold num sv f E) (k : IsTold num sv f E') : E = E' := by
  obtain ⟨r, h1, rfl⟩ := h
  obtain ⟨r', h2, rfl⟩ := k
  rw [isFind_uniq h1 h2]
set_option maxRecDepth 20000 in
theorem ivsB_len (sv : Nat) (f : BestF) : (ivsB sv f).length = (keysB sv f).length := List.length_map _
set_option maxRecDepth 20000 in
theorem keysB_len (sv : Nat) (f : BestF) : (keysB sv f).length ≤ sv := by
  unfold keysB
  refine Nat.le_trans (List.length_filter_le _ _) ?_
  rw [List.length_range]
  exact Nat.le_refl _
set_option maxRecDepth 20000 in
theorem keysB_mem {sv : Nat} {f : BestF} {s : Nat} : s ∈ keysB sv f ↔ s < sv ∧ (f s).isSome = true := by
  unfold keysB
  rw [List.mem_filter, List.mem_range]
set_option maxRecDepth 20000 in
theorem keysB_sorted (sv : Nat) (f : BestF) : (keysB sv f).Pairwise (· < ·) := List.Pairwise.filter _ List.pairwise_lt_range
set_option maxRecDepth 20000 in
theorem keysB_congr {sv : Nat} {f g : BestF} (h : ∀ s, s < sv → f s = g s) : keysB sv f = keysB sv g := by
  unfold keysB
  refine List.filter_congr fun s hs => ?_
  rw [h s (List.mem_range.1 hs)]
set_option maxRecDepth 20000 in
theorem ivsB_congr {sv : Nat} {f g : BestF} (h : ∀ s, s < sv → f s = g s) : ivsB sv f = ivsB sv g := by
  unfold ivsB
  rw [keysB_congr h]
  refine List.map_congr_left fun s hs => ?_
  rw [h s (keysB_mem.1 hs).1]
set_option maxRecDepth 20000 in
theorem told_congr {num : Int} {sv : Nat} {f g : BestF} {E : Ep} (h : ∀ s, s < sv → f s = g s) (k : IsTold num sv f E) : IsTold num sv g E := by
  obtain ⟨r, h1, h2⟩ := k
  rw [ivsB_congr h] at h1 h2
  rw [keysB_congr h] at h2
  exact ⟨r, h1, h2⟩
set_option maxRecDepth 20000 in
theorem dist_0 (x : Int) : 0 ≤ dist x := by unfold dist; omega
set_option maxRecDepth 20000 in
theorem ivP_le (x : Int × Int) : (ivP x).lo ≤ (ivP x).hi := by
  have := dist_0 x.2
  unfold ivP cl64
  simp only
  split <;> split <;> (try split) <;> omega
set_option maxRecDepth 20000 in
theorem ivsB_may (sv : Nat) (f : BestF) : MayL (ivsB sv f) := fun x hx => by
  obtain ⟨s, _, rfl⟩ := List.mem_map.1 hx
  exact ivP_le _
/-- the number of a moment's epoch -/
def nOf (wd a : Int) : Int := cl64 (a / wd)
set_option maxRecDepth 20000 in
theorem inW_div {a n : Int} (ha : InW a) (hn : 1 ≤ n) : InW (a / n) := by
  obtain ⟨h1, h2⟩ := ha
  constructor
  · rcases Int.lt_or_le a 0 with c | c
    · have : a ≤ a / n := by
        rw [Int.le_ediv_iff_mul_le (by omega)]
        have := Int.mul_le_mul_of_nonpos_left (show a ≤ 0 by omega) (show 1 ≤ n by omega)
        omega
      omega
    · have := Int.ediv_nonneg c (by omega : 0 ≤ n)
      omega
  · rcases Int.lt_or_le a 0 with c | c
    · have := Int.ediv_neg_of_neg_of_pos c (by omega : 0 < n)
      omega
    · have := Int.ediv_le_self n c
      omega
/-! ### samples of one epoch -/
/-- a sample: its server, offset, distance -/
structure Sm where
  s : Nat
  o : Int
  d : Int
def bestL (l : List Sm) : BestF := l.foldl (fun f x => bestPut f x.s x.o x.d) b0F
set_option maxRecDepth 20000 in
theorem bestL_snoc (l : List Sm) (x : Sm) : bestL (l ++ [x]) = bestPut (bestL l) x.s x.o x.d := by unfold bestL; rw [List.foldl_append]; rfl
set_option maxRecDepth 20000 in
theorem bestPut_same (f : BestF) (s : Nat) (o d : Int) : bestPut f s o d s = match f s with | some x => if d < x.2 then some (o, d) else some x | none => some (o, d) := by
  unfold bestPut
  cases e : f s with
  | none => exact putF_same _ _ _
  | some x =>
    simp only
    by_cases c : d < x.2
    · rw [if_pos c, if_pos c]; exact putF_same _ _ _
    · rw [if_neg c, if_neg c]; exact e
set_option maxRecDepth 20000 in
theorem bestPut_other {f : BestF} {s k : Nat} (o d : Int) (h : k ≠ s) : bestPut f s o d k = f k := by
  unfold bestPut
  cases f s with
  | none => exact putF_other _ h
  | some x =>
    simp only
    by_cases c : d < x.2
    · rw [if_pos c]; exact putF_other _ h
    · rw [if_neg c]
set_option maxRecDepth 20000 in
theorem snoc_ind {α : Type} {P : List α → Prop} (h0 : P []) (h1 : ∀ l x, P l → P (l ++ [x])) (l : List α) : P l := by
  have : ∀ r : List α, P r.reverse := fun r => by
    induction r with
    | nil => exact h0
    | cons x r ih => rw [List.reverse_cons]; exact h1 _ _ ih
  have := this l.reverse
  rwa [List.reverse_reverse] at this
set_option maxRecDepth 20000 in
/-- the first one of the least distance -/
theorem bestL_none {l : List Sm} {k : Nat} : bestL l k = none ↔ ∀ x ∈ l, x.s ≠ k := by
  refine snoc_ind (P := fun l => bestL l k = none ↔ ∀ x ∈ l, x.s ≠ k) ?_ ?_ l
  · exact ⟨fun _ x hx => (by cases hx), fun _ => rfl⟩
  · intro l x ih
    rw [bestL_snoc]
    by_cases c : k = x.s
    · subst c
      rw [bestPut_same]
      constructor
      · intro h
        exfalso
        revert h
        cases bestL l x.s with
        | none => intro h; cases h
        | some y => intro h; simp only at h; split at h <;> cases h
      · intro h
        exact absurd rfl (h x (List.mem_append_right _ (List.mem_singleton.2 rfl)))
    · rw [bestPut_other _ _ c, ih]
      constructor
      · intro h y hy
        rcases List.mem_append.1 hy with hy | hy
        · exact h y hy
        · rw [List.mem_singleton] at hy; rw [hy]; exact fun e => c e.symm
      · exact fun h y hy => h y (List.mem_append_left _ hy)
set_option maxRecDepth 20000 in
theorem bestL_some {l : List Sm} {k : Nat} {v : Int × Int} (h : bestL l k = some v) : (∃ x ∈ l, x.s = k ∧ (x.o, x.d) = v) ∧ ∀ x ∈ l, x.s = k → v.2 ≤ x.d := by
  revert v
  refine snoc_ind (P := fun l => ∀ {v : Int × Int}, bestL l k = some v → (∃ x ∈ l, x.s = k ∧ (x.o, x.d) = v) ∧ ∀ x ∈ l, x.s = k → v.2 ≤ x.d) ?_ ?_ l
  · intro v h
    cases h
  · intro l x ih v h
    rw [bestL_snoc] at h
    by_cases c : k = x.s
    · subst c
      rw [bestPut_same] at h
      cases e : bestL l x.s with
      | none =>
        rw [e] at h
        simp only [Option.some.injEq] at h
        subst h
        refine ⟨⟨x, List.mem_append_right _ (List.mem_singleton.2 rfl), rfl, rfl⟩, fun y hy q => ?_⟩
        rcases List.mem_append.1 hy with hy | hy
        · exact absurd q (bestL_none.1 e y hy)
        · rw [List.mem_singleton] at hy; rw [hy]; exact Int.le_refl _
      | some w =>
        rw [e] at h
        obtain ⟨⟨z, hz, q1, q2⟩, q3⟩ := ih e
        simp only at h
        by_cases cd : x.d < w.2
        · rw [if_pos cd, Option.some.injEq] at h
          subst h
          refine ⟨⟨x, List.mem_append_right _ (List.mem_singleton.2 rfl), rfl, rfl⟩, fun y hy q => ?_⟩
          rcases List.mem_append.1 hy with hy | hy
          · have := q3 y hy q; show x.d ≤ y.d; omega
          · rw [List.mem_singleton] at hy; rw [hy]; exact Int.le_refl _
        · rw [if_neg cd, Option.some.injEq] at h
          subst h
          refine ⟨⟨z, List.mem_append_left _ hz, q1, q2⟩, fun y hy q => ?_⟩
          rcases List.mem_append.1 hy with hy | hy
          · exact q3 y hy q
          · rw [List.mem_singleton] at hy; rw [hy]; omega
    · rw [bestPut_other _ _ c] at h
      obtain ⟨⟨z, hz, q1, q2⟩, q3⟩ := ih h
      refine ⟨⟨z, List.mem_append_left _ hz, q1, q2⟩, fun y hy q => ?_⟩
      rcases List.mem_append.1 hy with hy | hy
      · exact q3 y hy q
      · rw [List.mem_singleton] at hy; rw [hy] at q; exact absurd q.symm c
/-- the other way about: the same, but for like distances -/
def LikeS (l : List Sm) : Prop := ∃ x ∈ l, ∃ y ∈ l, x.s = y.s ∧ x.d = y.d ∧ x.o ≠ y.o
set_option maxRecDepth 20000 in
theorem bestL_perm {l l' : List Sm} (h : l.Perm l') (n : ¬ LikeS l) (k : Nat) : bestL l k = bestL l' k := by
  cases e : bestL l k with
  | none => exact (bestL_none.2 fun x hx => bestL_none.1 e x (h.mem_iff.2 hx)).symm
  | some v =>
    cases e' : bestL l' k with
    | none =>
      obtain ⟨⟨x, hx, q, -⟩, -⟩ := bestL_some e
      exact absurd q (bestL_none.1 e' x (h.mem_iff.1 hx))
    | some v' =>
      obtain ⟨⟨x, hx, q1, q2⟩, q3⟩ := bestL_some e
      obtain ⟨⟨y, hy, p1, p2⟩, p3⟩ := bestL_some e'
      have h1 := q3 y (h.mem_iff.2 hy) p1
      have h2 := p3 x (h.mem_iff.1 hx) q1
      have e1 : x.d = v.2 := congrArg Prod.snd q2
      have e2 : y.d = v'.2 := congrArg Prod.snd p2
      have hd : x.d = y.d := by omega
      have ho : x.o = y.o := Decidable.byContradiction fun c => n ⟨x, hx, y, h.mem_iff.2 hy, q1.trans p1.symm, hd, c⟩
      rw [← q2, ← p2, hd, ho]
/-! ### told -/
set_option maxRecDepth 20000 in
theorem told_len {num : Int} {sv : Nat} {f : BestF} {E : Ep} (h : IsTold num sv f E) : E.num = num ∧ E.srv = keysB sv f := by
  obtain ⟨r, -, rfl⟩ := h
  cases r with
  | none => exact ⟨rfl, rfl⟩
  | some x => exact ⟨rfl, rfl⟩
set_option maxRecDepth 20000 in
theorem trueL_lt (l : List Iv) (i : Iv) : ∀ k ∈ trueL l i, k < l.length := fun k hk => by
  unfold trueL at hk
  exact List.mem_range.1 (List.mem_filter.1 hk).1
set_option maxRecDepth 20000 in
theorem trueL_sorted (l : List Iv) (i : Iv) : (trueL l i).Pairwise (· < ·) := List.Pairwise.filter _ List.pairwise_lt_range
set_option maxRecDepth 20000 in
theorem srv_lt {L : List Nat} (h : L.Pairwise (· < ·)) {i j : Nat} (hij : i < j) (hj : j < L.length) : L.getD i 0 < L.getD j 0 := by
  rw [List.getD_eq_getElem?_getD, List.getD_eq_getElem?_getD, List.getElem?_eq_getElem (by omega), List.getElem?_eq_getElem hj]
  exact List.pairwise_iff_getElem.1 h i j (by omega) hj hij
set_option maxRecDepth 20000 in
theorem told_tr {num : Int} {sv : Nat} {f : BestF} {E : Ep} (h : IsTold num sv f E) : (∀ s ∈ E.tr, s ∈ E.srv) ∧ E.tr.Pairwise (· < ·) ∧ E.tr.length ≤ E.srv.length := by
  obtain ⟨r, -, rfl⟩ := h
  cases r with
  | none => exact ⟨fun s hs => (by cases hs), List.Pairwise.nil, Nat.zero_le _⟩
  | some x =>
    obtain ⟨i, fl⟩ := x
    refine ⟨fun s hs => ?_, ?_, ?_⟩
    · obtain ⟨k, hk, rfl⟩ := List.mem_map.1 hs
      have := trueL_lt _ _ k hk
      rw [ivsB_len] at this
      show (keysB sv f).getD k 0 ∈ keysB sv f
      rw [List.getD_eq_getElem?_getD, List.getElem?_eq_getElem this]
      exact List.getElem_mem this
    · show (List.map _ _).Pairwise _
      rw [List.pairwise_map]
      have hs := trueL_sorted (ivsB sv f) i
      refine hs.imp_of_mem fun {a b} _ hb q => srv_lt (keysB_sorted sv f) q ?_
      have := trueL_lt _ _ b hb
      rwa [ivsB_len] at this
    · show (List.map _ _).length ≤ _
      rw [List.length_map]
      unfold trueL
      refine Nat.le_trans (List.length_filter_le _ _) ?_
      rw [List.length_range, ivsB_len]
      exact Nat.le_refl _
set_option maxRecDepth 20000 in
/-- what EpochMost says -/
theorem told_most {num : Int} {sv : Nat} {f : BestF} {E : Ep} (h : IsTold num sv f E) (ne : 0 < E.srv.length) :
    (E.maj = false → E.lo = 0 ∧ E.hi = 0 ∧ E.fl = 0 ∧ E.tr = [] ∧ E.srv.length ≠ 1) ∧
    (E.maj = true → 2 * E.fl < E.srv.length ∧ E.srv.length - E.fl ≤ E.tr.length ∧ E.lo ≤ E.hi ∧ (E.srv.length = 1 → E.tr.length = 1 ∧ E.fl = 0)) := by
  have may := ivsB_may sv f
  have tl := (told_tr h).2.2
  obtain ⟨r, hr, rfl⟩ := h
  cases r with
  | none =>
    refine ⟨fun _ => ⟨rfl, rfl, rfl, rfl, fun h1 => ?_⟩, fun h => (by cases h)⟩
    have hl : (ivsB sv f).length = 1 := by rw [ivsB_len]; exact h1
    have := hr 0 (by omega)
    match hi : ivsB sv f, hl with
    | [x], _ =>
      rw [hi] at this may
      have h2 := this x List.mem_cons_self
      have h3 := may x List.mem_cons_self
      unfold had at h2
      simp [h3] at h2
  | some x =>
    obtain ⟨i, fl⟩ := x
    refine ⟨fun h => (by cases h), fun _ => ?_⟩
    have L := least_of hr
    have h1 : 2 * fl < (keysB sv f).length := by rw [← ivsB_len]; exact L.half
    have h2 : (keysB sv f).length - fl ≤ ((trueL (ivsB sv f) i).map fun k => (keysB sv f).getD k 0).length := by rw [List.length_map, ← ivsB_len]; exact L.many
    refine ⟨h1, h2, L.le, fun h3 => ?_⟩
    have h3' : (keysB sv f).length = 1 := h3
    have tl' : ((trueL (ivsB sv f) i).map fun k => (keysB sv f).getD k 0).length ≤ (keysB sv f).length := tl
    refine ⟨?_, ?_⟩
    · show ((trueL (ivsB sv f) i).map fun k => (keysB sv f).getD k 0).length = 1
      omega
    · show fl = 0
      omega
/-- all offsets moved -/
def upB (b : Int) (f : BestF) : BestF := fun s => (f s).map fun x => (x.1 + b, x.2)
set_option maxRecDepth 20000 in
theorem keysB_up (sv : Nat) (b : Int) (f : BestF) : keysB sv (upB b f) = keysB sv f := by
  unfold keysB upB
  refine List.filter_congr fun s _ => ?_
  cases f s <;> rfl
set_option maxRecDepth 20000 in
theorem ivsB_up {sv : Nat} {b : Int} {f : BestF} (h : ∀ s x, f s = some x → -9223372036854775808 ≤ x.1 - dist x.2 ∧ x.1 + dist x.2 ≤ 9223372036854775807 ∧ -9223372036854775808 ≤ x.1 + b - dist x.2 ∧ x.1 + b + dist x.2 ≤ 9223372036854775807) : ivsB sv (upB b f) = (ivsB sv f).map (shI b) := by
  unfold ivsB
  rw [keysB_up, List.map_map]
  refine List.map_congr_left fun s hs => ?_
  obtain ⟨-, hs⟩ := keysB_mem.1 hs
  cases e : f s with
  | none => rw [e] at hs; cases hs
  | some x =>
    have hx := h s x e
    have hd := dist_0 x.2
    show ivP ((upB b f s).getD (0, 0)) = shI b (ivP ((f s).getD (0, 0)))
    unfold upB
    rw [e]
    show (⟨cl64 (x.1 + b - dist x.2), cl64 (x.1 + b + dist x.2)⟩ : Iv) = ⟨cl64 (x.1 - dist x.2) + b, cl64 (x.1 + dist x.2) + b⟩
    generalize dist x.2 = d at *
    rw [cl64_same ⟨by omega, by omega⟩, cl64_same ⟨by omega, by omega⟩, cl64_same ⟨by omega, by omega⟩, cl64_same ⟨by omega, by omega⟩]
    exact Iv.same (by simp only; omega) (by simp only; omega)
set_option maxRecDepth 20000 in
theorem trueL_sh (l : List Iv) (b : Int) (i : Iv) : trueL (l.map (shI b)) (shI b i) = trueL l i := by
  unfold trueL
  rw [List.length_map]
  refine List.filter_congr fun k _ => ?_
  rw [List.getElem?_map]
  cases l[k]? with
  | none => rfl
  | some x =>
    show meets (shI b i) (shI b x) = meets i x
    unfold meets shI
    simp
/-- moved: numbers and ends go on so -/
def mvEp (on up : Int) (E : Ep) : Ep := ⟨E.num + on, E.srv, E.maj, if E.maj then E.lo + up else E.lo, if E.maj then E.hi + up else E.hi, E.fl, E.tr⟩
set_option maxRecDepth 20000 in
theorem told_moved {num on : Int} {sv : Nat} {b : Int} {f : BestF} {E : Ep} (h : ∀ s x, f s = some x → -9223372036854775808 ≤ x.1 - dist x.2 ∧ x.1 + dist x.2 ≤ 9223372036854775807 ∧ -9223372036854775808 ≤ x.1 + b - dist x.2 ∧ x.1 + b + dist x.2 ≤ 9223372036854775807) (k : IsTold num sv f E) : IsTold (num + on) sv (upB b f) (mvEp on b E) := by
  obtain ⟨r, hr, rfl⟩ := k
  refine ⟨r.map fun x => (shI b x.1, x.2), by rw [ivsB_up h]; exact isFind_sh b hr, ?_⟩
  rw [keysB_up, ivsB_up h]
  cases r with
  | none => rfl
  | some x =>
    obtain ⟨i, fl⟩ := x
    show mvEp on b ⟨num, keysB sv f, true, i.lo, i.hi, fl, (trueL (ivsB sv f) i).map fun k => (keysB sv f).getD k 0⟩ = ⟨num + on, keysB sv f, true, (shI b i).lo, (shI b i).hi, fl, (trueL ((ivsB sv f).map (shI b)) (shI b i)).map fun k => (keysB sv f).getD k 0⟩
    rw [trueL_sh]
    rfl
end Go.Proofs.Ytdgmcgfkammioaa
