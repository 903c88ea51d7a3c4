/- horologelaw36.ServerApart: plain. -/
import Derived.Test.YthgkhllkhhnlpaaSvW2
namespace Go.Proofs.Ythgkhllkhhnlpaa
open Go.RowKit Go.Maps

set_option maxRecDepth 20000 in
theorem nm_const {sv : Int} (h1 : 1 ≤ sv) {a : Array Value} (l : List Deed) : (∀ d ∈ l, whoD d = a) → l ≠ [] → nmS sv l = [a] := by
  refine snoc_indD (p := fun l => (∀ d ∈ l, whoD d = a) → l ≠ [] → nmS sv l = [a]) (fun _ h => absurd rfl h) (fun l d ih => ?_) l
  intro h _
  have hd : whoD d = a := h d (List.mem_append_right _ (List.mem_singleton.2 rfl))
  by_cases c : l = []
  · subst c
    rw [nm_new (by rw [nm_nil]; simp) (by rw [nm_nil]; simp; omega), nm_nil, hd]
    rfl
  · have e := ih (fun d hd => h d (List.mem_append_left _ hd)) c
    rw [nm_old (.inl (by rw [e, hd]; exact List.mem_singleton.2 rfl)), e]
set_option maxRecDepth 20000 in
theorem entF_ofA (x : Int) (D0 : Sd) (a : Array Value) (l : List Deed) : entF x D0 a (ofA a l) = entF x D0 a l := by
  unfold entF
  rw [ofA_idem]
set_option maxRecDepth 20000 in
/-- alone, a server has what it has among others -/
theorem alone_eq {sv x : Int} {D0 oD oD' : Sd} {l : List Deed} {es es' : List Ent} {ot ot' : Ent} (h1 : 1 ≤ sv) (h : TSt sv x D0 oD l es ot) {i : Nat} {E : Ent} (hi : es[i]? = some E) (h' : TSt sv x D0 oD' (ofA E.a l) es' ot') : es' = [E] := by
  obtain ⟨g1, g2⟩ := h.get hi
  obtain ⟨d, hd, hw⟩ := nm_mem l E.a (List.mem_of_getElem? g1)
  have hm : d ∈ ofA E.a l := by
    unfold ofA
    rw [List.mem_filter]
    exact ⟨hd, by simpa using hw⟩
  have e := nm_const h1 (ofA E.a l) (fun d hd => ofA_who d hd) (fun q => by rw [q] at hm; cases hm)
  rw [h'.es, e]
  show [entF x D0 E.a (ofA E.a l)] = [E]
  rw [entF_ofA, ← g2]
def sumM (μ : Ent → Int) (l : List Ent) : Int := (l.map μ).sum
set_option maxRecDepth 20000 in
theorem sumM_drop (μ : Ent → Int) (l : List Ent) (i : Nat) (E : Ent) (h : l[i]? = some E) : sumM μ (l.drop i) = μ E + sumM μ (l.drop (i + 1)) := by
  have l1 := (List.getElem?_eq_some_iff.1 h)
  obtain ⟨hl, e⟩ := l1
  unfold sumM
  rw [List.drop_eq_getElem_cons hl, List.map_cons, List.sum_cons, e]
set_option maxRecDepth 20000 in
theorem tot_sum (μ : Ent → Int) (es : List Ent) (ot : Ent) : totM μ es ot = sumM μ ((es ++ [ot]).drop 0) := by
  unfold totM sumM
  rw [List.drop_zero, List.map_append, List.sum_append]
  simp
set_option maxRecDepth 20000 in
theorem sumM_bd (μ : Ent → Int) (B : Int) (l : List Ent) (h : ∀ E ∈ l, 0 ≤ μ E ∧ μ E ≤ B) : 0 ≤ sumM μ l ∧ sumM μ l ≤ l.length * B := by
  unfold sumM
  induction l with
  | nil => simp
  | cons E l ih =>
    obtain ⟨a, b⟩ := h E List.mem_cons_self
    obtain ⟨c, d⟩ := ih fun E' q => h E' (List.mem_cons_of_mem _ q)
    rw [List.map_cons, List.sum_cons, List.length_cons]
    have : ((l.length + 1 : Nat) : Int) * B = l.length * B + B := by
      rw [Int.natCast_add, Int.add_mul]
      simp
    omega
/-- so many of a class, and of those ahead of it -/
def pcE (c : Nat → Int) : Nat → Int
  | 0 => 0
  | k + 1 => pcE c k + c k
set_option maxRecDepth 20000 in
theorem pc_9 (E : Ent) : pcE E.c 9 = csE E := by
  unfold csE
  simp [pcE]
set_option maxRecDepth 20000 in
theorem pc_bd (c : Nat → Int) (n : Int) (h : ∀ k, 0 ≤ c k ∧ c k ≤ n) : ∀ k, 0 ≤ pcE c k ∧ pcE c k ≤ k * n
  | 0 => by simp [pcE]
  | k + 1 => by
    have h1 := pc_bd c n h k
    have h2 := h k
    have e : ((k + 1 : Nat) : Int) * n = k * n + n := by rw [Int.natCast_add, Int.add_mul]; simp
    show 0 ≤ pcE c k + c k ∧ pcE c k + c k ≤ _
    omega
set_option maxRecDepth 20000 in
theorem cs_bd {n : Nat} {E : Ent} (h : EntOk n E) : 0 ≤ csE E ∧ csE E ≤ 9 * n := by
  have := pc_bd E.c n h.c 9
  rw [pc_9] at this
  omega
set_option maxRecDepth 20000 in
theorem cw_bd {n : Nat} {E : Ent} (h : EntOk n E) : 0 ≤ cwE E ∧ cwE E ≤ n := by
  obtain ⟨k, k1, g, _⟩ := h.g
  have h1 := g.c0
  have h2 := g.w0
  have h3 := g.cw
  unfold cwE
  omega
set_option maxRecDepth 20000 in
theorem TabW.oks {W : World} {T b : Nat} {S : Nat → Prop} {C : CfgS} {o w : Nat} {es : List Ent} {ot : Ent} {n : Nat} (h : TabW W T b S C o w es ot n) : ∀ E ∈ es ++ [ot], EntOk n E := fun E hE => by
  obtain ⟨B, lv, gs, Fs, go, Fo, t, ft⟩ := h.at_.ex
  rcases List.mem_append.1 hE with hE | hE
  · obtain ⟨i, hi⟩ := List.getElem?_of_mem hE
    have l := (List.getElem?_eq_some_iff.1 hi).1
    obtain ⟨p1, p2, p3, gv, sv, stv, he⟩ := t.ent i _ _ E (List.getElem?_eq_getElem (by rw [t.lg]; exact l)) (List.getElem?_eq_getElem (by rw [t.lF]; exact l)) hi
    exact he.ok
  · rw [List.mem_singleton] at hE
    subst hE
    obtain ⟨p1, p2, p3, gv, sv, stv, he⟩ := t.oth
    exact he.ok
set_option maxRecDepth 20000 in
theorem run_idx_cnt (c : Nat → Int) (k : Nat) (hk : k < 9) (w : World) : (Instr.index 56 (.agg (c9 c)) (.int .i64 (k : Nat))).run Try.prog w = .ok (.int .i64 (c k)) w := by
  rcases (show k = 0 ∨ k = 1 ∨ k = 2 ∨ k = 3 ∨ k = 4 ∨ k = 5 ∨ k = 6 ∨ k = 7 ∨ k = 8 by omega) with rfl | rfl | rfl | rfl | rfl | rfl | rfl | rfl | rfl <;> kernel_rfl
set_option maxRecDepth 20000 in
theorem len_chg {sv : Int} {D0 : Sd} {a : Array Value} {es es1 : List Ent} {ot : Ent} {f : Ent → Ent} {q : Option Nat} (_ : OfP sv D0 a es es1 q) : (chg f es1 ot q).1.length = es1.length := by
  unfold chg
  cases q with
  | none => rfl
  | some i =>
    simp only
    split
    · rw [List.length_set]
    · rfl
set_option maxRecDepth 20000 in
theorem cfgOk_of {C : CfgS} (hI : CfgI C) (h : ¬ (C.sv < 1 ∨ 256 < C.sv ∨ C.sl < 1 ∨ 1152921504606846976 < C.sl ∨ C.oc < 1 ∨ 10 < C.oc ∨ C.sh < 1 ∨ 64 < C.sh ∨ C.st < 0)) : CfgOk C C.oc.toNat C.sh.toNat := by
  obtain ⟨_, _, _, _, h5⟩ := hI
  have := h5.2
  exact ⟨by omega, by omega, by omega, by omega, by omega, by omega, by omega, by omega, by omega, by omega, by omega, by omega⟩
end Go.Proofs.Ythgkhllkhhnlpaa
