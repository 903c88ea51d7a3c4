/- horologelaw35.EpochMoved: plain. -/
import Derived.Test.YtdgmcgfkammioaaEpI
namespace Go.Proofs.Ytdgmcgfkammioaa
open Go.RowKit

def upS (b : Int) (x : Sm) : Sm := ⟨x.s, x.o + b, x.d⟩
set_option maxRecDepth 20000 in
theorem upB_put (b : Int) (f : BestF) (s : Nat) (o d : Int) : bestPut (upB b f) s (o + b) d = upB b (bestPut f s o d) := by
  funext k
  by_cases c : k = s
  · subst c
    rw [bestPut_same]
    show _ = (bestPut f k o d k).map _
    rw [bestPut_same]
    unfold upB
    cases f k with
    | none => rfl
    | some x =>
      simp only [Option.map]
      split <;> rfl
  · rw [bestPut_other _ _ c]
    show (f k).map _ = (bestPut f s o d k).map _
    rw [bestPut_other _ _ c]
set_option maxRecDepth 20000 in
theorem bestL_up (b : Int) (l : List Sm) : bestL (l.map (upS b)) = upB b (bestL l) := by
  refine snoc_ind (P := fun l => bestL (l.map (upS b)) = upB b (bestL l)) ?_ (fun l x ih => ?_) l
  · rfl
  · rw [List.map_append, List.map_cons, List.map_nil, bestL_snoc, bestL_snoc, ih]
    exact upB_put _ _ _ _ _
def mvG (on up : Int) (g : Int × List Sm) : Int × List Sm := (g.1 + on, g.2.map (upS up))
set_option maxRecDepth 20000 in
theorem smP_up (up : Int) (p : PtS) : smP up p = upS up (smP 0 p) := by unfold smP upS; simp
set_option maxRecDepth 20000 in
theorem gs_eq {n n' : Int} {D D' : List (Int × List Sm)} {C C' : List Sm} (h1 : n = n') (h2 : D = D') (h3 : C = C') : GS.mk n D C = GS.mk n' D' C' := by subst h1 h2 h3; rfl
set_option maxRecDepth 20000 in
theorem goS_mv (on up : Int) (l : List PtS) : goS on up l = ⟨(goS 0 0 l).n + on, (goS 0 0 l).done.map (mvG on up), (goS 0 0 l).cur.map (upS up)⟩ := by
  refine snoc_ind (P := fun l => goS on up l = ⟨(goS 0 0 l).n + on, (goS 0 0 l).done.map (mvG on up), (goS 0 0 l).cur.map (upS up)⟩) ?_ (fun l p ih => ?_) l
  · exact gs_eq (Int.zero_add on).symm rfl rfl
  · rw [goS_snoc, goS_snoc, ih]
    generalize goS 0 0 l = st
    obtain ⟨n, D, C⟩ := st
    have one : [smP up p] = [smP 0 p].map (upS up) := by rw [smP_up]; rfl
    by_cases c : C = []
    · have c' : C.map (upS up) = [] := by rw [c]; rfl
      unfold gStep
      simp only
      rw [if_pos c, if_pos c']
      exact gs_eq (by simp only; omega) rfl one
    · have c' : C.map (upS up) ≠ [] := fun e => c (List.map_eq_nil_iff.1 e)
      unfold gStep
      simp only
      rw [if_neg c, if_neg c']
      by_cases q : p.on % 4 = 0
      · rw [if_pos q, if_pos q]
        exact gs_eq (by simp only; omega) rfl (by rw [one, ← List.map_append])
      · rw [if_neg q, if_neg q]
        exact gs_eq (by simp only; omega) (by rw [List.map_append]; rfl) one
set_option maxRecDepth 20000 in
theorem grpG_mv (on up : Int) (l : List PtS) : grpG (goS on up l) = (grpG (goS 0 0 l)).map (mvG on up) := by
  rw [goS_mv]
  generalize goS 0 0 l = st
  obtain ⟨n, D, C⟩ := st
  unfold grpG
  simp only
  by_cases c : C = []
  · rw [if_pos c, if_pos (by rw [c]; rfl)]
  · rw [if_neg c, if_neg (fun e => c (List.map_eq_nil_iff.1 e)), List.map_append]
    rfl
/-! ### bounds -/
def SmB (x : Sm) : Prop := (-2147483648 ≤ x.o ∧ x.o ≤ 2147483647) ∧ -2147483648 ≤ x.d ∧ x.d ≤ 2147483647
structure GsB (m : Int) (st : GS) : Prop where
  n : 0 ≤ st.n ∧ st.n ≤ m
  done : ∀ g ∈ st.done, (0 ≤ g.1 ∧ g.1 ≤ m) ∧ ∀ x ∈ g.2, SmB x
  cur : ∀ x ∈ st.cur, SmB x
set_option maxRecDepth 20000 in
theorem gStep_B {m : Int} {st : GS} {p : PtS} (ok : PtOk p) (h : GsB m st) : GsB (m + 3) (gStep 0 st p) := by
  have one : ∀ x ∈ [smP 0 p], SmB x := fun x hx => by
    rw [List.mem_singleton] at hx
    rw [hx]
    have h1 := ok.o
    have h2 := ok.d
    exact ⟨⟨by show _ ≤ p.o + 0; omega, by show p.o + 0 ≤ _; omega⟩, h2⟩
  have hn := h.n
  have up : ∀ g ∈ st.done, (0 ≤ g.1 ∧ g.1 ≤ m + 3) ∧ ∀ x ∈ g.2, SmB x := fun g hg => by
    have := h.done g hg
    exact ⟨⟨this.1.1, by omega⟩, this.2⟩
  have bn : 0 ≤ (gStep 0 st p).n ∧ (gStep 0 st p).n ≤ m + 3 := by rw [gStep_n]; omega
  refine ⟨bn, ?_, ?_⟩
  · unfold gStep
    split
    · exact up
    · split
      · exact up
      · intro g hg
        rcases List.mem_append.1 hg with hg | hg
        · exact up g hg
        · rw [List.mem_singleton] at hg
          rw [hg]
          exact ⟨⟨hn.1, by show st.n ≤ _; omega⟩, h.cur⟩
  · unfold gStep
    split
    · exact one
    · split
      · intro x hx
        rcases List.mem_append.1 hx with hx | hx
        · exact h.cur x hx
        · exact one x hx
      · exact one
set_option maxRecDepth 20000 in
theorem goS_B (l : List PtS) (ok : ∀ p ∈ l, PtOk p) : GsB (3 * l.length) (goS 0 0 l) := by
  refine snoc_ind (P := fun l => (∀ p ∈ l, PtOk p) → GsB (3 * l.length) (goS 0 0 l)) (fun _ => ⟨⟨Int.le_refl _, Int.le_refl _⟩, fun g hg => (by cases hg), fun x hx => (by cases hx)⟩) (fun l x ih ok => ?_) l ok
  rw [goS_snoc]
  have := gStep_B (ok x (List.mem_append_right _ (List.mem_singleton.2 rfl))) (ih fun p hp => ok p (List.mem_append_left _ hp))
  rw [List.length_append, List.length_singleton]
  have e : 3 * (((l.length + 1 : Nat)) : Int) = 3 * (l.length : Int) + 3 := by omega
  rw [e]
  exact this
set_option maxRecDepth 20000 in
theorem grpG_B {m : Int} {st : GS} (h : GsB m st) : ∀ g ∈ grpG st, (0 ≤ g.1 ∧ g.1 ≤ m) ∧ ∀ x ∈ g.2, SmB x := fun g hg => by
  unfold grpG at hg
  split at hg
  · exact h.done g hg
  · rcases List.mem_append.1 hg with hg | hg
    · exact h.done g hg
    · rw [List.mem_singleton] at hg
      rw [hg]
      exact ⟨h.n, h.cur⟩
set_option maxRecDepth 20000 in
theorem best_B {l : List Sm} (h : ∀ x ∈ l, SmB x) {s : Nat} {v : Int × Int} (k : bestL l s = some v) : (-2147483648 ≤ v.1 ∧ v.1 ≤ 2147483647) ∧ 0 ≤ dist v.2 ∧ dist v.2 ≤ 2147483647 := by
  obtain ⟨⟨x, hx, -, q⟩, -⟩ := bestL_some k
  have b := h x hx
  rw [← q]
  exact ⟨b.1, by have := b.2; show 0 ≤ max x.d 0; omega, by have := b.2; show max x.d 0 ≤ _; omega⟩
set_option maxRecDepth 20000 in
theorem ivs_B {l : List Sm} (h : ∀ x ∈ l, SmB x) {i : Iv} (hi : i ∈ ivsB 16 (bestL l)) : (-10000000000 ≤ i.lo ∧ i.lo ≤ 10000000000) ∧ -10000000000 ≤ i.hi ∧ i.hi ≤ 10000000000 := by
  obtain ⟨s, hs, rfl⟩ := List.mem_map.1 hi
  obtain ⟨-, hs⟩ := keysB_mem.1 hs
  cases e : bestL l s with
  | none => rw [e] at hs; cases hs
  | some x =>
    obtain ⟨h1, h2, h3⟩ := best_B h e
    show (_ ≤ cl64 (x.1 - dist x.2) ∧ cl64 (x.1 - dist x.2) ≤ _) ∧ _ ≤ cl64 (x.1 + dist x.2) ∧ cl64 (x.1 + dist x.2) ≤ _
    generalize dist x.2 = d at *
    rw [cl64_same ⟨by omega, by omega⟩, cl64_same ⟨by omega, by omega⟩]
    omega
structure EpB (E : Ep) : Prop where
  n : 0 ≤ E.num ∧ E.num ≤ 1000
  lo : -10000000000 ≤ E.lo ∧ E.lo ≤ 10000000000
  hi : -10000000000 ≤ E.hi ∧ E.hi ≤ 10000000000
  s : E.srv.length ≤ 16
  t : E.tr.length ≤ 16
set_option maxRecDepth 20000 in
theorem told_B {g : Int × List Sm} {E : Ep} (h : IsTold g.1 16 (bestL g.2) E) (bn : 0 ≤ g.1 ∧ g.1 ≤ 1000) (bs : ∀ x ∈ g.2, SmB x) : EpB E := by
  have hs := told_len h
  have tl := (told_tr h).2.2
  have kl := keysB_len 16 (bestL g.2)
  have s16 : E.srv.length ≤ 16 := by rw [hs.2]; exact kl
  obtain ⟨r, hr, e⟩ := h
  refine ⟨by rw [hs.1]; exact bn, ?_, ?_, s16, by omega⟩
  · cases r with
    | none => rw [e]; exact ⟨by show (_ : Int) ≤ 0; omega, by show (0 : Int) ≤ _; omega⟩
    | some x =>
      obtain ⟨i, fl⟩ := x
      obtain ⟨⟨y, hy, e1⟩, -⟩ := hr.2.1.1
      rw [e]
      show _ ≤ i.lo ∧ i.lo ≤ _
      rw [← e1]
      exact (ivs_B bs hy).1
  · cases r with
    | none => rw [e]; exact ⟨by show (_ : Int) ≤ 0; omega, by show (0 : Int) ≤ _; omega⟩
    | some x =>
      obtain ⟨i, fl⟩ := x
      obtain ⟨⟨y, hy, e1⟩, -⟩ := hr.2.1.2
      rw [e]
      show _ ≤ i.hi ∧ i.hi ≤ _
      rw [← e1]
      exact (ivs_B bs hy).2
set_option maxRecDepth 20000 in
/-- what going tells of moved samples -/
theorem going_moved {on up : Int} {l : List PtS} {Es Es' : List Ep} (h : TG (grpG (goS 0 0 l)) Es) (h' : TG (grpG (goS on up l)) Es') (ok : ∀ p ∈ l, PtOk p) (hl : l.length ≤ 100) (bu : -2147483648 ≤ up ∧ up ≤ 2147483647) :
    Es'.length = Es.length ∧ ∀ i (hi : i < Es.length) (hi' : i < Es'.length), Es'[i] = mvEp on up Es[i] ∧ EpB Es[i] := by
  rw [grpG_mv] at h'
  have len : Es'.length = Es.length := by rw [h'.1, h.1, List.length_map]
  refine ⟨len, fun i hi hi' => ?_⟩
  have hg : i < (grpG (goS 0 0 l)).length := by rw [← h.1]; exact hi
  have t := h.2 i _ _ (List.getElem?_eq_getElem hg) (List.getElem?_eq_getElem hi)
  have t' := h'.2 i (mvG on up (grpG (goS 0 0 l))[i]) _ (by rw [List.getElem?_map, List.getElem?_eq_getElem hg]; rfl) (List.getElem?_eq_getElem hi')
  obtain ⟨b1, b2⟩ := grpG_B (goS_B l ok) _ (List.getElem_mem hg)
  generalize (grpG (goS 0 0 l))[i] = g at *
  refine ⟨told_uniq (num := g.1 + on) (sv := 16) (f := upB up (bestL g.2)) ?_ (told_moved (fun s x e => ?_) t), told_B t ⟨b1.1, by omega⟩ b2⟩
  · rw [← bestL_up]
    exact t'
  · obtain ⟨c1, c2, c3⟩ := best_B b2 e
    generalize dist x.2 = d at *
    omega
end Go.Proofs.Ytdgmcgfkammioaa
