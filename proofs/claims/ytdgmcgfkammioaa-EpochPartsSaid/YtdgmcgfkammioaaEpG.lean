/- horologelaw35.going: samples put one by one, and the epochs told of them: plain, and in memory. -/
import Derived.Test.YtdgmcgfkammioaaEpY
namespace Go.Proofs.Ytdgmcgfkammioaa
open Go.RowKit Go.Maps

structure PtS where
  s : Int
  on : Int
  o : Int
  d : Int
structure PtOk (p : PtS) : Prop where
  s : 0 ≤ p.s ∧ p.s ≤ 255
  on : 0 ≤ p.on ∧ p.on ≤ 255
  o : -2147483648 ≤ p.o ∧ p.o ≤ 2147483647
  d : -2147483648 ≤ p.d ∧ p.d ≤ 2147483647
def smP (up : Int) (p : PtS) : Sm := ⟨(p.s % 16).toNat, p.o + up, p.d⟩
structure GS where
  n : Int
  done : List (Int × List Sm)
  cur : List Sm
def gStep (up : Int) (st : GS) (p : PtS) : GS :=
  if st.cur = [] then ⟨st.n + p.on % 4, st.done, [smP up p]⟩
  else if p.on % 4 = 0 then ⟨st.n + p.on % 4, st.done, st.cur ++ [smP up p]⟩
  else ⟨st.n + p.on % 4, st.done ++ [(st.n, st.cur)], [smP up p]⟩
def goS (fr up : Int) (l : List PtS) : GS := l.foldl (gStep up) ⟨fr, [], []⟩
set_option maxRecDepth 20000 in
theorem goS_snoc (fr up : Int) (l : List PtS) (p : PtS) : goS fr up (l ++ [p]) = gStep up (goS fr up l) p := by unfold goS; rw [List.foldl_append]; rfl
set_option maxRecDepth 20000 in
theorem goS_take (fr up : Int) (l : List PtS) (j : Nat) (hj : j < l.length) : goS fr up (l.take (j + 1)) = gStep up (goS fr up (l.take j)) l[j] := by
  rw [List.take_add_one, List.getElem?_eq_getElem hj]
  exact goS_snoc _ _ _ _
set_option maxRecDepth 20000 in
theorem gStep_n (up : Int) (st : GS) (p : PtS) : (gStep up st p).n = st.n + p.on % 4 := by
  unfold gStep
  split
  · rfl
  · split <;> rfl
set_option maxRecDepth 20000 in
theorem gStep_cur (up : Int) (st : GS) (p : PtS) : (gStep up st p).cur ≠ [] := by
  unfold gStep
  split
  · simp
  · split <;> simp
set_option maxRecDepth 20000 in
theorem goS_bd (fr up : Int) (l : List PtS) : ∀ j, fr ≤ (goS fr up (l.take j)).n ∧ (goS fr up (l.take j)).n ≤ fr + 3 * j
  | 0 => by simp [goS]
  | j + 1 => by
    have ih := goS_bd fr up l j
    by_cases hj : j < l.length
    · rw [goS_take _ _ _ _ hj, gStep_n]
      omega
    · rw [List.take_of_length_le (by omega)] at ih ⊢
      omega
set_option maxRecDepth 20000 in
theorem goS_cur (fr up : Int) (l : List PtS) (h : l ≠ []) : (goS fr up l).cur ≠ [] := by
  refine snoc_ind (P := fun l => l ≠ [] → (goS fr up l).cur ≠ []) (fun h => absurd rfl h) (fun l x _ _ => ?_) l h
  rw [goS_snoc]
  exact gStep_cur _ _ _
set_option maxRecDepth 20000 in
theorem gStep_done (up : Int) (st : GS) (p : PtS) : (gStep up st p).done.length ≤ st.done.length + 1 := by
  unfold gStep
  split
  · simp
  · split <;> simp
set_option maxRecDepth 20000 in
theorem goS_done (fr up : Int) (l : List PtS) : ∀ j, (goS fr up (l.take j)).done.length ≤ j
  | 0 => by simp [goS]
  | j + 1 => by
    have ih := goS_done fr up l j
    by_cases hj : j < l.length
    · rw [goS_take _ _ _ _ hj]
      have := gStep_done up (goS fr up (l.take j)) l[j]
      omega
    · rw [List.take_of_length_le (by omega)] at ih ⊢
      omega
noncomputable def mkG (st : GS) : MkS := if st.cur = [] then mk0 1024 16 else ⟨1024, 16, true, st.n, bestL st.cur⟩
def grpG (st : GS) : List (Int × List Sm) := if st.cur = [] then st.done else st.done ++ [(st.n, st.cur)]
set_option maxRecDepth 20000 in
theorem mkG_first {up : Int} {st : GS} {p : PtS} (h : st.cur = []) : mkG (gStep up st p) = { mkG st with some := true, num := st.n + p.on % 4, f := bestPut (mkG st).f (p.s % 16).toNat (p.o + up) p.d } := by
  unfold mkG
  rw [if_neg (gStep_cur _ _ _), if_pos h]
  unfold gStep
  rw [if_pos h]
  rfl
set_option maxRecDepth 20000 in
theorem mkG_stay {up : Int} {st : GS} {p : PtS} (h : st.cur ≠ []) (q : p.on % 4 = 0) : mkG (gStep up st p) = { mkG st with some := true, num := st.n + p.on % 4, f := bestPut (mkG st).f (p.s % 16).toNat (p.o + up) p.d } := by
  unfold mkG
  rw [if_neg (gStep_cur _ _ _), if_neg h]
  unfold gStep
  rw [if_neg h, if_pos q]
  simp only
  rw [bestL_snoc]
  rfl
set_option maxRecDepth 20000 in
theorem mkG_next {up : Int} {st : GS} {p : PtS} (h : st.cur ≠ []) (q : p.on % 4 ≠ 0) : mkG (gStep up st p) = { mkG st with some := true, num := st.n + p.on % 4, f := bestPut b0F (p.s % 16).toNat (p.o + up) p.d } := by
  unfold mkG
  rw [if_neg (gStep_cur _ _ _), if_neg h]
  unfold gStep
  rw [if_neg h, if_neg q]
  rfl
set_option maxRecDepth 20000 in
theorem done_same {up : Int} {st : GS} {p : PtS} (h : st.cur = [] ∨ p.on % 4 = 0) : (gStep up st p).done = st.done := by
  unfold gStep
  by_cases c : st.cur = []
  · rw [if_pos c]
  · rw [if_neg c, if_pos (h.resolve_left c)]
set_option maxRecDepth 20000 in
theorem done_next {up : Int} {st : GS} {p : PtS} (h : st.cur ≠ []) (q : p.on % 4 ≠ 0) : (gStep up st p).done = st.done ++ [(st.n, st.cur)] := by
  unfold gStep
  rw [if_neg h, if_neg q]
/-- epochs told of groups -/
def TG (G : List (Int × List Sm)) (Es : List Ep) : Prop := Es.length = G.length ∧ ∀ (i : Nat) (g : Int × List Sm) (E : Ep), G[i]? = some g → Es[i]? = some E → IsTold g.1 16 (bestL g.2) E
set_option maxRecDepth 20000 in
theorem TG.nil : TG [] [] := ⟨rfl, fun i g E h => by simp at h⟩
set_option maxRecDepth 20000 in
theorem TG.snoc {G : List (Int × List Sm)} {Es : List Ep} (h : TG G Es) {g : Int × List Sm} {E : Ep} (k : IsTold g.1 16 (bestL g.2) E) : TG (G ++ [g]) (Es ++ [E]) := by
  refine ⟨by simp [h.1], fun i g' E' h1 h2 => ?_⟩
  by_cases c : i < G.length
  · rw [List.getElem?_append_left c] at h1
    rw [List.getElem?_append_left (by rw [h.1]; exact c)] at h2
    exact h.2 i g' E' h1 h2
  · have hi := (List.getElem?_eq_some_iff.1 h1).1
    rw [List.length_append, List.length_singleton] at hi
    obtain rfl : i = G.length := by omega
    rw [List.getElem?_append_right (Nat.le_refl _), Nat.sub_self] at h1
    rw [List.getElem?_append_right (by rw [h.1]; exact Nat.le_refl _), h.1, Nat.sub_self] at h2
    have e1 : g = g' := by simpa using h1
    have e2 : E = E' := by simpa using h2
    rw [← e1, ← e2]
    exact k
/-! ### rows of epochs -/
def flC (CL : List (Array Value)) : List Value := CL.flatMap fun c => c.toList
set_option maxRecDepth 20000 in
theorem flC_snoc (CL : List (Array Value)) (c : Array Value) : flC (CL ++ [c]) = flC CL ++ c.toList := by unfold flC; rw [List.flatMap_append]; simp
set_option maxRecDepth 20000 in
theorem own_slE {w : World} {b n s : Nat} {T : TypeId} {v : Value} {xs : List Value} (h : w.ownsRow b T s v n xs) : ∃ A c, v = .slice A n c := by
  rcases h.2 with ⟨rfl, rfl⟩ | ⟨g, cap, _, rfl, _⟩
  · exact ⟨none, 0, rfl⟩
  · exact ⟨_, cap, rfl⟩
structure AllE (b : Nat) (w : World) (v : Value) (Es : List Ep) (CL : List (Array Value)) : Prop where
  row : w.ownsRow b 38 7 v Es.length (flC CL)
  len : CL.length = Es.length
  c : ∀ (i : Nat) (E : Ep) (C : Array Value), Es[i]? = some E → CL[i]? = some C → C.size = 7 ∧ EpF w E (.agg C)
set_option maxRecDepth 20000 in
theorem AllE.nil (b : Nat) (w : World) : AllE b w (.slice none 0 0) [] [] := ⟨World.ownsRow_nil _ _ _ _, rfl, fun i E C h => by simp at h⟩
set_option maxRecDepth 20000 in
theorem own_noT {w : World} {b T s n : Nat} {v : Value} {xs : List Value} (h : w.ownsRow b T s v n xs) {t : TypeId} (ne : T ≠ t) : ∀ g, v.ownBlock = some g → NoT t w g := fun g hg => by
  rcases h.2 with ⟨rfl, _⟩ | ⟨g', cap, cur, rfl, hb, hB, _⟩
  · simp [Value.ownBlock] at hg
  · have e : g' = g := by simpa [Value.ownBlock] using hg
    subst e
    exact noT_blk (⟨hB⟩ : Blk w g' T cur) ne
set_option maxRecDepth 20000 in
theorem own_kp {S : Nat → Prop} {w w' : World} {b T s n : Nat} {v : Value} {xs : List Value} (h : w.ownsRow b T s v n xs) (k : KpS S w w') (q : ∀ g, S g → NoT T w g) : w'.ownsRow b T s v n xs := by
  refine ⟨h.1, ?_⟩
  rcases h.2 with e | ⟨g', cap, cur, rfl, hb, hB, rest⟩
  · exact .inl e
  · refine .inr ⟨g', cap, cur, rfl, hb, ?_, rest⟩
    exact (k.block g' (Array.getElem?_eq_some_iff.1 hB).1 fun e => q g' e cur _ hB).trans hB
set_option maxRecDepth 20000 in
theorem AllE.kp {S : Nat → Prop} {b : Nat} {w w' : World} {v : Value} {Es : List Ep} {CL : List (Array Value)} (h : AllE b w v Es CL) (k : KpS S w w') (q1 : ∀ g, S g → NoT 38 w g) (q2 : ∀ g, S g → NoT 3 w g) : AllE b w' v Es CL :=
  ⟨own_kp h.row k q1, h.len, fun i E C h1 h2 => ⟨(h.c i E C h1 h2).1, (h.c i E C h1 h2).2.kp k q2⟩⟩
set_option maxRecDepth 20000 in
theorem AllE.mo {b : Nat} {w w' : World} {v : Value} {Es : List Ep} {CL : List (Array Value)} (h : AllE b w v Es CL) (k : Mo w w') : AllE b w' v Es CL :=
  ⟨owns_mo h.row k, h.len, fun i E C h1 h2 => ⟨(h.c i E C h1 h2).1, (h.c i E C h1 h2).2.mo k⟩⟩
set_option maxRecDepth 20000 in
theorem AllE.snoc {b : Nat} {w w' : World} {v v' : Value} {Es : List Ep} {CL : List (Array Value)} {E : Ep} {C : Array Value} (h : AllE b w v Es CL) (hc : EpF w E (.agg C)) (hz : C.size = 7) (hown : w'.ownsRow b 38 7 v' (Es.length + 1) (flC CL ++ C.toList)) (hg : w.grownBy w' v.ownBlock) : AllE b w' v' (Es ++ [E]) (CL ++ [C]) := by
  have K : KpS (fun i => v.ownBlock = some i) w w' := ⟨hg.os, hg.tape, hg.output, hg.size, fun k hk nk => hg.block k hk fun e => nk e.symm⟩
  have q := own_noT h.row (t := 3) (by decide)
  refine ⟨by rw [List.length_append, List.length_singleton, flC_snoc]; exact hown, by simp [h.len], fun i x X h1 h2 => ?_⟩
  by_cases c : i < Es.length
  · rw [List.getElem?_append_left c] at h1
    rw [List.getElem?_append_left (by rw [h.len]; exact c)] at h2
    exact ⟨(h.c i x X h1 h2).1, (h.c i x X h1 h2).2.kp K q⟩
  · have hi := (List.getElem?_eq_some_iff.1 h1).1
    rw [List.length_append, List.length_singleton] at hi
    obtain rfl : i = Es.length := by omega
    rw [List.getElem?_append_right (Nat.le_refl _), Nat.sub_self] at h1
    rw [List.getElem?_append_right (by rw [h.len]; exact Nat.le_refl _), h.len, Nat.sub_self] at h2
    have e1 : E = x := by simpa using h1
    have e2 : C = X := by simpa using h2
    rw [← e1, ← e2]
    exact ⟨hz, hc.kp K q⟩
/-- []Put in memory -/
structure PutsS (W : World) (A : Option Addr) (cap : Nat) (l : List PtS) : Prop where
  cap : l.length ≤ cap
  lim : l.length * 12 ≤ 140737488351232
  ok : ∀ p ∈ l, PtOk p
  row : l = [] ∨ ∃ g off, A = some ⟨g, off, none⟩ ∧ ∀ j (h : j < l.length), W.cell? ⟨g, off + j * 4, none⟩ = some (.int .u8 l[j].s) ∧ W.cell? ⟨g, off + j * 4 + 1, none⟩ = some (.int .u8 l[j].on) ∧ W.cell? ⟨g, off + j * 4 + 2, none⟩ = some (.int .i32 l[j].o) ∧ W.cell? ⟨g, off + j * 4 + 3, none⟩ = some (.int .i32 l[j].d)
set_option maxRecDepth 20000 in
theorem PutsS.mo {W w : World} {A : Option Addr} {cap : Nat} {l : List PtS} (h : PutsS W A cap l) (k : Mo W w) : PutsS w A cap l := by
  refine ⟨h.cap, h.lim, h.ok, ?_⟩
  rcases h.row with e | ⟨g, off, rfl, hc⟩
  · exact .inl e
  · refine .inr ⟨g, off, rfl, fun j hj => ?_⟩
    obtain ⟨h1, h2, h3, h4⟩ := hc j hj
    have : LtW g W := LtW.of_cell h1
    exact ⟨by rw [k.cell, h1], by rw [k.cell, h2], by rw [k.cell, h3], by rw [k.cell, h4]⟩
set_option maxRecDepth 20000 in
theorem nOf_go {n i : Int} (hn : -9000000000000000 ≤ n ∧ n ≤ 9000000000000000) (hi : 0 ≤ i ∧ i < 1024) : nOf 1024 (n * 1024 + i) = n := by
  unfold nOf
  have e : (n * 1024 + i) / 1024 = n := by omega
  rw [e]
  exact cl64_same ⟨by omega, by omega⟩
end Go.Proofs.Ytdgmcgfkammioaa
