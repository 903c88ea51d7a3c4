/- horologelaw35: []Put opened; an epoch that going tells, plain and in memory. -/
import Derived.Test.YtdgmcgfkammioaaEpH
import Derived.Test.YtdgmcgfkammioaaOpenR
namespace Go.Proofs.Ytdgmcgfkammioaa
open Go.RowKit Go.ChangeShapes Go.WideShapes Go.Deep Go.Maps

section
variable {H : Type} {enc : TypeId × Value → H} {w : World} {base : Nat} {spare : Nat → Bool} {held : Bool}
set_option maxRecDepth 20000 in
theorem cellsPut : Try.prog.cellsOf 58 = 4 := by kernel_rfl
set_option maxRecDepth 20000 in
theorem cellsU8p : Try.prog.cellsOf 5 = 1 := by kernel_rfl
set_option maxRecDepth 20000 in
theorem cellsI32p : Try.prog.cellsOf 21 = 1 := by kernel_rfl
set_option maxRecDepth 20000 in
theorem bytesPut : Try.prog.bytesOf 58 = 12 := by kernel_rfl
set_option maxRecDepth 20000 in
theorem four_cells {cs : List Value} (h : cs.length = 4) : ∃ a b c d, cs = [a, b, c, d] := by
  match cs, h with
  | [a, b, c, d], _ => exact ⟨a, b, c, d, rfl⟩
set_option maxRecDepth 20000 in
theorem open_puts35 {fuel : Nat} {v : Value} {x : DataW H × List MemPlace} (h : DataW.trod enc Try.prog w base spare held fuel 56 [v] = some x) (hz : ∀ k ∈ x.1.weights Try.prog 56, k ≤ reachBytes) :
    ∃ A l cap, v = .slice A l.length cap ∧ PutsS w A cap l := by
  rcases open_rowsW Try.underlying56 cellsPut (by decide) h hz with rfl | ⟨a, len, cap, rfl, hl, hb, hs, hi⟩
  · exact ⟨none, [], 0, rfl, by simp, by simp, fun d hd => (by cases hd), .inl rfl⟩
  · rw [reach21, bytesPut] at hb
    have hex : ∀ i, ∃ d : PtS, i < len → PtOk d ∧ w.cell? ⟨a.block, a.off + i * 4, none⟩ = some (.int .u8 d.s) ∧ w.cell? ⟨a.block, a.off + i * 4 + 1, none⟩ = some (.int .u8 d.on) ∧ w.cell? ⟨a.block, a.off + i * 4 + 2, none⟩ = some (.int .i32 d.o) ∧ w.cell? ⟨a.block, a.off + i * 4 + 3, none⟩ = some (.int .i32 d.d) := fun i => by
      by_cases h : i < len
      · obtain ⟨cs, m, y, hl, hc, ht, hw⟩ := hi i h
        obtain ⟨c0, c1, c2, c3, rfl⟩ := four_cells hl
        obtain ⟨xs, n, _, _, _, hlen, hf⟩ := DataW.trod_struct Try.underlying58 ht
        have f0 := hf 0 _ rfl
        have f1 := hf 1 _ rfl
        have f2 := hf 2 _ rfl
        have f3 := hf 3 _ rfl
        have hlen' : xs.length = 4 := hlen
        rw [List.getElem?_eq_getElem (by omega)] at f0 f1 f2 f3
        replace f0 : DataW.trod enc Try.prog w base spare held n 5 (([c0, c1, c2, c3].drop 0).take (Try.prog.cellsOf 5)) = some xs[0] := f0
        replace f1 : DataW.trod enc Try.prog w base spare held n 5 (([c0, c1, c2, c3].drop 1).take (Try.prog.cellsOf 5)) = some xs[1] := f1
        replace f2 : DataW.trod enc Try.prog w base spare held n 21 (([c0, c1, c2, c3].drop 2).take (Try.prog.cellsOf 21)) = some xs[2] := f2
        replace f3 : DataW.trod enc Try.prog w base spare held n 21 (([c0, c1, c2, c3].drop 3).take (Try.prog.cellsOf 21)) = some xs[3] := f3
        rw [cellsU8p] at f0 f1
        rw [cellsI32p] at f2 f3
        obtain ⟨n0, e0, _, w0⟩ := DataW.trod_int Try.underlying5 f0
        obtain ⟨n1, e1, _, w1⟩ := DataW.trod_int Try.underlying5 f1
        obtain ⟨n2, e2, _, w2⟩ := DataW.trod_int Try.underlying21 f2
        obtain ⟨n3, e3, _, w3⟩ := DataW.trod_int Try.underlying21 f3
        simp at e0 e1 e2 e3
        subst e0 e1 e2 e3
        simp [Lit.wf, IntKind.min, IntKind.max, IntKind.signed, IntKind.bits] at w0 w1 w2 w3
        exact ⟨⟨n0, n1, n2, n3⟩, fun _ => ⟨⟨by simp only; omega, by simp only; omega, by simp only; omega, by simp only; omega⟩, by rw [← Nat.add_zero (a.off + i * 4), hc 0 (by omega)]; rfl, by rw [hc 1 (by omega)]; rfl, by rw [hc 2 (by omega)]; rfl, by rw [hc 3 (by omega)]; rfl⟩⟩
      · exact ⟨⟨0, 0, 0, 0⟩, fun k => absurd k h⟩
    obtain ⟨F, hF⟩ := Classical.axiomOfChoice hex
    have hlen : ((List.range len).map F).length = len := by simp
    refine ⟨some a, (List.range len).map F, cap, by rw [hlen], by rw [hlen]; exact hl, by rw [hlen]; omega, fun c hc => ?_, ?_⟩
    · obtain ⟨i, hi', rfl⟩ := List.mem_map.1 hc
      exact (hF i (List.mem_range.1 hi')).1
    · by_cases z : len = 0
      · subst z; exact .inl rfl
      · have hsp := hs (by omega)
        obtain ⟨b, off, spot⟩ := a
        simp only at hsp
        subst hsp
        refine .inr ⟨b, off, rfl, fun i hi' => ?_⟩
        have hj' : i < len := by rw [hlen] at hi'; exact hi'
        have e : ((List.range len).map F)[i] = F i := by simp
        rw [e]
        exact (hF i hj').2
end
/-! ### an epoch that going tells -/
structure GoodE (E : Ep) : Prop where
  ne : 0 < E.srv.length
  le : E.srv.length ≤ 16
  s : ∀ s ∈ E.srv, s < 16
  so : E.srv.Pairwise (· < ·)
  t : ∀ s ∈ E.tr, s ∈ E.srv
  tso : E.tr.Pairwise (· < ·)
  tl : E.tr.length ≤ E.srv.length
  no : E.maj = false → E.lo = 0 ∧ E.hi = 0 ∧ E.fl = 0 ∧ E.tr = [] ∧ E.srv.length ≠ 1
  yes : E.maj = true → 2 * E.fl < E.srv.length ∧ E.srv.length - E.fl ≤ E.tr.length ∧ E.lo ≤ E.hi ∧ (E.srv.length = 1 → E.tr.length = 1 ∧ E.fl = 0)
def GrpOk (g : Int × List Sm) : Prop := g.2 ≠ [] ∧ ∀ x ∈ g.2, x.s < 16
set_option maxRecDepth 20000 in
theorem good_of {g : Int × List Sm} {E : Ep} (k : GrpOk g) (h : IsTold g.1 16 (bestL g.2) E) : GoodE E := by
  obtain ⟨k1, k2⟩ := k
  have hs := (told_len h).2
  have ne : 0 < E.srv.length := by
    obtain ⟨x, hx⟩ := List.exists_mem_of_ne_nil _ k1
    have h1 : bestL g.2 x.s ≠ none := fun q => bestL_none.1 q x hx rfl
    have h2 : x.s ∈ keysB 16 (bestL g.2) := keysB_mem.2 ⟨k2 x hx, by cases e : bestL g.2 x.s with | none => exact absurd e h1 | some _ => rfl⟩
    rw [hs]
    exact List.length_pos_of_mem h2
  have T := told_tr h
  have M := told_most h ne
  exact ⟨ne, by rw [hs]; exact keysB_len _ _, fun s hs' => (keysB_mem.1 (by rw [hs] at hs'; exact hs')).1, by rw [hs]; exact keysB_sorted _ _, T.1, T.2.1, T.2.2, M.1, M.2⟩
set_option maxRecDepth 20000 in
theorem smP_s (up : Int) (p : PtS) : (smP up p).s < 16 := by
  show (p.s % 16).toNat < 16
  omega
def GsOk (st : GS) : Prop := (∀ g ∈ st.done, GrpOk g) ∧ ∀ x ∈ st.cur, x.s < 16
set_option maxRecDepth 20000 in
theorem gStep_ok {up : Int} {st : GS} {p : PtS} (h : GsOk st) : GsOk (gStep up st p) := by
  have one : ∀ x ∈ [smP up p], x.s < 16 := fun x hx => by rw [List.mem_singleton] at hx; rw [hx]; exact smP_s _ _
  unfold gStep
  by_cases c : st.cur = []
  · rw [if_pos c]
    exact ⟨h.1, one⟩
  · rw [if_neg c]
    split
    · refine ⟨h.1, fun x hx => ?_⟩
      rcases List.mem_append.1 hx with hx | hx
      · exact h.2 x hx
      · exact one x hx
    · refine ⟨fun g hg => ?_, one⟩
      rcases List.mem_append.1 hg with hg | hg
      · exact h.1 g hg
      · rw [List.mem_singleton] at hg
        rw [hg]
        exact ⟨c, h.2⟩
set_option maxRecDepth 20000 in
theorem goS_ok (fr up : Int) (l : List PtS) : GsOk (goS fr up l) := by
  refine snoc_ind (P := fun l => GsOk (goS fr up l)) ⟨fun g hg => (by cases hg), fun x hx => (by cases hx)⟩ (fun l x ih => ?_) l
  rw [goS_snoc]
  exact gStep_ok ih
set_option maxRecDepth 20000 in
theorem grpG_ok {st : GS} (h : GsOk st) : ∀ g ∈ grpG st, GrpOk g := fun g hg => by
  unfold grpG at hg
  split at hg
  · exact h.1 g hg
  · next c =>
    rcases List.mem_append.1 hg with hg | hg
    · exact h.1 g hg
    · rw [List.mem_singleton] at hg
      rw [hg]
      exact ⟨c, h.2⟩
set_option maxRecDepth 20000 in
theorem going_good {fr up : Int} {l : List PtS} {Es : List Ep} (h : TG (grpG (goS fr up l)) Es) (i : Nat) (hi : i < Es.length) : GoodE Es[i] := by
  have hg : i < (grpG (goS fr up l)).length := by rw [← h.1]; exact hi
  exact good_of (grpG_ok (goS_ok fr up l) _ (List.getElem_mem hg)) (h.2 i _ _ (List.getElem?_eq_getElem hg) (List.getElem?_eq_getElem hi))
/-! ### epochs of a row -/
set_option maxRecDepth 20000 in
theorem flC_len {CL : List (Array Value)} (h : ∀ c ∈ CL, c.size = 7) : (flC CL).length = CL.length * 7 := by
  induction CL with
  | nil => rfl
  | cons c CL ih =>
    have e : flC (c :: CL) = c.toList ++ flC CL := rfl
    rw [e, List.length_append, ih fun x hx => h x (List.mem_cons_of_mem _ hx), Array.length_toList, h c List.mem_cons_self, List.length_cons]
    omega
set_option maxRecDepth 20000 in
theorem flC_get {CL : List (Array Value)} (h : ∀ c ∈ CL, c.size = 7) : ∀ (q : Nat) (hq : q < CL.length) (j : Nat), j < 7 → (flC CL)[q * 7 + j]? = CL[q].toList[j]? := by
  induction CL with
  | nil => intro q hq; simp at hq
  | cons c CL ih =>
    intro q hq j hj
    have e : flC (c :: CL) = c.toList ++ flC CL := rfl
    have hc : c.toList.length = 7 := by rw [Array.length_toList, h c List.mem_cons_self]
    rw [e]
    cases q with
    | zero =>
      rw [List.getElem?_append_left (by omega), Nat.zero_mul, Nat.zero_add]
      rfl
    | succ q =>
      rw [List.getElem?_append_right (by omega), hc, show (q + 1) * 7 + j - 7 = q * 7 + j by omega, ih (fun x hx => h x (List.mem_cons_of_mem _ hx)) q (by simpa using hq) j hj]
      rfl
set_option maxRecDepth 20000 in
theorem run_loadC36 (T : TypeId) (n : Nat) [h : RowT T n] (w : World) (g o : Nat) (cs : Array Value) (hs : cs.size = n) (hc : ∀ j v, cs.toList[j]? = some v → w.cell? ⟨g, o + j, none⟩ = some v) :
    (loadF T (.pointer (some ⟨g, o, none⟩))).run Try.prog w = .ok (.agg cs) w := by
  have hr := h.row
  split at hr
  case h_2 => cases hr
  case h_1 d hu =>
    have := run_loadAt_mid w g o T cs.toList d hc hu hr (by rw [h.info]; congr 1; simp [hs])
    rwa [Array.toArray_toList] at this
set_option maxRecDepth 20000 in
theorem AllE.get {b : Nat} {w : World} {v : Value} {Es : List Ep} {CL : List (Array Value)} (h : AllE b w v Es CL) (q : Nat) (hq : q < Es.length) :
    ∃ g c2 A c D d, v = .slice (some ⟨g, 0, none⟩) Es.length c2 ∧ IntT w A (natI Es[q].srv) ∧ IntT w D (natI Es[q].tr) ∧ ∀ w', Mo w w' → (loadF 38 (.pointer (some ⟨g, q * 7, none⟩))).run Try.prog w' = .ok (.agg (eC Es[q] A c D d)) w' := by
  have hc : q < CL.length := by rw [h.len]; exact hq
  have hs : ∀ c ∈ CL, c.size = 7 := fun c hc => by
    obtain ⟨i, hi, rfl⟩ := List.mem_iff_getElem.1 hc
    have hi' : i < Es.length := by rw [← h.len]; exact hi
    exact (h.c i _ _ (List.getElem?_eq_getElem hi') (List.getElem?_eq_getElem hi)).1
  obtain ⟨-, A, c, D, d, e, h1, h2⟩ := h.c q _ _ (List.getElem?_eq_getElem hq) (List.getElem?_eq_getElem hc)
  have e' : CL[q] = eC Es[q] A c D d := Value.agg.inj e
  rcases h.row.2 with ⟨_, h0⟩ | ⟨g, cap, cur, hv, hb, hg, h3, h4, h5, h6⟩
  · omega
  · refine ⟨g, cap, A, c, D, d, hv, h1, h2, fun w' k => run_loadC36 38 7 w' g (q * 7) _ rfl fun j u hj => ?_⟩
    have hj7 : j < 7 := by
      have := (List.getElem?_eq_some_iff.1 hj).1
      exact this
    have r1 := flC_get hs q hc j hj7
    have l1 := h.row.1
    rw [flC_len hs] at l1
    rw [e', hj, ← h6] at r1
    have b1 : Blk w' g 38 cur := k.blk ⟨hg⟩
    rw [blk_cell b1, ← Array.getElem?_toList, ← r1, List.getElem?_take_of_lt (by omega)]
/-! ### sixteen bits -/
set_option maxRecDepth 20000 in
instance fl_bits : FlatT 69 16 := ⟨by kernel_rfl, by kernel_rfl, by kernel_rfl, by kernel_rfl, by kernel_rfl, by kernel_rfl⟩
def inC (L : List Nat) : Array Value := (Array.range 16).map fun k => .bool (decide (k ∈ L))
set_option maxRecDepth 20000 in
theorem inC_get (L : List Nat) (s : Nat) (h : s < 16) : (inC L)[s]? = some (.bool (decide (s ∈ L))) := by
  unfold inC
  rw [Array.getElem?_map, Array.getElem?_range, if_pos h]
  rfl
set_option maxRecDepth 20000 in
theorem inC_size (L : List Nat) : (inC L).size = 16 := by unfold inC; simp
set_option maxRecDepth 20000 in
theorem inC_set (L : List Nat) (s : Nat) : (inC L).setIfInBounds s (.bool true) = inC (L ++ [s]) := by
  refine Array.ext (by simp [inC]) fun i h1 h2 => ?_
  have hi : i < 16 := by rwa [inC_size] at h2
  have g1 := inC_get L i hi
  have g2 := inC_get (L ++ [s]) i hi
  rw [Array.getElem?_eq_getElem (by rw [inC_size]; exact hi)] at g1
  rw [Array.getElem?_eq_getElem h2] at g2
  rw [Option.some.inj g2, Array.getElem_setIfInBounds (by rw [inC_size]; exact hi)]
  by_cases c : s = i
  · rw [if_pos c, decide_eq_true (show i ∈ L ++ [s] by rw [← c]; exact List.mem_append_right _ (List.mem_singleton.2 rfl))]
  · rw [if_neg c, Option.some.inj g1]
    congr 1
    refine decide_eq_decide.2 ⟨fun q => List.mem_append_left _ q, fun q => ?_⟩
    rcases List.mem_append.1 q with q | q
    · exact q
    · exact absurd (List.mem_singleton.1 q).symm c
abbrev bits0 : Array Value := #[.bool false, .bool false, .bool false, .bool false, .bool false, .bool false, .bool false, .bool false, .bool false, .bool false, .bool false, .bool false, .bool false, .bool false, .bool false, .bool false]
set_option maxRecDepth 20000 in
theorem inC_nil : inC [] = bits0 := by kernel_rfl
set_option maxRecDepth 20000 in
theorem buildF_bits (l : Array (Nat × Value)) : Instr.build 69 l = buildF 69 l := rfl
set_option maxRecDepth 20000 in
theorem loadF_bits (v : Value) : Instr.loadAt 69 v = loadF 69 v := rfl
set_option maxRecDepth 20000 in
theorem storeF_bits (v x : Value) : Instr.storeAt 69 v x = storeF 69 v x := rfl
set_option maxRecDepth 20000 in
theorem run_build_bits0 (w : World) : (buildF 69 #[]).run Try.prog w = .ok (.agg bits0) w := run_build w _ _ _ (by kernel_rfl)
end Go.Proofs.Ytdgmcgfkammioaa
