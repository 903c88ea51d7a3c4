/- horologelaw35.EpochPuts: its samples, opened. -/
import Derived.Test.YtdgmcgfkammioaaEpR
import Derived.Test.YtdgmcgfkammioaaOpenR
namespace Go.Proofs.Ytdgmcgfkammioaa
open Go.RowKit Go.ChangeShapes Go.WideShapes Go.Deep Go.Maps

structure RsOk (x : RS) : Prop where
  s : Is64 x.s
  a : InW x.at_
  o : Is64 x.o
  d : Is64 x.d
/-- []Sample in memory -/
structure SmpS (W : World) (A : Option Addr) (cap : Nat) (l : List RS) : Prop where
  cap : l.length ≤ cap
  ok : ∀ x ∈ l, RsOk x
  row : l = [] ∨ ∃ g off, A = some ⟨g, off, none⟩ ∧ ∀ j (h : j < l.length) i u, (rsC l[j])[i]? = some u → W.cell? ⟨g, off + j * 5 + i, none⟩ = some u
set_option maxRecDepth 20000 in
theorem SmpS.mo {W w : World} {A : Option Addr} {cap : Nat} {l : List RS} (h : SmpS W A cap l) (k : Mo W w) : SmpS w A cap l := by
  refine ⟨h.cap, h.ok, ?_⟩
  rcases h.row with e | ⟨g, off, rfl, hc⟩
  · exact .inl e
  · refine .inr ⟨g, off, rfl, fun j hj i u hu => ?_⟩
    have y := hc j hj i u hu
    have : LtW g W := LtW.of_cell y
    rw [k.cell, y]
section
variable {H : Type} {enc : TypeId × Value → H} {w : World} {base : Nat} {spare : Nat → Bool} {held : Bool}
set_option maxRecDepth 20000 in
theorem cellsSmp : Try.prog.cellsOf 35 = 5 := by kernel_rfl
set_option maxRecDepth 20000 in
theorem cellsWd5 : Try.prog.cellsOf 33 = 2 := by kernel_rfl
set_option maxRecDepth 20000 in
theorem cellsI645 : Try.prog.cellsOf 2 = 1 := by kernel_rfl
set_option maxRecDepth 20000 in
theorem cellsInt5 : Try.prog.cellsOf 3 = 1 := by kernel_rfl
set_option maxRecDepth 20000 in
theorem cellsU645 : Try.prog.cellsOf 31 = 1 := by kernel_rfl
set_option maxRecDepth 20000 in
theorem five_cells {cs : List Value} (h : cs.length = 5) : ∃ a b c d e, cs = [a, b, c, d, e] := by
  match cs, h with
  | [a, b, c, d, e], _ => exact ⟨a, b, c, d, e, rfl⟩
set_option maxRecDepth 20000 in
theorem open_wide35 {fuel : Nat} {a b : Value} {x : DataW H × List MemPlace} (h : DataW.trod enc Try.prog w base spare held fuel 33 [a, b] = some x) :
    ∃ z, InW z ∧ a = .int .i64 (hiW z) ∧ b = .int .u64 (loW z) := by
  obtain ⟨xs, n, _, _, _, hlen, hf⟩ := DataW.trod_struct Try.underlying33 h
  have f0 := hf 0 _ rfl
  have f1 := hf 1 _ rfl
  have hlen' : xs.length = 2 := hlen
  rw [List.getElem?_eq_getElem (by omega)] at f0 f1
  replace f0 : DataW.trod enc Try.prog w base spare held n 2 (([a, b].drop 0).take (Try.prog.cellsOf 2)) = some xs[0] := f0
  replace f1 : DataW.trod enc Try.prog w base spare held n 31 (([a, b].drop 1).take (Try.prog.cellsOf 31)) = some xs[1] := f1
  rw [cellsI645] at f0
  rw [cellsU645] at f1
  obtain ⟨n0, e0, _, w0⟩ := DataW.trod_int Try.underlying2 f0
  obtain ⟨n1, e1, _, w1⟩ := DataW.trod_int Try.underlying31 f1
  simp at e0 e1
  subst e0 e1
  simp [Lit.wf, IntKind.min, IntKind.max, IntKind.signed, IntKind.bits] at w0 w1
  refine ⟨n0 * 18446744073709551616 + n1, inW_mk n0 n1 (by omega) (by omega) (by omega) (by omega), ?_, ?_⟩
  · rw [hi_mk n0 n1 (by omega) (by omega)]
  · rw [lo_mk n0 n1 (by omega) (by omega)]
set_option maxRecDepth 20000 in
theorem open_smp35 {fuel : Nat} {cs : List Value} {x : DataW H × List MemPlace} (hl : cs.length = 5) (h : DataW.trod enc Try.prog w base spare held fuel 35 cs = some x) :
    ∃ s : RS, RsOk s ∧ cs = rsC s := by
  obtain ⟨a, b, c, d, e, rfl⟩ := five_cells hl
  obtain ⟨xs, n, _, _, _, hlen, hf⟩ := DataW.trod_struct Try.underlying35 h
  have f0 := hf 0 _ rfl
  have f1 := hf 1 _ rfl
  have f2 := hf 2 _ rfl
  have f3 := hf 3 _ rfl
  have hlen' : xs.length = 4 := hlen
  rw [List.getElem?_eq_getElem (by omega)] at f0 f1 f2 f3
  replace f0 : DataW.trod enc Try.prog w base spare held n 3 (([a, b, c, d, e].drop 0).take (Try.prog.cellsOf 3)) = some xs[0] := f0
  replace f1 : DataW.trod enc Try.prog w base spare held n 33 (([a, b, c, d, e].drop 1).take (Try.prog.cellsOf 33)) = some xs[1] := f1
  replace f2 : DataW.trod enc Try.prog w base spare held n 2 (([a, b, c, d, e].drop 3).take (Try.prog.cellsOf 2)) = some xs[2] := f2
  replace f3 : DataW.trod enc Try.prog w base spare held n 2 (([a, b, c, d, e].drop 4).take (Try.prog.cellsOf 2)) = some xs[3] := f3
  rw [cellsInt5] at f0
  rw [cellsWd5] at f1
  rw [cellsI645] at f2 f3
  obtain ⟨n0, e0, _, w0⟩ := DataW.trod_int Try.underlying3 f0
  obtain ⟨z, hz, rfl, rfl⟩ := open_wide35 (a := b) (b := c) f1
  obtain ⟨n2, e2, _, w2⟩ := DataW.trod_int Try.underlying2 f2
  obtain ⟨n3, e3, _, w3⟩ := DataW.trod_int Try.underlying2 f3
  simp at e0 e2 e3
  subst e0 e2 e3
  simp [Lit.wf, IntKind.min, IntKind.max, IntKind.signed, IntKind.bits] at w0 w2 w3
  exact ⟨⟨n0, z, n2, n3⟩, ⟨by unfold Is64; simp only; omega, hz, by unfold Is64; simp only; omega, by unfold Is64; simp only; omega⟩, rfl⟩
set_option maxRecDepth 20000 in
theorem open_smps35 {fuel : Nat} {v : Value} {x : DataW H × List MemPlace} (h : DataW.trod enc Try.prog w base spare held fuel 22 [v] = some x) (hz : ∀ k ∈ x.1.weights Try.prog 22, k ≤ reachBytes) :
    ∃ A l cap, v = .slice A l.length cap ∧ SmpS w A cap l := by
  rcases open_rowsW Try.underlying22 cellsSmp (by decide) h hz with rfl | ⟨a, len, cap, rfl, hl, hb, hs, hi⟩
  · exact ⟨none, [], 0, rfl, by simp, fun d hd => (by cases hd), .inl rfl⟩
  · have hex : ∀ i, ∃ s : RS, i < len → RsOk s ∧ ∀ j u, (rsC s)[j]? = some u → w.cell? ⟨a.block, a.off + i * 5 + j, none⟩ = some u := fun i => by
      by_cases h : i < len
      · obtain ⟨cs, m, y, hl, hc, ht, _⟩ := hi i h
        obtain ⟨s, hs, rfl⟩ := open_smp35 hl ht
        refine ⟨s, fun _ => ⟨hs, fun j u hj => ?_⟩⟩
        have : j < 5 := (List.getElem?_eq_some_iff.1 hj).1
        rw [hc j this]; exact hj
      · exact ⟨⟨0, 0, 0, 0⟩, fun k => absurd k h⟩
    obtain ⟨F, hF⟩ := Classical.axiomOfChoice hex
    have hlen : ((List.range len).map F).length = len := by simp
    refine ⟨some a, (List.range len).map F, cap, by rw [hlen], by rw [hlen]; exact hl, fun c hc => ?_, ?_⟩
    · obtain ⟨i, hi', rfl⟩ := List.mem_map.1 hc
      exact (hF i (List.mem_range.1 hi')).1
    · by_cases z : len = 0
      · subst z; exact .inl rfl
      · have hsp := hs (by omega)
        obtain ⟨b, off, spot⟩ := a
        simp only at hsp
        subst hsp
        refine .inr ⟨b, off, rfl, fun j hj i u hu => ?_⟩
        have hj' : j < len := by rw [hlen] at hj; exact hj
        have e : ((List.range len).map F)[j] = F j := by simp
        rw [e] at hu
        exact (hF j hj').2 i u hu
end
end Go.Proofs.Ytdgmcgfkammioaa
