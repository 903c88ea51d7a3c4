/- horologelaw29: arguments: calls, opened. -/
import Derived.Test.YtlbkcjpnlnlmiaaOpenR
import Derived.Test.YtlbkcjpnlnlmiaaPendQ
namespace Go.Proofs.Ytlbkcjpnlnlmiaa
open Go.RowKit Go.ChangeShapes Go.WideShapes Go.Deep

section
variable {H : Type} {enc : TypeId × Value → H} {w : World} {base : Nat} {spare : Nat → Bool} {held : Bool}
set_option maxRecDepth 20000 in
theorem flat_trod {T : TypeId} {n : Nat} (k : FlatT T n) {fuel : Nat} {cs : List Value} {x : DataW H × List MemPlace} (h : DataW.trod enc Try.prog w base spare held fuel T cs = some x) : Fits (ksOf T) cs := kinds_trod _ fuel T _ k.ks cs x h
set_option maxRecDepth 20000 in
theorem cellsDo : Try.prog.cellsOf 42 = 40 := by kernel_rfl
set_option maxRecDepth 20000 in
theorem cellsU8 : Try.prog.cellsOf 5 = 1 := by kernel_rfl
set_option maxRecDepth 20000 in
theorem cellsKy : Try.prog.cellsOf 38 = 37 := by kernel_rfl
set_option maxRecDepth 20000 in
theorem cellsWi : Try.prog.cellsOf 40 = 2 := by kernel_rfl
set_option maxRecDepth 20000 in
theorem bytesDo : 32 ≤ Try.prog.bytesOf 42 := of_decide_eq_true (by kernel_rfl)
set_option maxRecDepth 20000 in
theorem parts40 {l : List Value} (h : l.length = 40) : ∃ v, (l.drop 0).take 1 = [v] ∧ l = [v] ++ (l.drop 1).take 37 ++ (l.drop 38).take 2 := by
  have hl : ((l.drop 0).take 1).length = 1 := by rw [List.length_take, List.length_drop, h]; rfl
  obtain ⟨v, hv⟩ := one_cell hl
  refine ⟨v, hv, ?_⟩
  have e1 := List.take_append_drop 1 l
  have e2 := List.take_append_drop 37 (l.drop 1)
  rw [List.drop_drop] at e2
  have e3 : (l.drop 38).take 2 = l.drop 38 := List.take_of_length_le (by rw [List.length_drop, h]; decide)
  rw [List.drop_zero] at hv
  rw [e3, ← hv, List.append_assoc, e2, e1]
set_option maxRecDepth 20000 in
theorem open_dos29 {fuel : Nat} {v : Value} {x : DataW H × List MemPlace} (h : DataW.trod enc Try.prog w base spare held fuel 22 [v] = some x) (hz : ∀ k ∈ x.1.weights Try.prog 22, k ≤ reachBytes) :
    ∃ A l cap, v = .slice A l.length cap ∧ DoS w A cap l := by
  rcases open_rowsW Try.underlying22 cellsDo (by decide) h hz with rfl | ⟨a, len, cap, rfl, hl, hb, hs, hi⟩
  · exact ⟨none, [], 0, rfl, by simp, by simp, fun d hd => (by cases hd), fun _ => rfl, .inl rfl⟩
  · rw [reach21] at hb
    have hb' := Nat.le_trans (Nat.mul_le_mul_left len bytesDo) hb
    have hex : ∀ i, ∃ d : Do, i < len → DoOk d ∧ ∀ j v, (doC d).toList[j]? = some v → w.cell? ⟨a.block, a.off + i * 40 + j, none⟩ = some v := fun i => by
      by_cases h : i < len
      · obtain ⟨cs, m, y, hl, hc, ht, hw⟩ := hi i h
        obtain ⟨y0, y1, y2, n, hx, _, f0, f1, f2⟩ := trod_struct3 Try.underlying42 ht
        replace f0 : DataW.trod enc Try.prog w base spare held n 5 ((cs.drop 0).take (Try.prog.cellsOf 5)) = some y0 := f0
        replace f1 : DataW.trod enc Try.prog w base spare held n 38 ((cs.drop 1).take (Try.prog.cellsOf 38)) = some y1 := f1
        replace f2 : DataW.trod enc Try.prog w base spare held n 40 ((cs.drop 38).take (Try.prog.cellsOf 40)) = some y2 := f2
        rw [cellsU8] at f0
        rw [cellsKy] at f1
        rw [cellsWi] at f2
        obtain ⟨v0, e0, e1⟩ := parts40 hl
        rw [e0] at f0
        obtain ⟨c, q0, _, w0⟩ := DataW.trod_int Try.underlying5 f0
        obtain rfl : v0 = _ := by simpa using q0
        have k1 := flat_trod fl_key f1
        have k2 := flat_trod fl_wide f2
        refine ⟨⟨c, ((cs.drop 1).take 37).toArray, ((cs.drop 38).take 2).toArray⟩, fun _ => ⟨⟨?_, k1, k2⟩, fun j v hv => ?_⟩⟩
        · simp [Lit.wf, IntKind.min, IntKind.max, IntKind.signed, IntKind.bits] at w0
          simp only; omega
        · have e2 : (doC ⟨c, ((cs.drop 1).take 37).toArray, ((cs.drop 38).take 2).toArray⟩).toList = cs := by
            unfold doC
            simp only [Array.toList_append]
            exact e1.symm
          rw [e2] at hv
          have hj : j < 40 := by rw [← hl]; exact (List.getElem?_eq_some_iff.1 hv).1
          rw [hc j hj, hv]
      · exact ⟨⟨0, #[], #[]⟩, fun k => absurd k h⟩
    obtain ⟨F, hF⟩ := Classical.axiomOfChoice hex
    have hlen : ((List.range len).map F).length = len := by simp
    refine ⟨some a, (List.range len).map F, cap, by rw [hlen], by rw [hlen]; exact hl, by rw [hlen]; omega, fun c hc => ?_, fun e => (by cases e), ?_⟩
    · obtain ⟨i, hi', rfl⟩ := List.mem_map.1 hc
      exact (hF i (List.mem_range.1 hi')).1
    · by_cases z : len = 0
      · subst z; exact .inl rfl
      · have hsp := hs (by omega)
        obtain ⟨b, off, spot⟩ := a
        simp only at hsp
        subst hsp
        refine .inr ⟨b, off, rfl, fun i hi' j v hv => ?_⟩
        have hj' : i < len := by rw [hlen] at hi'; exact hi'
        have e : ((List.range len).map F)[i] = F i := by simp
        rw [e] at hv
        exact (hF i hj').2 j v hv
end
end Go.Proofs.Ytlbkcjpnlnlmiaa
