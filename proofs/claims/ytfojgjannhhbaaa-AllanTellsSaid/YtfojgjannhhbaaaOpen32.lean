/- horologelaw32: arguments that are slices of structs, opened. -/
import Derived.Test.YtfojgjannhhbaaaLaid32
import Derived.Deep.Slices
import Derived.ChangeArms
import Derived.ChangeOld
import Derived.OpenShut
namespace Go.Proofs.Ytfojgjannhhbaaa
open Go.RowKit Go.ChangeShapes Go.WideShapes Go.Deep

section
variable {H : Type} {enc : TypeId × Value → H} {w : World} {base : Nat} {spare : Nat → Bool} {held : Bool}
set_option maxRecDepth 20000 in
/-- a row of structs: the cells of each, and how it reads -/
theorem open_rows {t e : TypeId} {fuel n : Nat} {v : Value} {x : DataW H × List MemPlace} (ht : Try.prog.underlying t = some (.slice e)) (hC : Try.prog.cellsOf e = n) (hn : 0 < n) (h : DataW.trod enc Try.prog w base spare held fuel t [v] = some x) :
    (v = .slice none 0 0) ∨ ∃ (a : Addr) (len cap : Nat), v = .slice (some a) len cap ∧ (0 < len → a.spot = none) ∧
      ∀ i, i < len → ∃ (cs : List Value) (m : Nat) (y : DataW H × List MemPlace), cs.length = n ∧ (∀ j, j < n → w.cell? ⟨a.block, a.off + i * n + j, none⟩ = cs[j]?) ∧ DataW.trod enc Try.prog w base spare held m e cs = some y := by
  rcases open_slice ht h with ⟨h0, _⟩ | ⟨a, len, cap, m, q, D, Pl, hcs, hb, hl, hm, hmm, hx, hi⟩
  · exact .inl (by simpa using h0)
  · rw [hC] at hi
    have hle : len ≤ m := by rw [hmm]; split <;> omega
    have hsp : 0 < len → a.spot = none := fun hp => by
      obtain ⟨cs, hc, -⟩ := hi 0 (by omega)
      obtain ⟨_, hlen, hat⟩ := World.cells?_some hc
      have := hat 0 hn
      rw [List.getElem?_eq_getElem (by omega)] at this
      simpa [Addr.add] using World.cell?_spot this
    refine .inr ⟨a, len, cap, by simpa using hcs, hsp, fun i him => ?_⟩
    obtain ⟨cs, hc, ht'⟩ := hi i (by omega)
    obtain ⟨_, hlen, hat⟩ := World.cells?_some hc
    refine ⟨cs, q, _, hlen, fun j hj => ?_, ht'⟩
    have hs := hsp (by omega)
    obtain ⟨b, off, spot⟩ := a
    simp only at hs
    subst hs
    rw [← hat j hj, Go.WideShapes.add_plain, Go.WideShapes.add_plain]
set_option maxRecDepth 20000 in
/-- four cells -/
theorem four_cells {cs : List Value} (h : cs.length = 4) : ∃ a b c d, cs = [a, b, c, d] := by
  match cs, h with
  | [a, b, c, d], _ => exact ⟨a, b, c, d, rfl⟩
set_option maxRecDepth 20000 in
theorem cellsStep : Try.prog.cellsOf 81 = 4 := by kernel_rfl
set_option maxRecDepth 20000 in
theorem cells8 : Try.prog.cellsOf 5 = 1 := by kernel_rfl
set_option maxRecDepth 20000 in
theorem cells32 : Try.prog.cellsOf 21 = 1 := by kernel_rfl
set_option maxRecDepth 20000 in
theorem open_step {fuel : Nat} {cs : List Value} {x : DataW H × List MemPlace} (hl : cs.length = 4) (h : DataW.trod enc Try.prog w base spare held fuel 81 cs = some x) :
    ∃ s : Stp, s.Ok ∧ cs = [.int .u8 s.on, .int .u8 s.inn, .int .i32 s.off, .int .i32 s.del] := by
  obtain ⟨a, b, c, d, rfl⟩ := four_cells hl
  obtain ⟨xs, n, _, _, _, hlen, hf⟩ := DataW.trod_struct Try.underlying81 h
  have f0 := hf 0 _ rfl
  have f1 := hf 1 _ rfl
  have f2 := hf 2 _ rfl
  have f3 := hf 3 _ rfl
  have hlen' : xs.length = 4 := hlen
  rw [List.getElem?_eq_getElem (by omega)] at f0 f1 f2 f3
  replace f0 : DataW.trod enc Try.prog w base spare held n 5 (([a, b, c, d].drop 0).take (Try.prog.cellsOf 5)) = some xs[0] := f0
  replace f1 : DataW.trod enc Try.prog w base spare held n 5 (([a, b, c, d].drop 1).take (Try.prog.cellsOf 5)) = some xs[1] := f1
  replace f2 : DataW.trod enc Try.prog w base spare held n 21 (([a, b, c, d].drop 2).take (Try.prog.cellsOf 21)) = some xs[2] := f2
  replace f3 : DataW.trod enc Try.prog w base spare held n 21 (([a, b, c, d].drop 3).take (Try.prog.cellsOf 21)) = some xs[3] := f3
  rw [cells8] at f0 f1
  rw [cells32] at f2 f3
  obtain ⟨n0, e0, _, w0⟩ := DataW.trod_int Try.underlying5 f0
  obtain ⟨n1, e1, _, w1⟩ := DataW.trod_int Try.underlying5 f1
  obtain ⟨n2, e2, _, w2⟩ := DataW.trod_int Try.underlying21 f2
  obtain ⟨n3, e3, _, w3⟩ := DataW.trod_int Try.underlying21 f3
  simp at e0 e1 e2 e3
  subst e0 e1 e2 e3
  refine ⟨⟨n0, n1, n2, n3⟩, ?_, rfl⟩
  simp [Lit.wf, IntKind.min, IntKind.max, IntKind.signed, IntKind.bits] at w0 w1 w2 w3
  refine ⟨?_, ?_, ?_, ?_, ?_, ?_, ?_, ?_⟩ <;> (simp only; omega)
set_option maxRecDepth 20000 in
theorem open_steps {fuel : Nat} {v : Value} {x : DataW H × List MemPlace} (h : DataW.trod enc Try.prog w base spare held fuel 43 [v] = some x) : ∃ A l cap, v = .slice A l.length cap ∧ StepRow w A l := by
  rcases open_rows Try.underlying43 cellsStep (by decide) h with rfl | ⟨a, len, cap, rfl, hs, hi⟩
  · exact ⟨none, [], 0, rfl, fun s h => (by cases h), .inl rfl⟩
  · have hex : ∀ i, i < len → ∃ s : Stp, s.Ok ∧ ∀ j u, ([.int .u8 s.on, .int .u8 s.inn, .int .i32 s.off, .int .i32 s.del] : List Value)[j]? = some u → w.cell? ⟨a.block, a.off + i * 4 + j, none⟩ = some u := fun i h => by
      obtain ⟨cs, m, y, hl, hc, ht⟩ := hi i h
      obtain ⟨s, hs, rfl⟩ := open_step hl ht
      refine ⟨s, hs, fun j u hj => ?_⟩
      have : j < 4 := (List.getElem?_eq_some_iff.1 hj).1
      rw [hc j this]; exact hj
    have hex' : ∀ i, ∃ s : Stp, i < len → s.Ok ∧ ∀ j u, ([.int .u8 s.on, .int .u8 s.inn, .int .i32 s.off, .int .i32 s.del] : List Value)[j]? = some u → w.cell? ⟨a.block, a.off + i * 4 + j, none⟩ = some u := fun i => by
      by_cases h : i < len
      · obtain ⟨s, hs⟩ := hex i h; exact ⟨s, fun _ => hs⟩
      · exact ⟨⟨0, 0, 0, 0⟩, fun k => absurd k h⟩
    obtain ⟨F, hF⟩ := Classical.axiomOfChoice hex'
    have hlen : ((List.range len).map F).length = len := by simp
    refine ⟨some a, (List.range len).map F, cap, by rw [hlen], fun s hs' => ?_, ?_⟩
    · obtain ⟨i, hi', rfl⟩ := List.mem_map.1 hs'
      exact (hF i (List.mem_range.1 hi')).1
    · by_cases z : len = 0
      · subst z; exact .inl rfl
      · have hsp := hs (by omega)
        obtain ⟨b, off, spot⟩ := a
        simp only at hsp
        subst hsp
        refine .inr ⟨b, off, rfl, fun j hj => ?_⟩
        have hj' : j < len := by rw [hlen] at hj; exact hj
        have e : ((List.range len).map F)[j] = F j := by simp
        rw [e]
        obtain ⟨_, hc⟩ := hF j hj'
        exact ⟨hc 0 _ rfl, hc 1 _ rfl, hc 2 _ rfl, hc 3 _ rfl⟩
end
end Go.Proofs.Ytfojgjannhhbaaa
