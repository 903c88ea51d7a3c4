/- horologelaw32: arguments []Put; puts folded. -/
import Derived.Test.YtfojgjannhhbaaaOpen32
import Derived.Test.YtfojgjannhhbaaaCopy32
namespace Go.Proofs.Ytfojgjannhhbaaa
open Go.RowKit Go.ChangeShapes Go.WideShapes Go.Deep

structure Pt where
  a : Int
  off : Int
  del : Int
structure Pt.Ok (s : Pt) : Prop where
  a1 : InW s.a
  b1 : -9223372036854775808 ≤ s.off
  b2 : s.off ≤ 9223372036854775807
  c1 : -9223372036854775808 ≤ s.del
  c2 : s.del ≤ 9223372036854775807
abbrev ptL (s : Pt) : List Value := [.int .i64 (hiW s.a), .int .u64 (loW s.a), .int .i64 s.off, .int .i64 s.del]
/-- a slice of puts, as it is read -/
def PutRow (W : World) (A : Option Addr) (l : List Pt) : Prop := (∀ s ∈ l, s.Ok) ∧ (l = [] ∨ ∃ g off, A = some ⟨g, off, none⟩ ∧ ∀ j, (h : j < l.length) → W.cell? ⟨g, off + j * 4, none⟩ = some (.int .i64 (hiW l[j].a)) ∧ W.cell? ⟨g, off + j * 4 + 1, none⟩ = some (.int .u64 (loW l[j].a)) ∧ W.cell? ⟨g, off + j * 4 + 2, none⟩ = some (.int .i64 l[j].off) ∧ W.cell? ⟨g, off + j * 4 + 3, none⟩ = some (.int .i64 l[j].del))
set_option maxRecDepth 20000 in
theorem PutRow.mo {W w : World} {A : Option Addr} {l : List Pt} (h : PutRow W A l) (k : Mo W w) : PutRow w A l := by
  refine ⟨h.1, ?_⟩
  rcases h.2 with h | ⟨g, off, rfl, hc⟩
  · exact .inl h
  · refine .inr ⟨g, off, rfl, fun j hj => ?_⟩
    obtain ⟨a, b, c, d⟩ := hc j hj
    have : LtW g W := LtW.of_cell a
    exact ⟨by rw [k.cell, a], by rw [k.cell, b], by rw [k.cell, c], by rw [k.cell, d]⟩
set_option maxRecDepth 20000 in
theorem cellsPut : Try.prog.cellsOf 36 = 4 := by kernel_rfl
set_option maxRecDepth 20000 in
theorem cellsWide : Try.prog.cellsOf 34 = 2 := by kernel_rfl
set_option maxRecDepth 20000 in
theorem cells64 : Try.prog.cellsOf 2 = 1 := by kernel_rfl
set_option maxRecDepth 20000 in
theorem cellsU64 : Try.prog.cellsOf 32 = 1 := by kernel_rfl
section
variable {H : Type} {enc : TypeId × Value → H} {w : World} {base : Nat} {spare : Nat → Bool} {held : Bool}
set_option maxRecDepth 20000 in
theorem open_wide {fuel : Nat} {a b : Value} {x : DataW H × List MemPlace} (h : DataW.trod enc Try.prog w base spare held fuel 34 [a, b] = some x) :
    ∃ z, InW z ∧ a = .int .i64 (hiW z) ∧ b = .int .u64 (loW z) := by
  obtain ⟨xs, n, _, _, _, hlen, hf⟩ := DataW.trod_struct Try.underlying34 h
  have f0 := hf 0 _ rfl
  have f1 := hf 1 _ rfl
  have hlen' : xs.length = 2 := hlen
  rw [List.getElem?_eq_getElem (by omega)] at f0 f1
  replace f0 : DataW.trod enc Try.prog w base spare held n 2 (([a, b].drop 0).take (Try.prog.cellsOf 2)) = some xs[0] := f0
  replace f1 : DataW.trod enc Try.prog w base spare held n 32 (([a, b].drop 1).take (Try.prog.cellsOf 32)) = some xs[1] := f1
  rw [cells64] at f0
  rw [cellsU64] at f1
  obtain ⟨n0, e0, _, w0⟩ := DataW.trod_int Try.underlying2 f0
  obtain ⟨n1, e1, _, w1⟩ := DataW.trod_int Try.underlying32 f1
  simp at e0 e1
  subst e0 e1
  simp [Lit.wf, IntKind.min, IntKind.max, IntKind.signed, IntKind.bits] at w0 w1
  refine ⟨n0 * 18446744073709551616 + n1, inW_mk n0 n1 (by omega) (by omega) (by omega) (by omega), ?_, ?_⟩
  · rw [hi_mk n0 n1 (by omega) (by omega)]
  · rw [lo_mk n0 n1 (by omega) (by omega)]
set_option maxRecDepth 20000 in
theorem open_put {fuel : Nat} {cs : List Value} {x : DataW H × List MemPlace} (hl : cs.length = 4) (h : DataW.trod enc Try.prog w base spare held fuel 36 cs = some x) :
    ∃ s : Pt, s.Ok ∧ cs = ptL s := by
  obtain ⟨a, b, c, d, rfl⟩ := four_cells hl
  obtain ⟨xs, n, _, _, _, hlen, hf⟩ := DataW.trod_struct Try.underlying36 h
  have f0 := hf 0 _ rfl
  have f1 := hf 1 _ rfl
  have f2 := hf 2 _ rfl
  have hlen' : xs.length = 3 := hlen
  rw [List.getElem?_eq_getElem (by omega)] at f0 f1 f2
  replace f0 : DataW.trod enc Try.prog w base spare held n 34 (([a, b, c, d].drop 0).take (Try.prog.cellsOf 34)) = some xs[0] := f0
  replace f1 : DataW.trod enc Try.prog w base spare held n 2 (([a, b, c, d].drop 2).take (Try.prog.cellsOf 2)) = some xs[1] := f1
  replace f2 : DataW.trod enc Try.prog w base spare held n 2 (([a, b, c, d].drop 3).take (Try.prog.cellsOf 2)) = some xs[2] := f2
  rw [cellsWide] at f0
  rw [cells64] at f1 f2
  obtain ⟨z, hz, rfl, rfl⟩ := open_wide (a := a) (b := b) f0
  obtain ⟨n1, e1, _, w1⟩ := DataW.trod_int Try.underlying2 f1
  obtain ⟨n2, e2, _, w2⟩ := DataW.trod_int Try.underlying2 f2
  simp at e1 e2
  subst e1 e2
  refine ⟨⟨z, n1, n2⟩, ?_, rfl⟩
  simp [Lit.wf, IntKind.min, IntKind.max, IntKind.signed, IntKind.bits] at w1 w2
  refine ⟨hz, ?_, ?_, ?_, ?_⟩ <;> (simp only; omega)
set_option maxRecDepth 20000 in
theorem open_puts {fuel : Nat} {v : Value} {x : DataW H × List MemPlace} (h : DataW.trod enc Try.prog w base spare held fuel 22 [v] = some x) : ∃ A l cap, v = .slice A l.length cap ∧ PutRow w A l := by
  rcases open_rows Try.underlying22 cellsPut (by decide) h with rfl | ⟨a, len, cap, rfl, hs, hi⟩
  · exact ⟨none, [], 0, rfl, fun s h => (by cases h), .inl rfl⟩
  · have hex : ∀ i, ∃ s : Pt, i < len → s.Ok ∧ ∀ j u, (ptL s)[j]? = some u → w.cell? ⟨a.block, a.off + i * 4 + j, none⟩ = some u := fun i => by
      by_cases h : i < len
      · obtain ⟨cs, m, y, hl, hc, ht⟩ := hi i h
        obtain ⟨s, hs, rfl⟩ := open_put hl ht
        refine ⟨s, fun _ => ⟨hs, fun j u hj => ?_⟩⟩
        have : j < 4 := (List.getElem?_eq_some_iff.1 hj).1
        rw [hc j this]; exact hj
      · exact ⟨⟨0, 0, 0⟩, fun k => absurd k h⟩
    obtain ⟨F, hF⟩ := Classical.axiomOfChoice hex
    have hlen : ((List.range len).map F).length = len := by simp
    refine ⟨some a, (List.range len).map F, cap, by rw [hlen], fun s hs' => ?_, ?_⟩
    · obtain ⟨i, hi', rfl⟩ := List.mem_map.1 hs'
      exact (hF i (List.mem_range.1 hi')).1
    · by_cases z : len = 0
      · subst z; exact .inl rfl
      · have hsp := hs (by omega)
        obtain ⟨b, off, spot⟩ := a
        simp only at hsp
        subst hsp
        refine .inr ⟨b, off, rfl, fun j hj => ?_⟩
        have hj' : j < len := by rw [hlen] at hj; exact hj
        have e : ((List.range len).map F)[j] = F j := by simp
        rw [e]
        obtain ⟨_, hc⟩ := hF j hj'
        exact ⟨hc 0 _ rfl, hc 1 _ rfl, hc 2 _ rfl, hc 3 _ rfl⟩
end
/-! ### puts folded -/
def putS (x : Int) (M : List Slot) (s : Pt) : List Slot := (putM M (clip (s.a / x)) s.off s.del).1
def putF (x : Int) (l : List Pt) : List Slot := l.foldl (putS x) []
set_option maxRecDepth 20000 in
theorem putF_take (x : Int) (l : List Pt) (k : Nat) (hk : k < l.length) : putF x (l.take (k + 1)) = putS x (putF x (l.take k)) l[k] := by
  rw [List.take_add_one, List.getElem?_eq_getElem hk]
  unfold putF
  rw [List.foldl_append]
  rfl
set_option maxRecDepth 20000 in
theorem putF_ok (x : Int) (l : List Pt) : MOk (putF x l) l.length := by
  refine snoc_ind (P := fun l => MOk (putF x l) l.length) (mok_nil _) ?_ l
  intro l s ih
  rw [List.length_append, List.length_singleton]
  have e : putF x (l ++ [s]) = putS x (putF x l) s := by unfold putF; rw [List.foldl_append]; rfl
  rw [e]
  obtain ⟨n1, n2⟩ := clip_bd (s.a / x)
  exact putM_ok ih _ _ _ n1 n2
end Go.Proofs.Ytfojgjannhhbaaa
