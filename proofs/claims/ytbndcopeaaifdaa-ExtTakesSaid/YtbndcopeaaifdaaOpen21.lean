/- horologelaw21: arguments: fields, bytes, opened. -/
import Derived.Test.YtbndcopeaaifdaaExtB
import Derived.Deep.Slices
import Derived.ChangeArms
import Derived.ChangeOld
import Derived.OpenShut
import Derived.SizedLaws
import Derived.Lib.SmallJoins
namespace Go.Proofs.Ytbndcopeaaifdaa
open Go.RowKit Go.ChangeShapes Go.WideShapes Go.Deep

section
variable {H : Type} {enc : TypeId × Value → H} {w : World} {base : Nat} {spare : Nat → Bool} {held : Bool}
theorem weightsAll_mem {P : Program} {e : TypeId} : ∀ {l : List (DataW H)} {d : DataW H}, d ∈ l → ∀ n ∈ d.weights P e, n ∈ DataW.weightsAll P e l
  | x :: xs, d, h, n, hn => by
    rw [DataW.weightsAll]
    rcases List.mem_cons.1 h with rfl | h
    · exact List.mem_append_left _ hn
    · exact List.mem_append_right _ (weightsAll_mem h n hn)
/-- a slice: its cells, how each reads, what it weighs -/
theorem open_rowsW {t e : TypeId} {fuel n : Nat} {v : Value} {x : DataW H × List MemPlace} (ht : Try.prog.underlying t = some (.slice e)) (hC : Try.prog.cellsOf e = n) (hn : 0 < n) (h : DataW.trod enc Try.prog w base spare held fuel t [v] = some x)
    (hz : ∀ k ∈ x.1.weights Try.prog t, k ≤ reachBytes) :
    (v = .slice none 0 0) ∨ ∃ (a : Addr) (len cap : Nat), v = .slice (some a) len cap ∧ len ≤ cap ∧ len * Try.prog.bytesOf e ≤ reachBytes ∧ (0 < len → a.spot = none) ∧
      ∀ i, i < len → ∃ (cs : List Value) (m : Nat) (y : DataW H × List MemPlace), cs.length = n ∧ (∀ j, j < n → w.cell? ⟨a.block, a.off + i * n + j, none⟩ = cs[j]?) ∧ DataW.trod enc Try.prog w base spare held m e cs = some y ∧ ∀ k ∈ y.1.weights Try.prog e, k ≤ reachBytes := by
  rcases open_slice ht h with ⟨h0, _⟩ | ⟨a, len, cap, m, q, D, Pl, hcs, hb, hl, hm, hmm, hx, hi⟩
  · exact .inl (by simpa using h0)
  · rw [hC] at hi
    subst hx
    rw [DataW.weights, ht] at hz
    simp only at hz
    have hle : len ≤ m := by rw [hmm]; split <;> omega
    have hsp : 0 < len → a.spot = none := fun hp => by
      obtain ⟨cs, hc, -⟩ := hi 0 (by omega)
      obtain ⟨_, hlen, hat⟩ := World.cells?_some hc
      have := hat 0 hn
      rw [List.getElem?_eq_getElem (by omega)] at this
      simpa [Addr.add] using World.cell?_spot this
    have hw := hz _ (List.mem_cons_self ..)
    simp only [List.length_map, List.length_range] at hw
    refine .inr ⟨a, len, cap, by simpa using hcs, hl, Nat.le_trans (Nat.mul_le_mul_right _ (by omega)) hw, hsp, fun i him => ?_⟩
    obtain ⟨cs, hc, ht'⟩ := hi i (by omega)
    obtain ⟨_, hlen, hat⟩ := World.cells?_some hc
    refine ⟨cs, q, _, hlen, fun j hj => ?_, ht', fun k hk => hz k (List.mem_cons_of_mem _ (List.mem_append_left _ (weightsAll_mem (List.mem_map.2 ⟨i, List.mem_range.2 him, rfl⟩) k hk)))⟩
    have hs := hsp (by omega)
    obtain ⟨b, off, spot⟩ := a
    simp only at hs
    subst hs
    rw [← hat j hj, Go.WideShapes.add_plain, Go.WideShapes.add_plain]
theorem cellsB21 : Try.prog.cellsOf 5 = 1 := by kernel_rfl
theorem cellsE21 : Try.prog.cellsOf 43 = 2 := by kernel_rfl
theorem bytesB21 : Try.prog.bytesOf 5 = 1 := by kernel_rfl
theorem bytesE21 : Try.prog.bytesOf 43 = 32 := by kernel_rfl
theorem reach21 : reachBytes = 140737488351232 := by decide
theorem one_cell {cs : List Value} (h : cs.length = 1) : ∃ a, cs = [a] := by
  match cs, h with
  | [a], _ => exact ⟨a, rfl⟩
theorem two_cells {cs : List Value} (h : cs.length = 2) : ∃ a b, cs = [a, b] := by
  match cs, h with
  | [a, b], _ => exact ⟨a, b, rfl⟩
theorem open_bytes21 {fuel : Nat} {v : Value} {x : DataW H × List MemPlace} (h : DataW.trod enc Try.prog w base spare held fuel 23 [v] = some x) (hz : ∀ k ∈ x.1.weights Try.prog 23, k ≤ reachBytes) :
    ∃ A bs cap, v = .slice A bs.length cap ∧ ByteS w A cap bs := by
  rcases open_rowsW Try.underlying23 cellsB21 (by decide) h hz with rfl | ⟨a, len, cap, rfl, hl, hb, hs, hi⟩
  · exact ⟨none, [], 0, rfl, by simp, by simp, by simp, fun _ => rfl, .inl rfl⟩
  · rw [bytesB21, reach21] at hb
    have hex : ∀ i, ∃ c : Int, i < len → (0 ≤ c ∧ c ≤ 255) ∧ w.cell? ⟨a.block, a.off + i, none⟩ = some (.int .u8 c) := fun i => by
      by_cases h : i < len
      · obtain ⟨cs, m, y, hl, hc, ht, _⟩ := hi i h
        obtain ⟨u, rfl⟩ := one_cell hl
        obtain ⟨c, e0, _, w0⟩ := DataW.trod_int Try.underlying5 ht
        obtain rfl : u = _ := by simpa using e0
        refine ⟨c, fun _ => ⟨?_, ?_⟩⟩
        · simp [Lit.wf, IntKind.min, IntKind.max, IntKind.signed, IntKind.bits] at w0
          omega
        · have := hc 0 (by omega)
          rw [Nat.mul_one, Nat.add_zero] at this
          rw [this]; rfl
      · exact ⟨0, fun k => absurd k h⟩
    obtain ⟨F, hF⟩ := Classical.axiomOfChoice hex
    have hlen : ((List.range len).map F).length = len := by simp
    refine ⟨some a, (List.range len).map F, cap, by rw [hlen], by rw [hlen]; exact hl, by rw [hlen]; omega, fun c hc => ?_, fun e => (by cases e), ?_⟩
    · obtain ⟨i, hi', rfl⟩ := List.mem_map.1 hc
      exact (hF i (List.mem_range.1 hi')).1
    · by_cases z : len = 0
      · subst z; exact .inl rfl
      · have hsp := hs (by omega)
        obtain ⟨b, off, spot⟩ := a
        simp only at hsp
        subst hsp
        refine .inr ⟨b, off, rfl, fun j hj => ?_⟩
        have hj' : j < len := by rw [hlen] at hj; exact hj
        have e : ((List.range len).map F)[j] = F j := by simp
        rw [e]
        exact (hF j hj').2
theorem open_exts21 {fuel : Nat} {v : Value} {x : DataW H × List MemPlace} (h : DataW.trod enc Try.prog w base spare held fuel 22 [v] = some x) (hz : ∀ k ∈ x.1.weights Try.prog 22, k ≤ reachBytes) :
    ∃ A l cap, v = .slice A l.length cap ∧ ExtS w A cap l := by
  rcases open_rowsW Try.underlying22 cellsE21 (by decide) h hz with rfl | ⟨a, len, cap, rfl, hl, hb, hs, hi⟩
  · exact ⟨none, [], 0, rfl, by simp, by simp, fun _ => rfl, .inl rfl⟩
  · rw [bytesE21, reach21] at hb
    have hex : ∀ i, ∃ c : Fld, i < len → w.cell? ⟨a.block, a.off + i * 2, none⟩ = some (.int .u16 c.kind) ∧ 0 ≤ c.kind ∧ c.kind ≤ 65535 ∧ ∃ u, w.cell? ⟨a.block, a.off + i * 2 + 1, none⟩ = some u ∧ ByteV w u c.val := fun i => by
      by_cases h : i < len
      · obtain ⟨cs, m, y, hl, hc, ht, hw⟩ := hi i h
        obtain ⟨u, u', rfl⟩ := two_cells hl
        obtain ⟨y0, y1, n, rfl, _, f0, f1⟩ := trod_struct2 Try.underlying43 ht
        replace f0 : DataW.trod enc Try.prog w base spare held n 41 [u] = some y0 := f0
        replace f1 : DataW.trod enc Try.prog w base spare held n 23 [u'] = some y1 := f1
        obtain ⟨c, e0, _, w0⟩ := DataW.trod_int Try.underlying41 f0
        obtain rfl : u = _ := by simpa using e0
        obtain ⟨A, bs, cp, rfl, hB⟩ := open_bytes21 f1 (fun k hk => hw k (by
          rw [DataW.weights, Try.underlying43]
          show k ∈ DataW.weightsEach Try.prog [41, 23] [y0.1, y1.1]
          rw [DataW.weightsEach, DataW.weightsEach]
          exact List.mem_append_right _ (List.mem_append_left _ hk)))
        have c0 := hc 0 (by omega)
        have c1 := hc 1 (by omega)
        refine ⟨⟨c, bs⟩, fun _ => ⟨by rw [Nat.add_zero] at c0; rw [c0]; rfl, ?_, ?_, _, by rw [c1]; rfl, A, cp, rfl, hB⟩⟩
        all_goals (simp [Lit.wf, IntKind.min, IntKind.max, IntKind.signed, IntKind.bits] at w0; simp only; omega)
      · exact ⟨⟨0, []⟩, fun k => absurd k h⟩
    obtain ⟨F, hF⟩ := Classical.axiomOfChoice hex
    have hlen : ((List.range len).map F).length = len := by simp
    refine ⟨some a, (List.range len).map F, cap, by rw [hlen], by rw [hlen]; exact hl, by rw [hlen]; omega, fun e => (by cases e), ?_⟩
    by_cases z : len = 0
    · subst z; exact .inl rfl
    · have hsp := hs (by omega)
      obtain ⟨b, off, spot⟩ := a
      simp only at hsp
      subst hsp
      refine .inr ⟨b, off, rfl, fun j hj => ?_⟩
      have hj' : j < len := by rw [hlen] at hj; exact hj
      have e : ((List.range len).map F)[j] = F j := by simp
      rw [e]
      exact hF j hj'
theorem open_ext21 {r : Reach} {b0 : Nat} {v : Value} {d : DataW H} {p : List MemPlace} (hv : Value.okWide Try.prog w r b0 43 v) (h : DataW.Trod enc Try.prog w base spare held 43 v d p) (hz : ∀ k ∈ d.weights Try.prog 43, k ≤ reachBytes) :
    ∃ (x : Fld) (u : Value), v = .agg #[.int .u16 x.kind, u] ∧ (0 ≤ x.kind ∧ x.kind ≤ 65535) ∧ ByteV w u x.val := by
  obtain ⟨c0, c1, y0, y1, n, rfl, rfl, _, f0, f1⟩ := Go.Joins.open_agg2 Try.underlying43 (by kernel_rfl) cellsE21 hv h
  replace f0 : DataW.trod enc Try.prog w base spare held n 41 [c0] = some y0 := f0
  replace f1 : DataW.trod enc Try.prog w base spare held n 23 [c1] = some y1 := f1
  obtain ⟨c, e0, _, w0⟩ := DataW.trod_int Try.underlying41 f0
  obtain rfl : c0 = _ := by simpa using e0
  obtain ⟨A, bs, cp, rfl, hB⟩ := open_bytes21 f1 (fun k hk => hz k (by
    rw [DataW.weights, Try.underlying43]
    show k ∈ DataW.weightsEach Try.prog [41, 23] [y0.1, y1.1]
    rw [DataW.weightsEach, DataW.weightsEach]
    exact List.mem_append_right _ (List.mem_append_left _ hk)))
  refine ⟨⟨c, bs⟩, _, rfl, ?_, A, cp, rfl, hB⟩
  simp [Lit.wf, IntKind.min, IntKind.max, IntKind.signed, IntKind.bits] at w0
  simp only
  omega
end
end Go.Proofs.Ytbndcopeaaifdaa
