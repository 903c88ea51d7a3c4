/- Written by gen/bundle30.py: Open21, Open23, Open30 in one text. -/
import Derived.Test.YtcflebggepmmcaaBlkS
import Derived.Deep.Slices
import Derived.ChangeArms
import Derived.ChangeOld
import Derived.OpenShut
import Derived.SizedLaws
import Derived.Lib.SmallJoins
import Derived.Test.YtcflebggepmmcaaPackS
import Derived.Test.YtcflebggepmmcaaPackT
import Derived.Test.YtcflebggepmmcaaMatX
/- horologelaw21: arguments: fields, bytes, opened. -/
namespace Go.Proofs.Ytcflebggepmmcaa
open Go.RowKit Go.ChangeShapes Go.WideShapes Go.Deep

section
variable {H : Type} {enc : TypeId × Value → H} {w : World} {base : Nat} {spare : Nat → Bool} {held : Bool}
set_option maxRecDepth 20000 in
theorem cellsB21 : Try.prog.cellsOf 5 = 1 := by kernel_rfl
set_option maxRecDepth 20000 in
theorem cellsE21 : Try.prog.cellsOf 172 = 2 := by kernel_rfl
set_option maxRecDepth 20000 in
theorem bytesB21 : Try.prog.bytesOf 5 = 1 := by kernel_rfl
set_option maxRecDepth 20000 in
theorem bytesE21 : Try.prog.bytesOf 172 = 32 := by kernel_rfl
set_option maxRecDepth 20000 in
theorem open_bytes21 {fuel : Nat} {v : Value} {x : DataW H × List MemPlace} (h : DataW.trod enc Try.prog w base spare held fuel 39 [v] = some x) (hz : ∀ k ∈ x.1.weights Try.prog 39, k ≤ reachBytes) :
    ∃ A bs cap, v = .slice A bs.length cap ∧ ByteS w A cap bs := by
  rcases open_rowsW Try.underlying39 cellsB21 (by decide) h hz with rfl | ⟨a, len, cap, rfl, hl, hb, hs, hi⟩
  · exact ⟨none, [], 0, rfl, by simp, by simp, by simp, fun _ => rfl, .inl rfl⟩
  · rw [bytesB21, reach21] at hb
    have hex : ∀ i, ∃ c : Int, i < len → (0 ≤ c ∧ c ≤ 255) ∧ w.cell? ⟨a.block, a.off + i, none⟩ = some (.int .u8 c) := fun i => by
      by_cases h : i < len
      · obtain ⟨cs, m, y, hl, hc, ht, _⟩ := hi i h
        obtain ⟨u, rfl⟩ := one_cell hl
        obtain ⟨c, e0, _, w0⟩ := DataW.trod_int Try.underlying5 ht
        obtain rfl : u = _ := by simpa using e0
        refine ⟨c, fun _ => ⟨?_, ?_⟩⟩
        · simp [Lit.wf, IntKind.min, IntKind.max, IntKind.signed, IntKind.bits] at w0
          omega
        · have := hc 0 (by omega)
          rw [Nat.mul_one, Nat.add_zero] at this
          rw [this]; rfl
      · exact ⟨0, fun k => absurd k h⟩
    obtain ⟨F, hF⟩ := Classical.axiomOfChoice hex
    have hlen : ((List.range len).map F).length = len := by simp
    refine ⟨some a, (List.range len).map F, cap, by rw [hlen], by rw [hlen]; exact hl, by rw [hlen]; omega, fun c hc => ?_, fun e => (by cases e), ?_⟩
    · obtain ⟨i, hi', rfl⟩ := List.mem_map.1 hc
      exact (hF i (List.mem_range.1 hi')).1
    · by_cases z : len = 0
      · subst z; exact .inl rfl
      · have hsp := hs (by omega)
        obtain ⟨b, off, spot⟩ := a
        simp only at hsp
        subst hsp
        refine .inr ⟨b, off, rfl, fun j hj => ?_⟩
        have hj' : j < len := by rw [hlen] at hj; exact hj
        have e : ((List.range len).map F)[j] = F j := by simp
        rw [e]
        exact (hF j hj').2
set_option maxRecDepth 20000 in
theorem open_exts21 {fuel : Nat} {v : Value} {x : DataW H × List MemPlace} (h : DataW.trod enc Try.prog w base spare held fuel 64 [v] = some x) (hz : ∀ k ∈ x.1.weights Try.prog 64, k ≤ reachBytes) :
    ∃ A l cap, v = .slice A l.length cap ∧ ExtS w A cap l := by
  rcases open_rowsW Try.underlying64 cellsE21 (by decide) h hz with rfl | ⟨a, len, cap, rfl, hl, hb, hs, hi⟩
  · exact ⟨none, [], 0, rfl, by simp, by simp, fun _ => rfl, .inl rfl⟩
  · rw [bytesE21, reach21] at hb
    have hex : ∀ i, ∃ c : Fld, i < len → w.cell? ⟨a.block, a.off + i * 2, none⟩ = some (.int .u16 c.kind) ∧ 0 ≤ c.kind ∧ c.kind ≤ 65535 ∧ ∃ u, w.cell? ⟨a.block, a.off + i * 2 + 1, none⟩ = some u ∧ ByteV w u c.val := fun i => by
      by_cases h : i < len
      · obtain ⟨cs, m, y, hl, hc, ht, hw⟩ := hi i h
        obtain ⟨u, u', rfl⟩ := two_cells hl
        obtain ⟨y0, y1, n, rfl, _, f0, f1⟩ := trod_struct2 Try.underlying172 ht
        replace f0 : DataW.trod enc Try.prog w base spare held n 36 [u] = some y0 := f0
        replace f1 : DataW.trod enc Try.prog w base spare held n 39 [u'] = some y1 := f1
        obtain ⟨c, e0, _, w0⟩ := DataW.trod_int Try.underlying36 f0
        obtain rfl : u = _ := by simpa using e0
        obtain ⟨A, bs, cp, rfl, hB⟩ := open_bytes21 f1 (fun k hk => hw k (by
          rw [DataW.weights, Try.underlying172]
          show k ∈ DataW.weightsEach Try.prog [36, 39] [y0.1, y1.1]
          rw [DataW.weightsEach, DataW.weightsEach]
          exact List.mem_append_right _ (List.mem_append_left _ hk)))
        have c0 := hc 0 (by omega)
        have c1 := hc 1 (by omega)
        refine ⟨⟨c, bs⟩, fun _ => ⟨by rw [Nat.add_zero] at c0; rw [c0]; rfl, ?_, ?_, _, by rw [c1]; rfl, A, cp, rfl, hB⟩⟩
        all_goals (simp [Lit.wf, IntKind.min, IntKind.max, IntKind.signed, IntKind.bits] at w0; simp only; omega)
      · exact ⟨⟨0, []⟩, fun k => absurd k h⟩
    obtain ⟨F, hF⟩ := Classical.axiomOfChoice hex
    have hlen : ((List.range len).map F).length = len := by simp
    refine ⟨some a, (List.range len).map F, cap, by rw [hlen], by rw [hlen]; exact hl, by rw [hlen]; omega, fun e => (by cases e), ?_⟩
    by_cases z : len = 0
    · subst z; exact .inl rfl
    · have hsp := hs (by omega)
      obtain ⟨b, off, spot⟩ := a
      simp only at hsp
      subst hsp
      refine .inr ⟨b, off, rfl, fun j hj => ?_⟩
      have hj' : j < len := by rw [hlen] at hj; exact hj
      have e : ((List.range len).map F)[j] = F j := by simp
      rw [e]
      exact hF j hj'
set_option maxRecDepth 20000 in
theorem open_ext21 {r : Reach} {b0 : Nat} {v : Value} {d : DataW H} {p : List MemPlace} (hv : Value.okWide Try.prog w r b0 172 v) (h : DataW.Trod enc Try.prog w base spare held 172 v d p) (hz : ∀ k ∈ d.weights Try.prog 172, k ≤ reachBytes) :
    ∃ (x : Fld) (u : Value), v = .agg #[.int .u16 x.kind, u] ∧ (0 ≤ x.kind ∧ x.kind ≤ 65535) ∧ ByteV w u x.val := by
  obtain ⟨c0, c1, y0, y1, n, rfl, rfl, _, f0, f1⟩ := Go.Joins.open_agg2 Try.underlying172 (by kernel_rfl) cellsE21 hv h
  replace f0 : DataW.trod enc Try.prog w base spare held n 36 [c0] = some y0 := f0
  replace f1 : DataW.trod enc Try.prog w base spare held n 39 [c1] = some y1 := f1
  obtain ⟨c, e0, _, w0⟩ := DataW.trod_int Try.underlying36 f0
  obtain rfl : c0 = _ := by simpa using e0
  obtain ⟨A, bs, cp, rfl, hB⟩ := open_bytes21 f1 (fun k hk => hz k (by
    rw [DataW.weights, Try.underlying172]
    show k ∈ DataW.weightsEach Try.prog [36, 39] [y0.1, y1.1]
    rw [DataW.weightsEach, DataW.weightsEach]
    exact List.mem_append_right _ (List.mem_append_left _ hk)))
  refine ⟨⟨c, bs⟩, _, rfl, ?_, A, cp, rfl, hB⟩
  simp [Lit.wf, IntKind.min, IntKind.max, IntKind.signed, IntKind.bits] at w0
  simp only
  omega
end
end Go.Proofs.Ytcflebggepmmcaa
/- horologelaw23: arguments: packets and datagrams, opened. -/
namespace Go.Proofs.Ytcflebggepmmcaa
open Go.RowKit Go.ChangeShapes Go.WideShapes Go.Deep

set_option maxRecDepth 20000 in
theorem fits_cons_int {k : IntKind} {ks : List CK} {vs : List Value} (h : Fits (.i k :: ks) vs) : ∃ n t, vs = .int k n :: t ∧ (k.min ≤ n ∧ n ≤ k.max) ∧ Fits ks t := by
  match vs, h with
  | .int q n :: t, h =>
    obtain ⟨⟨rfl, hw⟩, ht⟩ := h
    simp only [Lit.wf, Bool.and_eq_true, decide_eq_true_eq] at hw
    exact ⟨n, t, rfl, hw, ht⟩
set_option maxRecDepth 20000 in
theorem hd_of_fits {cs : List Value} (h : Fits (ksOf 63) cs) : ∃ hd : Hd, cs = (hdC hd).toList ∧ HdOk hd := by
  rw [ks_head] at h
  obtain ⟨n0, t, rfl, b0, h⟩ := fits_cons_int h
  obtain ⟨n1, t, rfl, b1, h⟩ := fits_cons_int h
  obtain ⟨n2, t, rfl, b2, h⟩ := fits_cons_int h
  obtain ⟨n3, t, rfl, b3, h⟩ := fits_cons_int h
  obtain ⟨n4, t, rfl, b4, h⟩ := fits_cons_int h
  obtain ⟨n5, t, rfl, b5, h⟩ := fits_cons_int h
  obtain ⟨n6, t, rfl, b6, h⟩ := fits_cons_int h
  obtain ⟨n7, t, rfl, b7, h⟩ := fits_cons_int h
  obtain ⟨n8, t, rfl, b8, h⟩ := fits_cons_int h
  obtain ⟨n9, t, rfl, b9, h⟩ := fits_cons_int h
  obtain ⟨n10, t, rfl, b10, h⟩ := fits_cons_int h
  obtain ⟨n11, t, rfl, b11, h⟩ := fits_cons_int h
  obtain ⟨n12, t, rfl, b12, h⟩ := fits_cons_int h
  obtain ⟨n13, t, rfl, b13, h⟩ := fits_cons_int h
  obtain ⟨n14, t, rfl, b14, h⟩ := fits_cons_int h
  obtain ⟨n15, t, rfl, b15, h⟩ := fits_cons_int h
  match t, h with
  | [], _ => exact ⟨⟨n0, n1, n2, n3, n4, n5, n6, n7, n8, n9, n10, n11, n12, n13, n14, n15⟩, rfl, ⟨b0, b1, b2, b3, b4, b5, b6, b7, b8, b9, b10, b11, b12, b13, b14, b15⟩⟩
section
variable {H : Type} {enc : TypeId × Value → H} {w : World} {base : Nat} {spare : Nat → Bool} {held : Bool}
set_option maxRecDepth 20000 in
theorem flat_trod {T : TypeId} {n : Nat} (k : FlatT T n) {fuel : Nat} {cs : List Value} {x : DataW H × List MemPlace} (h : DataW.trod enc Try.prog w base spare held fuel T cs = some x) : Fits (ksOf T) cs := kinds_trod _ fuel T _ k.ks cs x h
set_option maxRecDepth 20000 in
theorem cellsPk : Try.prog.cellsOf 66 = 18 := by kernel_rfl
set_option maxRecDepth 20000 in
theorem cellsDg : Try.prog.cellsOf 41 = 39 := by kernel_rfl
set_option maxRecDepth 20000 in
theorem cellsWd : Try.prog.cellsOf 32 = 2 := by kernel_rfl
set_option maxRecDepth 20000 in
theorem cellsEn : Try.prog.cellsOf 38 = 18 := by kernel_rfl
set_option maxRecDepth 20000 in
theorem open_pk23 {r : Reach} {b0 : Nat} {v : Value} {d : DataW H} {p : List MemPlace} (hv : Value.okWide Try.prog w r b0 66 v) (h : DataW.Trod enc Try.prog w base spare held 66 v d p) (hz : ∀ k ∈ d.weights Try.prog 66, k ≤ reachBytes) :
    ∃ q : Pk, PkV w q v ∧ PkOk q := by
  obtain ⟨cs, rfl, hsz⟩ := okWide_struct Try.underlying66 hv
  rw [cellsPk] at hsz
  obtain ⟨x0, x1, x2, x3, x4, x5, x6, x7, x8, x9, x10, x11, x12, x13, x14, x15, u, m, rfl⟩ := arr18 hsz
  obtain ⟨fuel, hf⟩ := h
  obtain ⟨y0, y1, y2, n, hx, _, f0, f1, f2⟩ := trod_struct3 Try.underlying66 hf
  simp only [Prod.mk.injEq] at hx
  replace f0 : DataW.trod enc Try.prog w base spare held n 63 [x0, x1, x2, x3, x4, x5, x6, x7, x8, x9, x10, x11, x12, x13, x14, x15] = some y0 := f0
  replace f1 : DataW.trod enc Try.prog w base spare held n 64 [u] = some y1 := f1
  replace f2 : DataW.trod enc Try.prog w base spare held n 39 [m] = some y2 := f2
  obtain ⟨hd, e0, ok⟩ := hd_of_fits (flat_trod fl_head f0)
  have hw : ∀ k ∈ DataW.weightsEach Try.prog [63, 64, 39] [y0.1, y1.1, y2.1], k ≤ reachBytes := fun k hk => hz k (by
    rw [hx.1, DataW.weights, Try.underlying66]
    exact hk)
  rw [DataW.weightsEach, DataW.weightsEach, DataW.weightsEach] at hw
  obtain ⟨A, l, cp, rfl, hE⟩ := open_exts21 f1 (fun k hk => hw k (List.mem_append_right _ (List.mem_append_left _ hk)))
  obtain ⟨A', bs, cp', rfl, hB⟩ := open_bytes21 f2 (fun k hk => hw k (List.mem_append_right _ (List.mem_append_right _ (List.mem_append_left _ hk))))
  simp only [List.cons.injEq, and_true] at e0
  obtain ⟨rfl, rfl, rfl, rfl, rfl, rfl, rfl, rfl, rfl, rfl, rfl, rfl, rfl, rfl, rfl, rfl⟩ := e0
  exact ⟨⟨hd, l, bs⟩, ⟨A, cp, A', cp', rfl, hE, hB⟩, ok, hE.ok, hB.byte⟩
set_option maxRecDepth 20000 in
theorem split39 {l : List Value} (h : l.length = 39) : ∃ m, l = (l.drop 0).take 2 ++ (l.drop 2).take 18 ++ (l.drop 20).take 18 ++ [m] ∧ (l.drop 38).take 1 = [m] := by
  have e : l = (l.drop 0).take 2 ++ (l.drop 2).take 18 ++ (l.drop 20).take 18 ++ l.drop 38 := by
    have e1 := List.take_append_drop 2 l
    have e2 := List.take_append_drop 18 (l.drop 2)
    have e3 := List.take_append_drop 18 (l.drop 20)
    rw [List.drop_drop] at e2 e3
    rw [List.drop_zero, List.append_assoc, List.append_assoc, e3, e2, e1]
  have hl : (l.drop 38).length = 1 := by rw [List.length_drop, h]
  obtain ⟨m, hm⟩ := one_cell hl
  exact ⟨m, by rw [← hm]; exact e, by rw [hm]; rfl⟩
set_option maxRecDepth 20000 in
theorem open_dg23 {r : Reach} {b0 : Nat} {v : Value} {d : DataW H} {p : List MemPlace} (hv : Value.okWide Try.prog w r b0 41 v) (h : DataW.Trod enc Try.prog w base spare held 41 v d p) (hz : ∀ k ∈ d.weights Try.prog 41, k ≤ reachBytes) :
    ∃ q : Dg, DgV w q v ∧ DgOk q := by
  obtain ⟨cs, rfl, hsz⟩ := okWide_struct Try.underlying41 hv
  rw [cellsDg] at hsz
  obtain ⟨l⟩ := cs
  replace hsz : l.length = 39 := hsz
  obtain ⟨fuel, hf⟩ := h
  obtain ⟨y0, y1, y2, y3, n, hx, _, f0, f1, f2, f3⟩ := Go.Joins.trod_struct4 Try.underlying41 hf
  simp only [Prod.mk.injEq] at hx
  replace f0 : DataW.trod enc Try.prog w base spare held n 32 ((l.drop 0).take (Try.prog.cellsOf 32)) = some y0 := f0
  replace f1 : DataW.trod enc Try.prog w base spare held n 38 ((l.drop 2).take (Try.prog.cellsOf 38)) = some y1 := f1
  replace f2 : DataW.trod enc Try.prog w base spare held n 38 ((l.drop 20).take (Try.prog.cellsOf 38)) = some y2 := f2
  replace f3 : DataW.trod enc Try.prog w base spare held n 39 ((l.drop 38).take (Try.prog.cellsOf 39)) = some y3 := f3
  rw [cellsWd] at f0
  rw [cellsEn] at f1 f2
  rw [show Try.prog.cellsOf 39 = 1 by kernel_rfl] at f3
  obtain ⟨m, e, em⟩ := split39 hsz
  rw [em] at f3
  have hw : ∀ k ∈ DataW.weightsEach Try.prog [32, 38, 38, 39] [y0.1, y1.1, y2.1, y3.1], k ≤ reachBytes := fun k hk => hz k (by
    rw [hx.1, DataW.weights, Try.underlying41]
    exact hk)
  rw [DataW.weightsEach, DataW.weightsEach, DataW.weightsEach, DataW.weightsEach] at hw
  obtain ⟨A, bs, cp, rfl, hB⟩ := open_bytes21 f3 (fun k hk => hw k (List.mem_append_right _ (List.mem_append_right _ (List.mem_append_right _ (List.mem_append_left _ hk)))))
  have k0 := flat_trod fl_wide f0
  have k1 := flat_trod fl_ends f1
  have k2 := flat_trod fl_ends f2
  refine ⟨⟨((l.drop 0).take 2).toArray, ((l.drop 2).take 18).toArray, ((l.drop 20).take 18).toArray, bs⟩, ⟨A, cp, ?_, hB⟩, k0, k1, k2⟩
  congr 1
  unfold dgC
  simp only [List.append_toArray, ← e]
end
end Go.Proofs.Ytcflebggepmmcaa
/- horologelaw30: arguments: datagrams ([]Datagram), opened. -/
namespace Go.Proofs.Ytcflebggepmmcaa
open Go.RowKit Go.ChangeShapes Go.WideShapes Go.Deep

section
variable {H : Type} {enc : TypeId × Value → H} {w : World} {base : Nat} {spare : Nat → Bool} {held : Bool}
set_option maxRecDepth 20000 in
theorem bytesDg30 : 32 ≤ Try.prog.bytesOf 41 := of_decide_eq_true (by kernel_rfl)
set_option maxRecDepth 20000 in
theorem open_dgs30 {fuel : Nat} {v : Value} {x : DataW H × List MemPlace} (h : DataW.trod enc Try.prog w base spare held fuel 22 [v] = some x) (hz : ∀ k ∈ x.1.weights Try.prog 22, k ≤ reachBytes) :
    ∃ A l cap, v = .slice A l.length cap ∧ DgsS w A cap l := by
  rcases open_rowsW Try.underlying22 cellsDg (by decide) h hz with rfl | ⟨a, len, cap, rfl, hl, hb, hs, hi⟩
  · exact ⟨none, [], 0, rfl, by simp, by simp, fun d hd => (by cases hd), fun _ => rfl, .inl rfl⟩
  · rw [reach21] at hb
    have hb' := Nat.le_trans (Nat.mul_le_mul_left len bytesDg30) hb
    have hex : ∀ i, ∃ q : Dg, i < len → DgOk q ∧ ∃ B bc, ByteS w B bc q.bs ∧ ∀ j v, (dgC q.at_ q.src q.dst (.slice B q.bs.length bc)).toList[j]? = some v → w.cell? ⟨a.block, a.off + i * 39 + j, none⟩ = some v := fun i => by
      by_cases h : i < len
      · obtain ⟨l, m, y, hl, hc, ht, hw⟩ := hi i h
        obtain ⟨y0, y1, y2, y3, n, hx, _, f0, f1, f2, f3⟩ := Go.Joins.trod_struct4 Try.underlying41 ht
        replace f0 : DataW.trod enc Try.prog w base spare held n 32 ((l.drop 0).take (Try.prog.cellsOf 32)) = some y0 := f0
        replace f1 : DataW.trod enc Try.prog w base spare held n 38 ((l.drop 2).take (Try.prog.cellsOf 38)) = some y1 := f1
        replace f2 : DataW.trod enc Try.prog w base spare held n 38 ((l.drop 20).take (Try.prog.cellsOf 38)) = some y2 := f2
        replace f3 : DataW.trod enc Try.prog w base spare held n 39 ((l.drop 38).take (Try.prog.cellsOf 39)) = some y3 := f3
        rw [cellsWd] at f0
        rw [cellsEn] at f1 f2
        rw [show Try.prog.cellsOf 39 = 1 by kernel_rfl] at f3
        obtain ⟨m', e, em⟩ := split39 hl
        rw [em] at f3
        have hw' : ∀ k ∈ DataW.weightsEach Try.prog [32, 38, 38, 39] [y0.1, y1.1, y2.1, y3.1], k ≤ reachBytes := fun k hk => hw k (by
          rw [hx, DataW.weights, Try.underlying41]
          exact hk)
        rw [DataW.weightsEach, DataW.weightsEach, DataW.weightsEach, DataW.weightsEach] at hw'
        obtain ⟨B, bs, cp, rfl, hB⟩ := open_bytes21 f3 (fun k hk => hw' k (List.mem_append_right _ (List.mem_append_right _ (List.mem_append_right _ (List.mem_append_left _ hk)))))
        have k0 := flat_trod fl_wide f0
        have k1 := flat_trod fl_ends f1
        have k2 := flat_trod fl_ends f2
        refine ⟨⟨((l.drop 0).take 2).toArray, ((l.drop 2).take 18).toArray, ((l.drop 20).take 18).toArray, bs⟩, fun _ => ⟨⟨k0, k1, k2⟩, B, cp, hB, fun j v hv => ?_⟩⟩
        have e2 : (dgC ((l.drop 0).take 2).toArray ((l.drop 2).take 18).toArray ((l.drop 20).take 18).toArray (.slice B bs.length cp)).toList = l := by
          unfold dgC
          simp only [Array.toList_append]
          exact e.symm
        rw [e2] at hv
        have hj : j < 39 := by rw [← hl]; exact (List.getElem?_eq_some_iff.1 hv).1
        rw [hc j hj, hv]
      · exact ⟨⟨#[], #[], #[], []⟩, fun k => absurd k h⟩
    obtain ⟨F, hF⟩ := Classical.axiomOfChoice hex
    have hlen : ((List.range len).map F).length = len := by simp
    refine ⟨some a, (List.range len).map F, cap, by rw [hlen], by rw [hlen]; exact hl, by rw [hlen]; omega, fun c hc => ?_, fun e => (by cases e), ?_⟩
    · obtain ⟨i, hi', rfl⟩ := List.mem_map.1 hc
      exact (hF i (List.mem_range.1 hi')).1
    · by_cases z : len = 0
      · subst z; exact .inl rfl
      · have hsp := hs (by omega)
        obtain ⟨b, off, spot⟩ := a
        simp only at hsp
        subst hsp
        refine .inr ⟨b, off, rfl, fun i hi' => ?_⟩
        have hj' : i < len := by rw [hlen] at hi'; exact hi'
        have e : ((List.range len).map F)[i] = F i := by simp
        rw [e]
        exact (hF i hj').2
end
end Go.Proofs.Ytcflebggepmmcaa
