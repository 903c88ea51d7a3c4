/- horologelaw33: arguments that are slices of intervals, opened; intervals compared. -/
import Derived.Test.YtdgmcgfkammioaaOpenR
import Derived.Test.YtdgmcgfkammioaaAround33
import Derived.Test.YtdgmcgfkammioaaFlat2
namespace Go.Proofs.Ytdgmcgfkammioaa
open Go.RowKit Go.ChangeShapes Go.WideShapes Go.Deep

set_option maxRecDepth 20000 in
instance fl_iv : FlatT 97 2 := ⟨by kernel_rfl, by kernel_rfl, by kernel_rfl, by kernel_rfl, by kernel_rfl, by kernel_rfl⟩
set_option maxRecDepth 20000 in
instance fl_riv : FlatT 79 2 := ⟨by kernel_rfl, by kernel_rfl, by kernel_rfl, by kernel_rfl, by kernel_rfl, by kernel_rfl⟩
set_option maxRecDepth 20000 in
theorem ks_iv : ksOf 97 = [.i .i64, .i .i64] := by kernel_rfl
set_option maxRecDepth 20000 in
theorem ks_riv : ksOf 79 = [.i .i64, .i .i64] := by kernel_rfl
set_option maxRecDepth 20000 in
theorem fits_iv {a b : Int} (ha : Is64 a) (hb : Is64 b) : Fits [CK.i .i64, CK.i .i64] [.int .i64 a, .int .i64 b] := by
  obtain ⟨a1, a2⟩ := ha
  obtain ⟨b1, b2⟩ := hb
  refine ⟨⟨rfl, ?_⟩, ⟨rfl, ?_⟩, trivial⟩ <;> simp [Lit.wf, IntKind.min, IntKind.max, IntKind.signed, IntKind.bits] <;> omega
set_option maxRecDepth 20000 in
theorem eql_iv {a b : Int} (ha : Is64 a) (hb : Is64 b) (w : World) : (binOp .eql 97 (.agg #[.int .i64 a, .int .i64 b]) (.agg #[.int .i64 a, .int .i64 b])).run Try.prog w = .ok (.bool true) w := by
  have h : Fits (ksOf 97) (#[.int .i64 a, .int .i64 b] : Array Value).toList := by rw [ks_iv]; exact fits_iv ha hb
  rw [run_eql_flat fl_iv w h h, eqA_self]
set_option maxRecDepth 20000 in
theorem eql_riv {a b : Int} (ha : Is64 a) (hb : Is64 b) (w : World) : (binOp .eql 79 (.agg #[.int .i64 a, .int .i64 b]) (.agg #[.int .i64 a, .int .i64 b])).run Try.prog w = .ok (.bool true) w := by
  have h : Fits (ksOf 79) (#[.int .i64 a, .int .i64 b] : Array Value).toList := by rw [ks_riv]; exact fits_iv ha hb
  rw [run_eql_flat fl_riv w h h, eqA_self]
set_option maxRecDepth 20000 in
theorem neq_riv {a b : Int} (ha : Is64 a) (hb : Is64 b) (w : World) : (binOp .neq 79 (.agg #[.int .i64 a, .int .i64 b]) (.agg #[.int .i64 a, .int .i64 b])).run Try.prog w = .ok (.bool false) w := by
  have h : Fits (ksOf 79) (#[.int .i64 a, .int .i64 b] : Array Value).toList := by rw [ks_riv]; exact fits_iv ha hb
  rw [run_neq_flat fl_riv w h h, eqA_self]
  rfl
/-- a slice of intervals that came in -/
structure IvS (W : World) (A : Option Addr) (cap : Nat) (l : List Iv) : Prop where
  cap : l.length ≤ cap
  lim : l.length * 16 ≤ 140737488351232
  ok : ∀ x ∈ l, Is64 x.lo ∧ Is64 x.hi
  row : IvRow W A l
set_option maxRecDepth 20000 in
theorem IvS.inIv {W : World} {A : Option Addr} {cap : Nat} {l : List Iv} (h : IvS W A cap l) : InIv l := fun x hx => ⟨(h.ok x hx).1.1, (h.ok x hx).2.2⟩
section
variable {H : Type} {enc : TypeId × Value → H} {w : World} {base : Nat} {spare : Nat → Bool} {held : Bool}
set_option maxRecDepth 20000 in
theorem cellsIv : Try.prog.cellsOf 97 = 2 := by kernel_rfl
set_option maxRecDepth 20000 in
theorem cells64 : Try.prog.cellsOf 2 = 1 := by kernel_rfl
set_option maxRecDepth 20000 in
theorem bytesIv : Try.prog.bytesOf 97 = 16 := by kernel_rfl
set_option maxRecDepth 20000 in
theorem open_ivs33 {fuel : Nat} {v : Value} {x : DataW H × List MemPlace} (h : DataW.trod enc Try.prog w base spare held fuel 96 [v] = some x) (hz : ∀ k ∈ x.1.weights Try.prog 96, k ≤ reachBytes) :
    ∃ A l cap, v = .slice A l.length cap ∧ IvS w A cap l := by
  rcases open_rowsW Try.underlying96 cellsIv (by decide) h hz with rfl | ⟨a, len, cap, rfl, hl, hb, hs, hi⟩
  · exact ⟨none, [], 0, rfl, by simp, by simp, fun d hd => (by cases hd), .inl rfl⟩
  · rw [reach21, bytesIv] at hb
    have hex : ∀ i, ∃ d : Iv, i < len → (Is64 d.lo ∧ Is64 d.hi) ∧ w.cell? ⟨a.block, a.off + i * 2, none⟩ = some (.int .i64 d.lo) ∧ w.cell? ⟨a.block, a.off + i * 2 + 1, none⟩ = some (.int .i64 d.hi) := fun i => by
      by_cases h : i < len
      · obtain ⟨cs, m, y, hl, hc, ht, hw⟩ := hi i h
        obtain ⟨c0, c1, rfl⟩ := two_cells hl
        obtain ⟨xs, n, _, _, _, hlen, hf⟩ := DataW.trod_struct Try.underlying97 ht
        have f0 := hf 0 _ rfl
        have f1 := hf 1 _ rfl
        have hlen' : xs.length = 2 := hlen
        rw [List.getElem?_eq_getElem (by omega)] at f0 f1
        replace f0 : DataW.trod enc Try.prog w base spare held n 2 (([c0, c1].drop 0).take (Try.prog.cellsOf 2)) = some xs[0] := f0
        replace f1 : DataW.trod enc Try.prog w base spare held n 2 (([c0, c1].drop 1).take (Try.prog.cellsOf 2)) = some xs[1] := f1
        rw [cells64] at f0 f1
        obtain ⟨n0, e0, _, w0⟩ := DataW.trod_int Try.underlying2 f0
        obtain ⟨n1, e1, _, w1⟩ := DataW.trod_int Try.underlying2 f1
        simp at e0 e1
        subst e0 e1
        simp [Lit.wf, IntKind.min, IntKind.max, IntKind.signed, IntKind.bits] at w0 w1
        exact ⟨⟨n0, n1⟩, fun _ => ⟨⟨⟨by simp only; omega, by simp only; omega⟩, ⟨by simp only; omega, by simp only; omega⟩⟩, by rw [← Nat.add_zero (a.off + i * 2), hc 0 (by omega)]; rfl, by rw [hc 1 (by omega)]; rfl⟩⟩
      · exact ⟨⟨0, 0⟩, fun k => absurd k h⟩
    obtain ⟨F, hF⟩ := Classical.axiomOfChoice hex
    have hlen : ((List.range len).map F).length = len := by simp
    refine ⟨some a, (List.range len).map F, cap, by rw [hlen], by rw [hlen]; exact hl, by rw [hlen]; omega, fun c hc => ?_, ?_⟩
    · obtain ⟨i, hi', rfl⟩ := List.mem_map.1 hc
      exact (hF i (List.mem_range.1 hi')).1
    · by_cases z : len = 0
      · subst z; exact .inl rfl
      · have hsp := hs (by omega)
        obtain ⟨b, off, spot⟩ := a
        simp only at hsp
        subst hsp
        refine .inr ⟨b, off, rfl, fun i hi' => ?_⟩
        have hj' : i < len := by rw [hlen] at hi'; exact hi'
        have e : ((List.range len).map F)[i] = F i := by simp
        rw [e]
        exact (hF i hj').2
end
set_option maxRecDepth 20000 in
/-- the reference's copy of the intervals -/
theorem infoRIv : (Try.prog.info? 79).map (fun i => (i.zero, i.size, i.bytes)) = some (some (.agg #[.int .i64 0, .int .i64 0]), 2, 16) := by kernel_rfl
def ivL (l : List Iv) : List Value := l.flatMap fun x => [.int .i64 x.lo, .int .i64 x.hi]
set_option maxRecDepth 20000 in
theorem ivL_snoc (l : List Iv) (x : Iv) : ivL (l ++ [x]) = ivL l ++ [.int .i64 x.lo, .int .i64 x.hi] := by unfold ivL; rw [List.flatMap_append]; rfl
set_option maxRecDepth 20000 in
theorem ivL_length (l : List Iv) : (ivL l).length = l.length * 2 := by
  induction l with
  | nil => rfl
  | cons x l ih =>
    have e : ivL (x :: l) = .int .i64 x.lo :: .int .i64 x.hi :: ivL l := rfl
    rw [e, List.length_cons, List.length_cons, ih, List.length_cons]
    omega
set_option maxRecDepth 20000 in
theorem ivL_get (l : List Iv) : ∀ (j : Nat) (h : j < l.length), (ivL l)[j * 2]? = some (.int .i64 l[j].lo) ∧ (ivL l)[j * 2 + 1]? = some (.int .i64 l[j].hi) := by
  induction l with
  | nil => intro j h; simp at h
  | cons x l ih =>
    intro j h
    have e : ivL (x :: l) = .int .i64 x.lo :: .int .i64 x.hi :: ivL l := rfl
    rw [e]
    cases j with
    | zero => exact ⟨rfl, rfl⟩
    | succ j =>
      obtain ⟨h1, h2⟩ := ih j (by simpa using h)
      rw [show (j + 1) * 2 = j * 2 + 1 + 1 by omega]
      simp only [List.getElem?_cons_succ, List.getElem_cons_succ]
      exact ⟨h1, h2⟩
set_option maxRecDepth 20000 in
theorem own_ivs {w : World} {base n : Nat} {T : TypeId} {v : Value} {l : List Iv} (h : w.ownsRow base T 2 v n (ivL l)) (hn : l.length = n) : ∃ A c, v = .slice A n c ∧ IvRow w A l := by
  rcases h.2 with ⟨rfl, rfl⟩ | ⟨g, cap, cur, rfl, hb, hg, h3, h4, h5, h6⟩
  · exact ⟨none, 0, rfl, .inl (List.eq_nil_of_length_eq_zero hn)⟩
  · refine ⟨_, _, rfl, .inr ⟨g, 0, rfl, fun j hj => ?_⟩⟩
    have B : Blk w g T cur := ⟨hg⟩
    obtain ⟨e1, e2⟩ := ivL_get l j hj
    rw [← h6] at e1 e2
    rw [List.getElem?_take_of_lt (by omega), Array.getElem?_toList] at e1 e2
    rw [Nat.zero_add, blk_cell B, blk_cell B]
    exact ⟨e1, e2⟩
end Go.Proofs.Ytdgmcgfkammioaa
