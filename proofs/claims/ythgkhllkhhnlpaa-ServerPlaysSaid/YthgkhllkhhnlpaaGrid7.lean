/- allan: Put. -/
import Derived.Test.YthgkhllkhhnlpaaGridS
import Derived.Test.YthgkhllkhhnlpaaBlkS
namespace Go.Proofs.Ythgkhllkhhnlpaa
open Go.RowKit

/-- a grid in memory -/
structure GridAt (W : World) (p r R C o : Nat) (x : Int) (nw : Slot) (t : Tot) (f : Nat → Slot) : Prop where
  g : Blk W p 128 (gridC x o r R C nw t)
  r : RingAt W r R f
/-- all but two blocks are kept -/
def Kept2 (p r : Nat) (W w' : World) : Prop := (∀ (q : Nat) (t : TypeId) (cs : Array Value), q ≠ p → q ≠ r → Blk W q t cs → Blk w' q t cs) ∧ (∀ V : World, V.heap.size ≤ p → V.heap.size ≤ r → Mo V W → Mo V w') ∧ KpS (fun i => i = p ∨ i = r) W w'
set_option maxRecDepth 20000 in
theorem Kept2.mo {p r : Nat} {W w w' : World} (h : Kept2 p r W w) (k : Mo w w') : Kept2 p r W w' := ⟨fun q t cs h1 h2 hb => k.blk (h.1 q t cs h1 h2 hb), fun V h1 h2 hm => (h.2.1 V h1 h2 hm).trans k, h.2.2.trans (KpS.of_mo k) fun _ _ q => q⟩
set_option maxRecDepth 20000 in
theorem Kept2.of_mo {p r : Nat} {W w : World} (k : Mo W w) : Kept2 p r W w := ⟨fun _ _ _ _ _ hb => k.blk hb, fun _ _ _ hm => hm.trans k, KpS.of_mo k⟩
set_option maxRecDepth 20000 in
theorem Kept2.trans {p r : Nat} {W w w' : World} (h : Kept2 p r W w) (k : Kept2 p r w w') : Kept2 p r W w' := ⟨fun q t cs h1 h2 hb => k.1 q t cs h1 h2 (h.1 q t cs h1 h2 hb), fun V h1 h2 hm => k.2.1 V h1 h2 (h.2.1 V h1 h2 hm), h.2.2.trans k.2.2 fun _ _ q => q⟩
set_option maxRecDepth 20000 in
theorem Kept2.set_p {p r : Nat} {W w : World} (h : Kept2 p r W w) (i : Nat) (v : Value) : Kept2 p r W (w.setCell ⟨p, i, none⟩ v) :=
  ⟨fun q t cs h1 h2 hb => blk_setCell_ne (h.1 q t cs h1 h2 hb) (Ne.symm h1) i v, fun V h1 h2 hm => mo_setCell (h.2.1 V h1 h2 hm) h1 i v, h.2.2.cell (.inl rfl) i v⟩
set_option maxRecDepth 20000 in
theorem Kept2.set_r {p r : Nat} {W w : World} (h : Kept2 p r W w) (i : Nat) (v : Value) : Kept2 p r W (w.setCell ⟨r, i, none⟩ v) :=
  ⟨fun q t cs h1 h2 hb => blk_setCell_ne (h.1 q t cs h1 h2 hb) (Ne.symm h2) i v, fun V h1 h2 hm => mo_setCell (h.2.1 V h1 h2 hm) h2 i v, h.2.2.cell (.inr rfl) i v⟩
set_option maxRecDepth 20000 in
theorem kpS_setCells {S : Nat → Prop} {g : Nat} (s : S g) : ∀ (vs : List Value) (o : Nat) {W w : World}, KpS S W w → KpS S W (w.setCells g o vs)
  | [], _, _, _, h => h
  | v :: vs, o, _, _, h => kpS_setCells s vs (o + 1) (h.cell s o v)
set_option maxRecDepth 20000 in
theorem Kept2.sets_p {p r : Nat} {W w : World} (h : Kept2 p r W w) (o : Nat) (vs : List Value) : Kept2 p r W (w.setCells p o vs) :=
  ⟨fun q t cs h1 h2 hb => blk_setCells_ne (Ne.symm h1) vs o (h.1 q t cs h1 h2 hb), fun V h1 h2 hm => mo_setCells h1 vs o (h.2.1 V h1 h2 hm), kpS_setCells (.inl rfl) vs o h.2.2⟩
set_option maxRecDepth 20000 in
theorem Kept2.drew {p r : Nat} {W w : World} (h : Kept2 p r W w) : Kept2 p r W w.drew := h.mo Mor.out
/-- what Put leaves -/
def PutRet (c : Int) (p r R C o : Nat) (x : Int) (nw : Slot) (t : Tot) (f : Nat → Slot) (W : World) (e : Ending) (w' : World) : Prop := e = .returned (.int .u8 c) ∧ GridAt w' p r R C o x nw t f ∧ Kept2 p r W w'

set_option maxRecDepth 20000 in
theorem wp_name' {K : Exit → Act → World → Prop} {x : Exit} {a : Act} {w : World} (h : ∀ W, W = w → K x a W) : K x a w := h w rfl
set_option maxRecDepth 20000 in
theorem withK_none (R : Nat) (f : Nat → Slot) (s : Slot) (t : Tot) (n : Nat) (h : s.some = false) : withK R f s t n = t := by
  induction n with
  | zero => rfl
  | succ n ih => rw [withK_succ, ih]; unfold withS; rw [h]; simp
set_option maxRecDepth 20000 in
theorem put_wild (p r R C o : Nat) (x : Int) (nw : Slot) (t : Tot) (f : Nat → Slot) (a off del : Int) (W : World) (hR : 0 < R) (hG : GridAt W p r R C o x nw t f) (hw : ¬ Near off) :
    Calls Try.prog 32 #[.pointer (some ⟨p, 0, none⟩), WV a, .int .i64 off, .int .i64 del] W (PutRet 2 p r R C o x nw t f W) := by
  have c2 : W.cell? ⟨p, 2, none⟩ = some (.slice (some ⟨r, 0, none⟩) R C) := by rw [blk_cell hG.g, gridC_lo _ _ _ _ _ _ _ _ (by omega)]; rfl
  have LP : LtW p W := LtW.of_cell c2
  have HG := Lib.hid hG
  have hR' : ((R : Int) == 0) = false := by simp; omega
  have hk : off < -140737488355328 ∨ (¬ off < -140737488355328 ∧ 140737488355328 < off) := by unfold Near at hw; omega
  clear hG hw
  rcases hk with h1 | ⟨h1, h2⟩
  all_goals
    go_enter Try.func32, Try.ntmps32
    go_wp2_with fail
    go_ret
    exact ⟨rfl, ⟨HG.out.g |> (Mor.out : Mo W _).blk, Mo.ring (Mor.out : Mo W _) HG.out.r⟩, Kept2.of_mo Mor.out⟩
set_option maxRecDepth 20000 in
set_option maxHeartbeats 400000 in
theorem put_later (p r R C o : Nat) (x : Int) (nw : Slot) (t : Tot) (f : Nat → Slot) (a off del n : Int) (W : World) (hR : 0 < R) (hR2 : R ≤ 1025) (ho : o ≤ 10) (x1 : 0 < x) (x2 : x ≤ 9223372036854775807) (ha : InW a) (hG : GridAt W p r R C o x nw t f) (hpr : p ≠ r)
    (hw : Near off) (hn : clip (a / x) = n) (hs : nw.some = true) (hlt : nw.num < n) (n1 : -9223372036854775808 ≤ nw.num) (n2 : nw.num ≤ 9223372036854775807) (o1 : Near nw.off) (hf : ∀ i, Near (f i).off)
    (hc : ∀ k, k < 10 → 0 ≤ (t k).1 ∧ (t k).1 ≤ 1000000 ∧ 0 ≤ (t k).2 ∧ (t k).2 ≤ 85070591730234615865843651857942052864) :
    Calls Try.prog 32 #[.pointer (some ⟨p, 0, none⟩), WV a, .int .i64 off, .int .i64 del] W (PutRet 1 p r R C o x ⟨true, n, off, del⟩ (withK R f nw t o) (updF f (idx R nw.num) nw) W) := by
  have g := hG.g
  have c0 : W.cell? ⟨p, 0, none⟩ = some (.int .i64 x) := by rw [blk_cell g, gridC_lo _ _ _ _ _ _ _ _ (by omega)]; rfl
  have c2 : W.cell? ⟨p, 2, none⟩ = some (.slice (some ⟨r, 0, none⟩) R C) := by rw [blk_cell g, gridC_lo _ _ _ _ _ _ _ _ (by omega)]; rfl
  have LP : LtW p W := LtW.of_cell c2
  have D1 := Lib.hid (fun w => div_any a x ha x1 (by omega) w)
  have C1 := Lib.hid (fun w => clip_any (a / x) (inW_div ha x1) w)
  rw [hn] at C1
  have WI := Lib.hid (fun (W' : World) (b : Blk W' p 128 (gridC x o r R C nw t)) (b' : RingAt W' r R f) => with_any p r R C o x nw nw t _ f W' hR hR2 ho n1 n2 o1 hf hc b b')
  have HG := Lib.hid hG
  have hR' : ((R : Int) == 0) = false := by simp; omega
  obtain ⟨w1, w2⟩ := hw
  clear hG hn hc hf ha g
  generalize withK R f nw t o = t' at *
  generalize a / x = q at *
  generalize a % x = rm at *
  go_enter Try.func32, Try.ntmps32
  go_wp2_with fail
  go_cut [9] (fun s9 wx => ∃ b, s9 = .pointer (some ⟨b, 0, none⟩) ∧ Blk wx b 43 #[.int .i64 (hiW q), .int .u64 (loW q)] ∧ Mo W wx)
  case first =>
    as_aux_lemma =>
      refine wp_name ?_
      intro V hV
      have MV : Mo W V := by rw [hV]; exact Mor.out
      have k0 : V.cell? ⟨W.heap.size, 0, none⟩ = some (.int .i64 (hiW a)) := by rw [hV]; simp [go_sem]
      have k1 : V.cell? ⟨W.heap.size, 1, none⟩ = some (.int .u64 (loW a)) := by rw [hV]; simp [go_sem]
      have k2 : V.cell? ⟨p, 0, none⟩ = some (.int .i64 x) := MV.cell.trans c0
      have LV : LtW p V := LtW.of_cell k2
      have LV' : LtW W.heap.size V := LtW.of_cell k0
      have wx : IntKind.u64.wrap x = x := by rw [IntKind.wrap_u64]; omega
      clear hV
      go_region_held3 (fun w' => w'.cell? ⟨W.heap.size, 0, none⟩ = some (.int .i64 (hiW a)) ∧ w'.cell? ⟨W.heap.size, 1, none⟩ = some (.int .u64 (loW a)) ∧ w'.cell? ⟨p, 0, none⟩ = some (.int .i64 x)) (simp [go_sem, k0, k1, k2])
        (first
        | ((with_reducible refine (D1.out _).mono ?_); rintro e w1 ⟨rfl, J3, d3, rfl⟩))
      all_goals (go_wp2_with fail; go_meet; exact ⟨_, rfl, inferInstance, MV.trans Mor.out⟩)
  obtain ⟨b, rfl, Bb, hM⟩ := hcut
  have G1 : GridAt wc p r R C o x nw t f := ⟨hM.blk HG.out.g, hM.ring HG.out.r⟩
  have K1 : Kept2 p r W wc := Kept2.of_mo hM
  have b0 : wc.cell? ⟨b, 0, none⟩ = some (.int .i64 (hiW q)) := by rw [blk_cell Bb]; rfl
  have b1 : wc.cell? ⟨b, 1, none⟩ = some (.int .u64 (loW q)) := by rw [blk_cell Bb]; rfl
  have e3 : wc.cell? ⟨p, 3, none⟩ = some (.bool nw.some) := by rw [blk_cell G1.g, gridC_lo _ _ _ _ _ _ _ _ (by omega)]; rfl
  have e4 : wc.cell? ⟨p, 4, none⟩ = some (.int .i64 nw.num) := by rw [blk_cell G1.g, gridC_lo _ _ _ _ _ _ _ _ (by omega)]; rfl
  have e5 : wc.cell? ⟨p, 5, none⟩ = some (.int .i64 nw.off) := by rw [blk_cell G1.g, gridC_lo _ _ _ _ _ _ _ _ (by omega)]; rfl
  have e6 : wc.cell? ⟨p, 6, none⟩ = some (.int .i64 nw.del) := by rw [blk_cell G1.g, gridC_lo _ _ _ _ _ _ _ _ (by omega)]; rfl
  have Lb : LtW b wc := LtW.of_cell b0
  have Lp : LtW p wc := LtW.of_cell e3
  have hGp := G1.g
  have hGr := G1.r
  clear c0 c2 LP HG D1 Bb hM
  obtain ⟨sm, nm, of, dl⟩ := nw
  simp only at hs hlt n1 n2 e3 e4 e5 e6
  subst hs
  go_wp2_with fail
  refine (C1.out _).mono ?_; rintro e w1 ⟨rfl, J4, d4, rfl⟩
  go_wp2_with fail
  refine (WI.out _ (by infer_instance) (by infer_instance)).mono ?_; rintro e w1 ⟨rfl, J5, d5, rfl⟩
  go_upto_region 10 with (fail)
  refine wp_name ?_
  intro Y hY
  have hlt12 : p < wc.heap.size + J4.size := by have := Lp.out; omega
  have BYp : Blk Y p 128 (gridC x o r R C ⟨true, nm, of, dl⟩ t') := by rw [hY]; exact blk_tot (t := t) (by infer_instance)
  have BYr : RingAt Y r R f := by rw [hY]; exact ringAt_setCells_ne hpr _ _ (by infer_instance)
  have B12 : Blk Y (wc.heap.size + J4.size) 123 (slotC ⟨true, n, off, del⟩) := by rw [hY]; exact blk_setCells_ne (by omega) _ _ (by infer_instance)
  have B13 : Blk Y (wc.heap.size + J4.size + 1) 123 (slotC ⟨true, nm, of, dl⟩) := by rw [hY]; exact blk_setCells_ne (by omega) _ _ (by infer_instance)
  have KY : Kept2 p r W Y := by rw [hY]; exact (K1.mo Mor.out).sets_p _ _
  have hrlt : r < wc.heap.size + J4.size := by have := hGr.lt; omega
  clear hY WI C1 K1 G1 hGp hGr b0 b1 e3 e4 e5 e6 Lb Lp
  generalize wc.heap.size + J4.size = x12 at *
  have y0 : Y.cell? ⟨x12 + 1, 0, none⟩ = some (.bool true) := by rw [blk_cell B13]; rfl
  have y1 : Y.cell? ⟨x12 + 1, 1, none⟩ = some (.int .i64 nm) := by rw [blk_cell B13]; rfl
  have y2 : Y.cell? ⟨x12 + 1, 2, none⟩ = some (.int .i64 of) := by rw [blk_cell B13]; rfl
  have y3 : Y.cell? ⟨x12 + 1, 3, none⟩ = some (.int .i64 dl) := by rw [blk_cell B13]; rfl
  have yp : Y.cell? ⟨p, 2, none⟩ = some (.slice (some ⟨r, 0, none⟩) R C) := by rw [blk_cell BYp, gridC_lo _ _ _ _ _ _ _ _ (by omega)]; rfl
  have AT := Lib.hid (fun (W' : World) (h : W'.cell? ⟨p, 2, none⟩ = some (.slice (some ⟨r, 0, none⟩) R C)) => at_any p r R C nm W' hR hR2 h)
  have hi := idx_lt hR nm
  generalize idx R nm = i at *
  obtain ⟨z0, z1, z2, z3⟩ := ring_at BYr i hi
  have f0 := ringAt_frozen BYr (i * 4)
  have f1 := ringAt_frozen BYr (i * 4 + 1)
  have f2 := ringAt_frozen BYr (i * 4 + 2)
  have f3 := ringAt_frozen BYr (i * 4 + 3)
  have j1 : (0 : Int) ≤ (i : Int) := by omega
  have j2 : (i : Int) < R := by omega
  generalize f i = fi at *
  obtain ⟨fa, fb, fc, fd⟩ := fi
  simp only at z0 z1 z2 z3
  go_wp2_with fail
  go_region_held3 (fun w' => w'.cell? ⟨x12 + 1, 0, none⟩ = some (.bool true) ∧ w'.cell? ⟨x12 + 1, 1, none⟩ = some (.int .i64 nm) ∧ w'.cell? ⟨x12 + 1, 2, none⟩ = some (.int .i64 of) ∧ w'.cell? ⟨x12 + 1, 3, none⟩ = some (.int .i64 dl) ∧ w'.cell? ⟨p, 2, none⟩ = some (.slice (some ⟨r, 0, none⟩) R C)) (simp [go_sem, y0, y1, y2, y3, yp])
    (first
    | ((with_reducible refine (AT.out _ (by simp [go_sem, yp])).mono ?_); rintro e1 w1 ⟨rfl, rfl⟩))
  rename_i hHeld
  clear hHeld
  refine wp_name' ?_
  intro Z hZ
  have BZr : RingAt Z r R (updF f i ⟨true, nm, of, dl⟩) := by
    rw [hZ]
    have := ringAt_set BYr i hi ⟨true, nm, of, dl⟩
    infer_instance
  have BZp : Blk Z p 128 (gridC x o r R C ⟨true, nm, of, dl⟩ t') := by
    rw [hZ]
    have := blk_setCell_ne (blk_setCell_ne (blk_setCell_ne (blk_setCell_ne BYp (Ne.symm hpr) (i * 4) (.bool true)) (Ne.symm hpr) (i * 4 + 1) (.int .i64 nm)) (Ne.symm hpr) (i * 4 + 2) (.int .i64 of)) (Ne.symm hpr) (i * 4 + 3) (.int .i64 dl)
    infer_instance
  have hr12 : r ≠ x12 := by omega
  have BZ12 : Blk Z x12 123 (slotC ⟨true, n, off, del⟩) := by
    rw [hZ]
    have := blk_setCell_ne (blk_setCell_ne (blk_setCell_ne (blk_setCell_ne B12 hr12 (i * 4) (.bool true)) hr12 (i * 4 + 1) (.int .i64 nm)) hr12 (i * 4 + 2) (.int .i64 of)) hr12 (i * 4 + 3) (.int .i64 dl)
    infer_instance
  have KZ : Kept2 p r W Z := by rw [hZ]; exact ((((KY.set_r _ _).set_r _ _).set_r _ _).set_r _ _).drew
  clear hZ KY BYr BYp B12 B13 y0 y1 y2 y3 yp z0 z1 z2 z3 f0 f1 f2 f3 AT
  have u0 : Z.cell? ⟨x12, 0, none⟩ = some (.bool true) := by rw [blk_cell BZ12]; rfl
  have u1 : Z.cell? ⟨x12, 1, none⟩ = some (.int .i64 n) := by rw [blk_cell BZ12]; rfl
  have u2 : Z.cell? ⟨x12, 2, none⟩ = some (.int .i64 off) := by rw [blk_cell BZ12]; rfl
  have u3 : Z.cell? ⟨x12, 3, none⟩ = some (.int .i64 del) := by rw [blk_cell BZ12]; rfl
  have v0 : Z.cell? ⟨p, 3, none⟩ = some (.bool true) := by rw [blk_cell BZp, gridC_lo _ _ _ _ _ _ _ _ (by omega)]; rfl
  have v1 : Z.cell? ⟨p, 4, none⟩ = some (.int .i64 nm) := by rw [blk_cell BZp, gridC_lo _ _ _ _ _ _ _ _ (by omega)]; rfl
  have v2 : Z.cell? ⟨p, 5, none⟩ = some (.int .i64 of) := by rw [blk_cell BZp, gridC_lo _ _ _ _ _ _ _ _ (by omega)]; rfl
  have v3 : Z.cell? ⟨p, 6, none⟩ = some (.int .i64 dl) := by rw [blk_cell BZp, gridC_lo _ _ _ _ _ _ _ _ (by omega)]; rfl
  have f0 := blk_frozen BZp 3
  have f1 := blk_frozen BZp 4
  have f2 := blk_frozen BZp 5
  have f3 := blk_frozen BZp 6
  go_wp2_with fail
  go_ret
  refine ⟨rfl, ⟨?_, ?_⟩, (((KZ.set_p _ _).set_p _ _).set_p _ _).set_p _ _⟩
  · rw [← gridC_nw x o r R C ⟨true, nm, of, dl⟩ ⟨true, n, off, del⟩ t']
    exact blk_setCell (blk_setCell (blk_setCell (blk_setCell BZp 3 _) 4 _) 5 _) 6 _
  · exact ringAt_setCell_ne (ringAt_setCell_ne (ringAt_setCell_ne (ringAt_setCell_ne BZr hpr 3 _) hpr 4 _) hpr 5 _) hpr 6 _
set_option maxRecDepth 20000 in
set_option maxHeartbeats 400000 in
theorem put_first (p r R C o : Nat) (x : Int) (nw : Slot) (t : Tot) (f : Nat → Slot) (a off del n : Int) (W : World) (hR : 0 < R) (hR2 : R ≤ 1025) (ho : o ≤ 10) (x1 : 0 < x) (x2 : x ≤ 9223372036854775807) (ha : InW a) (hG : GridAt W p r R C o x nw t f) (hpr : p ≠ r)
    (hw : Near off) (hn : clip (a / x) = n) (hs : nw.some = false) (n1 : -9223372036854775808 ≤ nw.num) (n2 : nw.num ≤ 9223372036854775807) (o1 : Near nw.off) (hf : ∀ i, Near (f i).off)
    (hc : ∀ k, k < 10 → 0 ≤ (t k).1 ∧ (t k).1 ≤ 1000000 ∧ 0 ≤ (t k).2 ∧ (t k).2 ≤ 85070591730234615865843651857942052864) :
    Calls Try.prog 32 #[.pointer (some ⟨p, 0, none⟩), WV a, .int .i64 off, .int .i64 del] W (PutRet 1 p r R C o x ⟨true, n, off, del⟩ t f W) := by
  have g := hG.g
  have c0 : W.cell? ⟨p, 0, none⟩ = some (.int .i64 x) := by rw [blk_cell g, gridC_lo _ _ _ _ _ _ _ _ (by omega)]; rfl
  have c2 : W.cell? ⟨p, 2, none⟩ = some (.slice (some ⟨r, 0, none⟩) R C) := by rw [blk_cell g, gridC_lo _ _ _ _ _ _ _ _ (by omega)]; rfl
  have LP : LtW p W := LtW.of_cell c2
  have D1 := Lib.hid (fun w => div_any a x ha x1 (by omega) w)
  have C1 := Lib.hid (fun w => clip_any (a / x) (inW_div ha x1) w)
  rw [hn] at C1
  have WI := Lib.hid (fun (W' : World) (b : Blk W' p 128 (gridC x o r R C nw t)) (b' : RingAt W' r R f) => with_any p r R C o x nw nw t _ f W' hR hR2 ho n1 n2 o1 hf hc b b')
  have HG := Lib.hid hG
  have hR' : ((R : Int) == 0) = false := by simp; omega
  obtain ⟨w1, w2⟩ := hw
  clear hG hn hc hf ha g
  rw [withK_none R f nw t o hs] at WI
  generalize a / x = q at *
  generalize a % x = rm at *
  go_enter Try.func32, Try.ntmps32
  go_wp2_with fail
  go_cut [9] (fun s9 wx => ∃ b, s9 = .pointer (some ⟨b, 0, none⟩) ∧ Blk wx b 43 #[.int .i64 (hiW q), .int .u64 (loW q)] ∧ Mo W wx)
  case first =>
    as_aux_lemma =>
      refine wp_name ?_
      intro V hV
      have MV : Mo W V := by rw [hV]; exact Mor.out
      have k0 : V.cell? ⟨W.heap.size, 0, none⟩ = some (.int .i64 (hiW a)) := by rw [hV]; simp [go_sem]
      have k1 : V.cell? ⟨W.heap.size, 1, none⟩ = some (.int .u64 (loW a)) := by rw [hV]; simp [go_sem]
      have k2 : V.cell? ⟨p, 0, none⟩ = some (.int .i64 x) := MV.cell.trans c0
      have LV : LtW p V := LtW.of_cell k2
      have LV' : LtW W.heap.size V := LtW.of_cell k0
      have wx : IntKind.u64.wrap x = x := by rw [IntKind.wrap_u64]; omega
      clear hV
      go_region_held3 (fun w' => w'.cell? ⟨W.heap.size, 0, none⟩ = some (.int .i64 (hiW a)) ∧ w'.cell? ⟨W.heap.size, 1, none⟩ = some (.int .u64 (loW a)) ∧ w'.cell? ⟨p, 0, none⟩ = some (.int .i64 x)) (simp [go_sem, k0, k1, k2])
        (first
        | ((with_reducible refine (D1.out _).mono ?_); rintro e w1 ⟨rfl, J3, d3, rfl⟩))
      all_goals (go_wp2_with fail; go_meet; exact ⟨_, rfl, inferInstance, MV.trans Mor.out⟩)
  obtain ⟨b, rfl, Bb, hM⟩ := hcut
  have G1 : GridAt wc p r R C o x nw t f := ⟨hM.blk HG.out.g, hM.ring HG.out.r⟩
  have K1 : Kept2 p r W wc := Kept2.of_mo hM
  have b0 : wc.cell? ⟨b, 0, none⟩ = some (.int .i64 (hiW q)) := by rw [blk_cell Bb]; rfl
  have b1 : wc.cell? ⟨b, 1, none⟩ = some (.int .u64 (loW q)) := by rw [blk_cell Bb]; rfl
  have e3 : wc.cell? ⟨p, 3, none⟩ = some (.bool nw.some) := by rw [blk_cell G1.g, gridC_lo _ _ _ _ _ _ _ _ (by omega)]; rfl
  have e4 : wc.cell? ⟨p, 4, none⟩ = some (.int .i64 nw.num) := by rw [blk_cell G1.g, gridC_lo _ _ _ _ _ _ _ _ (by omega)]; rfl
  have e5 : wc.cell? ⟨p, 5, none⟩ = some (.int .i64 nw.off) := by rw [blk_cell G1.g, gridC_lo _ _ _ _ _ _ _ _ (by omega)]; rfl
  have e6 : wc.cell? ⟨p, 6, none⟩ = some (.int .i64 nw.del) := by rw [blk_cell G1.g, gridC_lo _ _ _ _ _ _ _ _ (by omega)]; rfl
  have Lb : LtW b wc := LtW.of_cell b0
  have Lp : LtW p wc := LtW.of_cell e3
  have hGp := G1.g
  have hGr := G1.r
  clear c0 c2 LP HG D1 Bb hM
  obtain ⟨sm, nm, of, dl⟩ := nw
  simp only at hs n1 n2 e3 e4 e5 e6
  subst hs
  go_wp2_with fail
  refine (C1.out _).mono ?_; rintro e w1 ⟨rfl, J4, d4, rfl⟩
  go_wp2_with fail
  refine (WI.out _ (by infer_instance) (by infer_instance)).mono ?_; rintro e w1 ⟨rfl, J5, d5, rfl⟩
  go_upto_region 10 with (fail)
  refine wp_name ?_
  intro Z hY
  have hlt12 : p < wc.heap.size + J4.size := by have := Lp.out; omega
  have BZp : Blk Z p 128 (gridC x o r R C ⟨false, nm, of, dl⟩ t) := by rw [hY]; exact blk_tot (t := t) (by infer_instance)
  have BZr : RingAt Z r R f := by rw [hY]; exact ringAt_setCells_ne hpr _ _ (by infer_instance)
  have BZ12 : Blk Z (wc.heap.size + J4.size) 123 (slotC ⟨true, n, off, del⟩) := by rw [hY]; exact blk_setCells_ne (by omega) _ _ (by infer_instance)
  have B13 : Blk Z (wc.heap.size + J4.size + 1) 123 (slotC ⟨false, nm, of, dl⟩) := by rw [hY]; exact blk_setCells_ne (by omega) _ _ (by infer_instance)
  have KZ : Kept2 p r W Z := by rw [hY]; exact (K1.mo Mor.out).sets_p _ _
  have hrlt : r < wc.heap.size + J4.size := by have := hGr.lt; omega
  clear hY WI C1 K1 G1 hGp hGr b0 b1 e3 e4 e5 e6 Lb Lp
  generalize wc.heap.size + J4.size = x12 at *
  have y0 : Z.cell? ⟨x12 + 1, 0, none⟩ = some (.bool false) := by rw [blk_cell B13]; rfl
  clear B13
  have u0 : Z.cell? ⟨x12, 0, none⟩ = some (.bool true) := by rw [blk_cell BZ12]; rfl
  have u1 : Z.cell? ⟨x12, 1, none⟩ = some (.int .i64 n) := by rw [blk_cell BZ12]; rfl
  have u2 : Z.cell? ⟨x12, 2, none⟩ = some (.int .i64 off) := by rw [blk_cell BZ12]; rfl
  have u3 : Z.cell? ⟨x12, 3, none⟩ = some (.int .i64 del) := by rw [blk_cell BZ12]; rfl
  have v0 : Z.cell? ⟨p, 3, none⟩ = some (.bool false) := by rw [blk_cell BZp, gridC_lo _ _ _ _ _ _ _ _ (by omega)]; rfl
  have v1 : Z.cell? ⟨p, 4, none⟩ = some (.int .i64 nm) := by rw [blk_cell BZp, gridC_lo _ _ _ _ _ _ _ _ (by omega)]; rfl
  have v2 : Z.cell? ⟨p, 5, none⟩ = some (.int .i64 of) := by rw [blk_cell BZp, gridC_lo _ _ _ _ _ _ _ _ (by omega)]; rfl
  have v3 : Z.cell? ⟨p, 6, none⟩ = some (.int .i64 dl) := by rw [blk_cell BZp, gridC_lo _ _ _ _ _ _ _ _ (by omega)]; rfl
  have f0 := blk_frozen BZp 3
  have f1 := blk_frozen BZp 4
  have f2 := blk_frozen BZp 5
  have f3 := blk_frozen BZp 6
  go_wp2_with fail
  go_ret
  refine ⟨rfl, ⟨?_, ?_⟩, (((KZ.set_p _ _).set_p _ _).set_p _ _).set_p _ _⟩
  · rw [← gridC_nw x o r R C ⟨false, nm, of, dl⟩ ⟨true, n, off, del⟩ t]
    exact blk_setCell (blk_setCell (blk_setCell (blk_setCell BZp 3 _) 4 _) 5 _) 6 _
  · exact ringAt_setCell_ne (ringAt_setCell_ne (ringAt_setCell_ne (ringAt_setCell_ne BZr hpr 3 _) hpr 4 _) hpr 5 _) hpr 6 _
set_option maxRecDepth 20000 in
set_option maxHeartbeats 400000 in
theorem put_less (p r R C o : Nat) (x : Int) (nw : Slot) (t : Tot) (f : Nat → Slot) (a off del n : Int) (W : World) (hR : 0 < R) (x1 : 0 < x) (x2 : x ≤ 9223372036854775807) (ha : InW a) (hG : GridAt W p r R C o x nw t f) (hpr : p ≠ r)
    (hw : Near off) (hn : clip (a / x) = n) (hs : nw.some = true) (hlt : nw.num = n) (hd : del < nw.del) :
    Calls Try.prog 32 #[.pointer (some ⟨p, 0, none⟩), WV a, .int .i64 off, .int .i64 del] W (PutRet 1 p r R C o x ⟨true, n, off, del⟩ t f W) := by
  have g := hG.g
  have c0 : W.cell? ⟨p, 0, none⟩ = some (.int .i64 x) := by rw [blk_cell g, gridC_lo _ _ _ _ _ _ _ _ (by omega)]; rfl
  have c2 : W.cell? ⟨p, 2, none⟩ = some (.slice (some ⟨r, 0, none⟩) R C) := by rw [blk_cell g, gridC_lo _ _ _ _ _ _ _ _ (by omega)]; rfl
  have LP : LtW p W := LtW.of_cell c2
  have D1 := Lib.hid (fun w => div_any a x ha x1 (by omega) w)
  have C1 := Lib.hid (fun w => clip_any (a / x) (inW_div ha x1) w)
  rw [hn] at C1
  have HG := Lib.hid hG
  have hR' : ((R : Int) == 0) = false := by simp; omega
  obtain ⟨w1, w2⟩ := hw
  clear hG hn ha g
  generalize a / x = q at *
  generalize a % x = rm at *
  go_enter Try.func32, Try.ntmps32
  go_wp2_with fail
  go_cut [9] (fun s9 wx => ∃ b, s9 = .pointer (some ⟨b, 0, none⟩) ∧ Blk wx b 43 #[.int .i64 (hiW q), .int .u64 (loW q)] ∧ Mo W wx)
  case first =>
    as_aux_lemma =>
      refine wp_name ?_
      intro V hV
      have MV : Mo W V := by rw [hV]; exact Mor.out
      have k0 : V.cell? ⟨W.heap.size, 0, none⟩ = some (.int .i64 (hiW a)) := by rw [hV]; simp [go_sem]
      have k1 : V.cell? ⟨W.heap.size, 1, none⟩ = some (.int .u64 (loW a)) := by rw [hV]; simp [go_sem]
      have k2 : V.cell? ⟨p, 0, none⟩ = some (.int .i64 x) := MV.cell.trans c0
      have LV : LtW p V := LtW.of_cell k2
      have LV' : LtW W.heap.size V := LtW.of_cell k0
      have wx : IntKind.u64.wrap x = x := by rw [IntKind.wrap_u64]; omega
      clear hV
      go_region_held3 (fun w' => w'.cell? ⟨W.heap.size, 0, none⟩ = some (.int .i64 (hiW a)) ∧ w'.cell? ⟨W.heap.size, 1, none⟩ = some (.int .u64 (loW a)) ∧ w'.cell? ⟨p, 0, none⟩ = some (.int .i64 x)) (simp [go_sem, k0, k1, k2])
        (first
        | ((with_reducible refine (D1.out _).mono ?_); rintro e w1 ⟨rfl, J3, d3, rfl⟩))
      all_goals (go_wp2_with fail; go_meet; exact ⟨_, rfl, inferInstance, MV.trans Mor.out⟩)
  obtain ⟨b, rfl, Bb, hM⟩ := hcut
  have G1 : GridAt wc p r R C o x nw t f := ⟨hM.blk HG.out.g, hM.ring HG.out.r⟩
  have K1 : Kept2 p r W wc := Kept2.of_mo hM
  have b0 : wc.cell? ⟨b, 0, none⟩ = some (.int .i64 (hiW q)) := by rw [blk_cell Bb]; rfl
  have b1 : wc.cell? ⟨b, 1, none⟩ = some (.int .u64 (loW q)) := by rw [blk_cell Bb]; rfl
  have e3 : wc.cell? ⟨p, 3, none⟩ = some (.bool nw.some) := by rw [blk_cell G1.g, gridC_lo _ _ _ _ _ _ _ _ (by omega)]; rfl
  have e4 : wc.cell? ⟨p, 4, none⟩ = some (.int .i64 nw.num) := by rw [blk_cell G1.g, gridC_lo _ _ _ _ _ _ _ _ (by omega)]; rfl
  have e5 : wc.cell? ⟨p, 5, none⟩ = some (.int .i64 nw.off) := by rw [blk_cell G1.g, gridC_lo _ _ _ _ _ _ _ _ (by omega)]; rfl
  have e6 : wc.cell? ⟨p, 6, none⟩ = some (.int .i64 nw.del) := by rw [blk_cell G1.g, gridC_lo _ _ _ _ _ _ _ _ (by omega)]; rfl
  have Lb : LtW b wc := LtW.of_cell b0
  have Lp : LtW p wc := LtW.of_cell e3
  have hGp := G1.g
  have hGr := G1.r
  clear c0 c2 LP HG D1 Bb hM
  obtain ⟨sm, nm, of, dl⟩ := nw
  simp only at hs hlt hd e3 e4 e5 e6
  subst hs hlt
  have hd' : decide (del < dl) = true := decide_eq_true hd
  clear hd
  go_wp2_with fail
  refine (C1.out _).mono ?_; rintro e w1 ⟨rfl, J4, d4, rfl⟩
  go_upto_region 16 with (fail)
  refine wp_name ?_
  intro Z hY
  have BZp : Blk Z p 128 (gridC x o r R C ⟨true, nm, of, dl⟩ t) := by rw [hY]; infer_instance
  have BZr : RingAt Z r R f := by rw [hY]; infer_instance
  have BZ12 : Blk Z (wc.heap.size + J4.size) 123 (slotC ⟨true, nm, off, del⟩) := by rw [hY]; infer_instance
  have KZ : Kept2 p r W Z := by rw [hY]; exact K1.mo Mor.out
  clear hY C1 K1 G1 hGp hGr b0 b1 e3 e4 e5 e6 Lb Lp
  generalize wc.heap.size + J4.size = x12 at *
  have u0 : Z.cell? ⟨x12, 0, none⟩ = some (.bool true) := by rw [blk_cell BZ12]; rfl
  have u1 : Z.cell? ⟨x12, 1, none⟩ = some (.int .i64 nm) := by rw [blk_cell BZ12]; rfl
  have u2 : Z.cell? ⟨x12, 2, none⟩ = some (.int .i64 off) := by rw [blk_cell BZ12]; rfl
  have u3 : Z.cell? ⟨x12, 3, none⟩ = some (.int .i64 del) := by rw [blk_cell BZ12]; rfl
  have v0 : Z.cell? ⟨p, 3, none⟩ = some (.bool true) := by rw [blk_cell BZp, gridC_lo _ _ _ _ _ _ _ _ (by omega)]; rfl
  have v1 : Z.cell? ⟨p, 4, none⟩ = some (.int .i64 nm) := by rw [blk_cell BZp, gridC_lo _ _ _ _ _ _ _ _ (by omega)]; rfl
  have v2 : Z.cell? ⟨p, 5, none⟩ = some (.int .i64 of) := by rw [blk_cell BZp, gridC_lo _ _ _ _ _ _ _ _ (by omega)]; rfl
  have v3 : Z.cell? ⟨p, 6, none⟩ = some (.int .i64 dl) := by rw [blk_cell BZp, gridC_lo _ _ _ _ _ _ _ _ (by omega)]; rfl
  have f0 := blk_frozen BZp 3
  have f1 := blk_frozen BZp 4
  have f2 := blk_frozen BZp 5
  have f3 := blk_frozen BZp 6
  go_wp2_with fail
  go_ret
  refine ⟨rfl, ⟨?_, ?_⟩, (((KZ.set_p _ _).set_p _ _).set_p _ _).set_p _ _⟩
  · rw [← gridC_nw x o r R C ⟨true, nm, of, dl⟩ ⟨true, nm, off, del⟩ t]
    exact blk_setCell (blk_setCell (blk_setCell (blk_setCell BZp 3 _) 4 _) 5 _) 6 _
  · exact ringAt_setCell_ne (ringAt_setCell_ne (ringAt_setCell_ne (ringAt_setCell_ne BZr hpr 3 _) hpr 4 _) hpr 5 _) hpr 6 _
set_option maxRecDepth 20000 in
set_option maxHeartbeats 400000 in
theorem put_not (p r R C o : Nat) (x : Int) (nw : Slot) (t : Tot) (f : Nat → Slot) (a off del n : Int) (W : World) (hR : 0 < R) (x1 : 0 < x) (x2 : x ≤ 9223372036854775807) (ha : InW a) (hG : GridAt W p r R C o x nw t f)
    (hw : Near off) (hn : clip (a / x) = n) (hs : nw.some = true) (hlt : nw.num = n) (hd : ¬ del < nw.del) :
    Calls Try.prog 32 #[.pointer (some ⟨p, 0, none⟩), WV a, .int .i64 off, .int .i64 del] W (PutRet 1 p r R C o x nw t f W) := by
  have g := hG.g
  have c0 : W.cell? ⟨p, 0, none⟩ = some (.int .i64 x) := by rw [blk_cell g, gridC_lo _ _ _ _ _ _ _ _ (by omega)]; rfl
  have c2 : W.cell? ⟨p, 2, none⟩ = some (.slice (some ⟨r, 0, none⟩) R C) := by rw [blk_cell g, gridC_lo _ _ _ _ _ _ _ _ (by omega)]; rfl
  have LP : LtW p W := LtW.of_cell c2
  have D1 := Lib.hid (fun w => div_any a x ha x1 (by omega) w)
  have C1 := Lib.hid (fun w => clip_any (a / x) (inW_div ha x1) w)
  rw [hn] at C1
  have HG := Lib.hid hG
  have hR' : ((R : Int) == 0) = false := by simp; omega
  obtain ⟨w1, w2⟩ := hw
  clear hG hn ha g
  generalize a / x = q at *
  generalize a % x = rm at *
  go_enter Try.func32, Try.ntmps32
  go_wp2_with fail
  go_cut [9] (fun s9 wx => ∃ b, s9 = .pointer (some ⟨b, 0, none⟩) ∧ Blk wx b 43 #[.int .i64 (hiW q), .int .u64 (loW q)] ∧ Mo W wx)
  case first =>
    as_aux_lemma =>
      refine wp_name ?_
      intro V hV
      have MV : Mo W V := by rw [hV]; exact Mor.out
      have k0 : V.cell? ⟨W.heap.size, 0, none⟩ = some (.int .i64 (hiW a)) := by rw [hV]; simp [go_sem]
      have k1 : V.cell? ⟨W.heap.size, 1, none⟩ = some (.int .u64 (loW a)) := by rw [hV]; simp [go_sem]
      have k2 : V.cell? ⟨p, 0, none⟩ = some (.int .i64 x) := MV.cell.trans c0
      have LV : LtW p V := LtW.of_cell k2
      have LV' : LtW W.heap.size V := LtW.of_cell k0
      have wx : IntKind.u64.wrap x = x := by rw [IntKind.wrap_u64]; omega
      clear hV
      go_region_held3 (fun w' => w'.cell? ⟨W.heap.size, 0, none⟩ = some (.int .i64 (hiW a)) ∧ w'.cell? ⟨W.heap.size, 1, none⟩ = some (.int .u64 (loW a)) ∧ w'.cell? ⟨p, 0, none⟩ = some (.int .i64 x)) (simp [go_sem, k0, k1, k2])
        (first
        | ((with_reducible refine (D1.out _).mono ?_); rintro e w1 ⟨rfl, J3, d3, rfl⟩))
      all_goals (go_wp2_with fail; go_meet; exact ⟨_, rfl, inferInstance, MV.trans Mor.out⟩)
  obtain ⟨b, rfl, Bb, hM⟩ := hcut
  have G1 : GridAt wc p r R C o x nw t f := ⟨hM.blk HG.out.g, hM.ring HG.out.r⟩
  have K1 : Kept2 p r W wc := Kept2.of_mo hM
  have b0 : wc.cell? ⟨b, 0, none⟩ = some (.int .i64 (hiW q)) := by rw [blk_cell Bb]; rfl
  have b1 : wc.cell? ⟨b, 1, none⟩ = some (.int .u64 (loW q)) := by rw [blk_cell Bb]; rfl
  have e3 : wc.cell? ⟨p, 3, none⟩ = some (.bool nw.some) := by rw [blk_cell G1.g, gridC_lo _ _ _ _ _ _ _ _ (by omega)]; rfl
  have e4 : wc.cell? ⟨p, 4, none⟩ = some (.int .i64 nw.num) := by rw [blk_cell G1.g, gridC_lo _ _ _ _ _ _ _ _ (by omega)]; rfl
  have e5 : wc.cell? ⟨p, 5, none⟩ = some (.int .i64 nw.off) := by rw [blk_cell G1.g, gridC_lo _ _ _ _ _ _ _ _ (by omega)]; rfl
  have e6 : wc.cell? ⟨p, 6, none⟩ = some (.int .i64 nw.del) := by rw [blk_cell G1.g, gridC_lo _ _ _ _ _ _ _ _ (by omega)]; rfl
  have Lb : LtW b wc := LtW.of_cell b0
  have Lp : LtW p wc := LtW.of_cell e3
  have hGp := G1.g
  have hGr := G1.r
  clear c0 c2 LP HG D1 Bb hM
  obtain ⟨sm, nm, of, dl⟩ := nw
  simp only at hs hlt hd e3 e4 e5 e6
  subst hs hlt
  have hd' : decide (del < dl) = false := decide_eq_false (by omega)
  clear hd
  go_wp2_with fail
  refine (C1.out _).mono ?_; rintro e w1 ⟨rfl, J4, d4, rfl⟩
  go_wp2_with fail
  go_ret
  exact ⟨rfl, ⟨inferInstance, inferInstance⟩, K1.mo Mor.out⟩
set_option maxRecDepth 20000 in
set_option maxHeartbeats 400000 in
theorem put_late (p r R C o : Nat) (x : Int) (nw : Slot) (t : Tot) (f : Nat → Slot) (a off del n : Int) (W : World) (hR : 0 < R) (x1 : 0 < x) (x2 : x ≤ 9223372036854775807) (ha : InW a) (hG : GridAt W p r R C o x nw t f)
    (hw : Near off) (hn : clip (a / x) = n) (hs : nw.some = true) (hlt : n < nw.num) :
    Calls Try.prog 32 #[.pointer (some ⟨p, 0, none⟩), WV a, .int .i64 off, .int .i64 del] W (PutRet 3 p r R C o x nw t f W) := by
  have g := hG.g
  have c0 : W.cell? ⟨p, 0, none⟩ = some (.int .i64 x) := by rw [blk_cell g, gridC_lo _ _ _ _ _ _ _ _ (by omega)]; rfl
  have c2 : W.cell? ⟨p, 2, none⟩ = some (.slice (some ⟨r, 0, none⟩) R C) := by rw [blk_cell g, gridC_lo _ _ _ _ _ _ _ _ (by omega)]; rfl
  have LP : LtW p W := LtW.of_cell c2
  have D1 := Lib.hid (fun w => div_any a x ha x1 (by omega) w)
  have C1 := Lib.hid (fun w => clip_any (a / x) (inW_div ha x1) w)
  rw [hn] at C1
  have HG := Lib.hid hG
  have hR' : ((R : Int) == 0) = false := by simp; omega
  obtain ⟨w1, w2⟩ := hw
  clear hG hn ha g
  generalize a / x = q at *
  generalize a % x = rm at *
  go_enter Try.func32, Try.ntmps32
  go_wp2_with fail
  go_cut [9] (fun s9 wx => ∃ b, s9 = .pointer (some ⟨b, 0, none⟩) ∧ Blk wx b 43 #[.int .i64 (hiW q), .int .u64 (loW q)] ∧ Mo W wx)
  case first =>
    as_aux_lemma =>
      refine wp_name ?_
      intro V hV
      have MV : Mo W V := by rw [hV]; exact Mor.out
      have k0 : V.cell? ⟨W.heap.size, 0, none⟩ = some (.int .i64 (hiW a)) := by rw [hV]; simp [go_sem]
      have k1 : V.cell? ⟨W.heap.size, 1, none⟩ = some (.int .u64 (loW a)) := by rw [hV]; simp [go_sem]
      have k2 : V.cell? ⟨p, 0, none⟩ = some (.int .i64 x) := MV.cell.trans c0
      have LV : LtW p V := LtW.of_cell k2
      have LV' : LtW W.heap.size V := LtW.of_cell k0
      have wx : IntKind.u64.wrap x = x := by rw [IntKind.wrap_u64]; omega
      clear hV
      go_region_held3 (fun w' => w'.cell? ⟨W.heap.size, 0, none⟩ = some (.int .i64 (hiW a)) ∧ w'.cell? ⟨W.heap.size, 1, none⟩ = some (.int .u64 (loW a)) ∧ w'.cell? ⟨p, 0, none⟩ = some (.int .i64 x)) (simp [go_sem, k0, k1, k2])
        (first
        | ((with_reducible refine (D1.out _).mono ?_); rintro e w1 ⟨rfl, J3, d3, rfl⟩))
      all_goals (go_wp2_with fail; go_meet; exact ⟨_, rfl, inferInstance, MV.trans Mor.out⟩)
  obtain ⟨b, rfl, Bb, hM⟩ := hcut
  have G1 : GridAt wc p r R C o x nw t f := ⟨hM.blk HG.out.g, hM.ring HG.out.r⟩
  have K1 : Kept2 p r W wc := Kept2.of_mo hM
  have b0 : wc.cell? ⟨b, 0, none⟩ = some (.int .i64 (hiW q)) := by rw [blk_cell Bb]; rfl
  have b1 : wc.cell? ⟨b, 1, none⟩ = some (.int .u64 (loW q)) := by rw [blk_cell Bb]; rfl
  have e3 : wc.cell? ⟨p, 3, none⟩ = some (.bool nw.some) := by rw [blk_cell G1.g, gridC_lo _ _ _ _ _ _ _ _ (by omega)]; rfl
  have e4 : wc.cell? ⟨p, 4, none⟩ = some (.int .i64 nw.num) := by rw [blk_cell G1.g, gridC_lo _ _ _ _ _ _ _ _ (by omega)]; rfl
  have e5 : wc.cell? ⟨p, 5, none⟩ = some (.int .i64 nw.off) := by rw [blk_cell G1.g, gridC_lo _ _ _ _ _ _ _ _ (by omega)]; rfl
  have e6 : wc.cell? ⟨p, 6, none⟩ = some (.int .i64 nw.del) := by rw [blk_cell G1.g, gridC_lo _ _ _ _ _ _ _ _ (by omega)]; rfl
  have Lb : LtW b wc := LtW.of_cell b0
  have Lp : LtW p wc := LtW.of_cell e3
  have hGp := G1.g
  have hGr := G1.r
  clear c0 c2 LP HG D1 Bb hM
  obtain ⟨sm, nm, of, dl⟩ := nw
  simp only at hs hlt e3 e4 e5 e6
  subst hs
  go_wp2_with fail
  refine (C1.out _).mono ?_; rintro e w1 ⟨rfl, J4, d4, rfl⟩
  go_wp2_with fail
  go_ret
  exact ⟨rfl, ⟨inferInstance, inferInstance⟩, K1.mo Mor.out⟩
end Go.Proofs.Ythgkhllkhhnlpaa
