/- horologeref32.Grid: how it lies; Put. -/
import Derived.Test.YtfojgjannhhbaaaRow64
import Derived.Test.YtfojgjannhhbaaaAllanM
import Derived.Test.YtfojgjannhhbaaaRefR
import Derived.Test.YtfojgjannhhbaaaFlat3
namespace Go.Proofs.Ytfojgjannhhbaaa
open Go.RowKit

/-- the reference's grid: its block, and three own rows -/
structure RG (w : World) (P base : Nat) (x o : Int) (M : List Slot) (vN vO vD : Value) : Prop where
  g : Blk w P 31 #[.int .i64 x, .int .i64 o, vN, vO, vD]
  n : w.ownsRow base 2 1 vN M.length (i64L (M.map (·.num)))
  off : w.ownsRow base 2 1 vO M.length (i64L (M.map (·.off)))
  del : w.ownsRow base 2 1 vD M.length (i64L (M.map (·.del)))
  no : Sep vN vO
  nd : Sep vN vD
  od : Sep vO vD
set_option maxRecDepth 20000 in
theorem RG.mo {w w' : World} {P base : Nat} {x o : Int} {M : List Slot} {vN vO vD : Value} (h : RG w P base x o M vN vO vD) (k : Mo w w') : RG w' P base x o M vN vO vD :=
  ⟨k.blk h.g, owns_mo h.n k, owns_mo h.off k, owns_mo h.del k, h.no, h.nd, h.od⟩
def appG (ats : Array TypeId) (ty : TypeId) (args : Array Value) : Sem Value := Builtin.append_ ats ty args
set_option maxRecDepth 20000 in
theorem appG_fold (ats : Array TypeId) (ty : TypeId) (args : Array Value) : Builtin.append_ ats ty args = appG ats ty args := rfl
set_option maxRecDepth 20000 in
theorem app_one (w : World) (base n : Nat) (v : Value) (xs : List Int) (y : Int) (h : w.ownsRow base 2 1 v n (i64L xs)) (hn : n ≤ 100000) (hb : base ≤ w.heap.size) :
    ∃ g c w', (appG #[29, 29] 29 #[v, .slice (some ⟨w.heap.size, 0, none⟩) 1 1]).run Try.prog (w.alloc (.cells #[.int .i64 y] 2)) = .ok (.slice (some ⟨g, 0, none⟩) (n + 1) c) w' ∧
      w'.ownsRow base 2 1 (.slice (some ⟨g, 0, none⟩) (n + 1) c) (n + 1) (i64L (xs ++ [y])) ∧ (w.alloc (.cells #[.int .i64 y] 2)).grownBy w' v.ownBlock ∧
      ((Value.slice (some ⟨g, 0, none⟩) (n + 1) c).ownBlock = v.ownBlock ∨ (Value.slice (some ⟨g, 0, none⟩) (n + 1) c).ownBlock = some (w.heap.size + 1)) := by
  obtain ⟨i0, hi0, hz0, hz1, hz2⟩ := info_parts info64R
  obtain ⟨v', w', hr, h1, h2, -, h3⟩ := run_append_own_at (P := Try.prog) (w.alloc (.cells #[.int .i64 y] 2)) base 29 29 2 i0 (.int .i64 0) 1 8 Try.underlying29 hi0 hz0 hz1 hz2 rfl (by decide) _ _ _ (owns_mo h (Mor.out : Mo w (w.alloc (.cells #[.int .i64 y] 2)))) ⟨w.heap.size, 0, none⟩ 1 1 [.int .i64 y] rfl (newsR (inferInstance : Blk (w.alloc (.cells #[.int .i64 y] 2)) w.heap.size 2 #[.int .i64 y]) _ rfl) (by simp [Value.oneCell']) (by unfold maxLen; omega) (by omega) (by simp; omega)
  obtain ⟨g, c, rfl⟩ := row_some h1
  refine ⟨g, c, w', hr, by rw [i64L_snoc]; exact h1, h2, ?_⟩
  rw [World.size_alloc] at h3
  exact h3
set_option maxRecDepth 20000 in
theorem RG.P_ne {w : World} {P base : Nat} {x o : Int} {M : List Slot} {vN vO vD : Value} (h : RG w P base x o M vN vO vD) : vN.ownBlock ≠ some P ∧ vO.ownBlock ≠ some P ∧ vD.ownBlock ≠ some P := by
  have key : ∀ (v : Value) (xs : List Value), w.ownsRow base 2 1 v M.length xs → v.ownBlock ≠ some P := fun v xs hv e => by
    rcases hv.2 with ⟨e0, _⟩ | ⟨g', cap, cur, e0, _, hg, _⟩
    · rw [e0] at e; simp [Value.ownBlock] at e
    · rw [e0] at e
      obtain rfl : g' = P := by simpa [Value.ownBlock] using e
      have := h.g.out.symm.trans hg
      simp at this
  exact ⟨key _ _ h.n, key _ _ h.off, key _ _ h.del⟩
set_option maxRecDepth 20000 in
theorem blk_type_neR {w : World} {g g' : Nat} {t t' : TypeId} {cs cs' : Array Value} (h : Blk w g t cs) (k : Blk w g' t' cs') (ne : t ≠ t') : g ≠ g' := by
  rintro rfl
  have := h.out.symm.trans k.out
  simp at this
  exact ne this.2
/-- what a call that writes into the grid and its rows keeps -/
def KeptR (P base : Nat) (W w : World) : Prop := (∀ q t cs, q ≠ P → t ≠ 2 → Blk W q t cs → Blk w q t cs) ∧ ∀ V : World, V.heap.size ≤ P → V.heap.size ≤ base → Mo V W → Mo V w
set_option maxRecDepth 20000 in
theorem KeptR.of_mo {P base : Nat} {W w : World} (h : Mo W w) : KeptR P base W w := ⟨fun _ _ _ _ _ b => h.blk b, fun _ _ _ k => k.trans h⟩
set_option maxRecDepth 20000 in
theorem KeptR.mo {P base : Nat} {W w w' : World} (h : KeptR P base W w) (k : Mo w w') : KeptR P base W w' := ⟨fun q t cs h1 h2 b => k.blk (h.1 q t cs h1 h2 b), fun V h1 h2 m => (h.2 V h1 h2 m).trans k⟩
set_option maxRecDepth 20000 in
theorem KeptR.grow {P base n : Nat} {W w w' : World} {v : Value} {xs : List Value} (h : KeptR P base W w) (o : w.ownsRow base 2 1 v n xs) (g : w.grownBy w' v.ownBlock) : KeptR P base W w' :=
  ⟨fun q t cs h1 h2 b => blk_grownR (h.1 q t cs h1 h2 b) o g h2, fun V h1 h2 m => mo_grown (h.2 V h1 h2 m) g fun k e => Nat.le_trans h2 (o.lt k e).1⟩
set_option maxRecDepth 20000 in
theorem KeptR.set {P base : Nat} {W w : World} (h : KeptR P base W w) (i : Nat) (u : Value) : KeptR P base W (w.setCell ⟨P, i, none⟩ u) :=
  ⟨fun q t cs h1 h2 b => blk_setCell_ne (h.1 q t cs h1 h2 b) (Ne.symm h1) i u, fun V h1 h2 m => mo_setCell (h.2 V h1 h2 m) h1 i u⟩
set_option maxRecDepth 20000 in
theorem KeptR.cell {P base g : Nat} {W w : World} {cur : Array Value} (h : KeptR P base W w) (b : Blk w g 2 cur) (hb : base ≤ g) (i : Nat) (u : Value) : KeptR P base W (w.setCell ⟨g, i, none⟩ u) :=
  ⟨fun q t cs h1 h2 k => blk_setCell_ne (h.1 q t cs h1 h2 k) (fun e => by
    subst e
    have := b.out.symm.trans (h.1 g t cs h1 h2 k).out
    simp at this
    exact h2 this.2.symm) i u, fun V h1 h2 m => mo_setCell (h.2 V h1 h2 m) (Nat.le_trans h2 hb) i u⟩
/-- what the reference's Put leaves and answers -/
def RPutRet (P base : Nat) (x o : Int) (r : List Slot × Int) (W : World) (e : Ending) (w' : World) : Prop :=
  e = .returned (.int .u8 r.2) ∧ (∃ vN vO vD, RG w' P base x o r.1 vN vO vD) ∧ KeptR P base W w'
set_option maxRecDepth 20000 in
theorem absI_le {x B : Int} (h1 : -B ≤ x) (h2 : x ≤ B) : absI x ≤ B := by unfold absI; split <;> omega
set_option maxRecDepth 20000 in
theorem lt_130W {x : Int} (h : InW x) : absI x < 2 ^ 130 := by
  have := absI_le (x := x) (B := 170141183460469231731687303715884105728) h.1 (by have := h.2; omega)
  have : (170141183460469231731687303715884105728 : Int) < 2 ^ 130 := by decide
  omega
set_option maxRecDepth 20000 in
theorem lt_20W {x : Int} (h : InW x) : absI x < 65536 ^ 20 := by
  have := absI_le (x := x) (B := 170141183460469231731687303715884105728) h.1 (by have := h.2; omega)
  have : (170141183460469231731687303715884105728 : Int) < 65536 ^ 20 := by decide
  omega
set_option maxRecDepth 20000 in
theorem sg_floorW {sg : Bool} {s c : Int} (h : Sg sg s) (hc : 0 < c) : Sg sg (s / c) :=
  ⟨fun k => h.1 (by
    rcases Int.lt_or_le s 0 with d | d
    · exact d
    · have := Int.ediv_nonneg d (show 0 ≤ c by omega)
      omega), fun k => h.2 (by
    rcases Int.lt_or_le 0 s with d | d
    · exact d
    · have : s / c ≤ 0 := by
        have := Int.ediv_le_ediv hc d
        simpa using this
      omega)⟩
set_option maxRecDepth 20000 in
theorem cl_inW {x : Int} (h : InW x) : cl x = x := by
  obtain ⟨h1, h2⟩ := h
  unfold cl
  rw [if_neg (by omega), if_neg (by omega)]
attribute [local go_sem ↓] appG_fold
attribute [local go_sem] blk_cell' blk_frozen'
set_option maxRecDepth 20000 in
set_option maxHeartbeats 16000000 in
theorem rput_any (P base : Nat) (x o : Int) (M : List Slot) (vN vO vD : Value) (a off del : Int) (W : World) (hG : RG W P base x o M vN vO vD) (hl : M.length ≤ 1000) (ha : InW a) (x1 : 1 ≤ x) (x2 : x ≤ 1152921504606846976) (hb : base ≤ W.heap.size) :
    Calls Try.prog 11 #[.pointer (some ⟨P, 0, none⟩), WV a, .int .i64 off, .int .i64 del] W (RPutRet P base x o (putM M (clip (a / x)) off del) W) := by
  obtain ⟨PO, hPO⟩ : ∃ Q, RPutRet P base x o (putM M (clip (a / x)) off del) W = Q := ⟨_, rfl⟩
  rw [hPO]
  have RR := Lib.hid hPO
  clear hPO
  have TA := Lib.hid (fun w => tame_any off w)
  have FR := Lib.hid (fun w => from_any a ha w)
  have OF := Lib.hid (fun w => rof_any x (by omega) (by omega) w)
  rw [decide_eq_false (show ¬ x < 0 by omega), show absI x = x by unfold absI; rw [if_neg (by omega)]] at OF
  have hW := inW_div ha x1
  have FL := Lib.hid (fun w => rfloor_any (fromS a) a x (fromS_sg a) (lt_130W ha) (by omega) (by omega) w)
  have WD := Lib.hid (fun w => rwide_any (fromS a) (a / x) (sg_floorW (fromS_sg a) (by omega)) (lt_20W hW) w)
  rw [cl_inW hW] at WD
  have CP := Lib.hid (fun w => rclip_any (a / x) hW w)
  obtain ⟨n, hn⟩ : ∃ n, clip (a / x) = n := ⟨_, rfl⟩
  rw [hn] at RR CP
  have hnb := clip_bd (a / x)
  rw [hn] at hnb
  clear hn hW
  have HG := Lib.hid hG
  have bP := hG.g
  obtain ⟨AN, cN, eN⟩ := row_sl hG.n
  obtain ⟨AO, cO, eO⟩ := row_sl hG.off
  obtain ⟨AD, cD, eD⟩ := row_sl hG.del
  subst eN eO eD
  clear hG
  go_enter Try.func11, Try.ntmps11
  go_wp2_with fail
  refine (TA.out _).mono ?_
  rintro e w1 ⟨rfl, rfl⟩
  by_cases ct : Tame off
  · rw [decide_eq_true ct]
    go_upto_region 3 with (fail)
    refine wp_region_mo (by kernel_rfl) (by kernel_rfl) ?_
    repeat (go_big_quiet_step (first | (with_reducible exact quiet_mo (FR.out _)) | (with_reducible exact quiet_mo (OF.out _)) | (with_reducible exact quiet_mo (FL.out _)) | (with_reducible exact quiet_mo (WD.out _)) | (with_reducible exact quiet_mo (CP.out _))))
    refine wpQuiet_nil ?_
    intro _ hw'
    obtain ⟨⟨JQ, dQ⟩, hw''⟩ := hw'
    subst hw''
    go_upto_region 4 with (fail)
    refine wp_name ?_
    intro w2 hw2
    have M2 : Mo W w2 := by rw [hw2]; exact Mor.out
    clear hw2
    by_cases hM : M = []
    · have PA : Hid (putM M n off del = (M ++ [⟨true, n, off, del⟩], 1)) := Lib.hid (by unfold putM; rw [if_pos (show Near off from ct), if_pos hM, hM]; rfl)
      have hL0 : (M.length : Int) = 0 := by rw [hM]; rfl
      have w0 : IntKind.i64.wrap ((M.length : Int) - 1) = -1 := by rw [hL0]; decide
      clear hL0 hM
      have bW := M2.blk bP
      go_upto_region 12 with (fail)
      have rN := (HG.out.mo M2).n
      have rO := (HG.out.mo M2).off
      have rD := (HG.out.mo M2).del
      have sNO := HG.out.no
      have sND := HG.out.nd
      have sOD := HG.out.od
      have KP : KeptR P base W w2 := KeptR.of_mo M2
      have hs1 : W.heap.size ≤ w2.heap.size := M2.size
      have hb1 : base ≤ w2.heap.size := Nat.le_trans hb hs1
      clear bP
      have bP := (HG.out.mo M2).g
      obtain ⟨gN, cN, v1, hr1, O1, G1, Q1⟩ := app_one w2 base M.length _ _ n rN (by omega) hb1
      have T1 := owns_mo rN (Mor.out : Mo w2 (w2.alloc (.cells #[.int .i64 n] 2)))
      have bP1 := blk_grownR (inferInstance : Blk (w2.alloc (.cells #[.int .i64 n] 2)) P 31 _) T1 G1 (by decide)
      have qO1 := owns_row (owns_mo rO (Mor.out : Mo w2 (w2.alloc (.cells #[.int .i64 n] 2)))) G1 (fun k e1 e2 => sNO.symm k e1 e2)
      have qD1 := owns_row (owns_mo rD (Mor.out : Mo w2 (w2.alloc (.cells #[.int .i64 n] 2)))) G1 (fun k e1 e2 => sND.symm k e1 e2)
      have sNO' : Sep (.slice (some ⟨gN, 0, none⟩) (M.length + 1) cN) _ := sep_new sNO Q1 (fun k e => by have := (rO.lt k e).2; omega)
      have sND' : Sep (.slice (some ⟨gN, 0, none⟩) (M.length + 1) cN) _ := sep_new sND Q1 (fun k e => by have := (rD.lt k e).2; omega)
      have KK1 := (KP.mo (Mor.out : Mo w2 (w2.alloc (.cells #[.int .i64 n] 2)))).grow T1 G1
      go_upto_region 13 with (fail)
      refine wp_name ?_
      intro wB hw
      have bPn := blk_setCell bP1 2 (.slice (some ⟨gN, 0, none⟩) (M.length + 1) cN)
      rw [← hw] at bPn
      have nrN := owns_cellT O1 bP1 (by decide) 2 (.slice (some ⟨gN, 0, none⟩) (M.length + 1) cN)
      rw [← hw] at nrN
      have nrO := owns_cellT qO1 bP1 (by decide) 2 (.slice (some ⟨gN, 0, none⟩) (M.length + 1) cN)
      rw [← hw] at nrO
      have nrD := owns_cellT qD1 bP1 (by decide) 2 (.slice (some ⟨gN, 0, none⟩) (M.length + 1) cN)
      rw [← hw] at nrD
      have KPn := KK1.set 2 (.slice (some ⟨gN, 0, none⟩) (M.length + 1) cN)
      rw [← hw] at KPn
      have hb2 : base ≤ wB.heap.size := Nat.le_trans hb (by rw [hw]; have h1 := G1.size; have h2 := hs1; simp at h1 ⊢; omega)
      have hs2 : W.heap.size ≤ wB.heap.size := by rw [hw]; have h1 := G1.size; have h2 := hs1; simp at h1 ⊢; omega
      clear hw rN rO rD bP KP hr1 O1 G1 Q1 T1 bP1 qO1 qD1 KK1
      have rN := nrN
      have rO := nrO
      have rD := nrD
      have bP := bPn
      have KP := KPn
      clear nrN nrO nrD bPn KPn
      clear sNO
      have sNO := sNO'
      clear sNO'
      clear sND
      have sND := sND'
      clear sND'
      obtain ⟨gO, cO, v2, hr2, O2, G2, Q2⟩ := app_one wB base M.length _ _ off rO (by omega) hb2
      have T2 := owns_mo rO (Mor.out : Mo wB (wB.alloc (.cells #[.int .i64 off] 2)))
      have bP2 := blk_grownR (inferInstance : Blk (wB.alloc (.cells #[.int .i64 off] 2)) P 31 _) T2 G2 (by decide)
      have qN2 := owns_row (owns_mo rN (Mor.out : Mo wB (wB.alloc (.cells #[.int .i64 off] 2)))) G2 (fun k e1 e2 => sNO k e1 e2)
      have qD2 := owns_row (owns_mo rD (Mor.out : Mo wB (wB.alloc (.cells #[.int .i64 off] 2)))) G2 (fun k e1 e2 => sOD.symm k e1 e2)
      have sNO' : Sep _ (.slice (some ⟨gO, 0, none⟩) (M.length + 1) cO) := (sep_new sNO.symm Q2 (fun k e => by have := (rN.lt k e).2; omega)).symm
      have sOD' : Sep (.slice (some ⟨gO, 0, none⟩) (M.length + 1) cO) _ := sep_new sOD Q2 (fun k e => by have := (rD.lt k e).2; omega)
      have KK2 := (KP.mo (Mor.out : Mo wB (wB.alloc (.cells #[.int .i64 off] 2)))).grow T2 G2
      go_upto_region 14 with (fail)
      refine wp_name ?_
      intro wC hw
      have bPn := blk_setCell bP2 3 (.slice (some ⟨gO, 0, none⟩) (M.length + 1) cO)
      rw [← hw] at bPn
      have nrO := owns_cellT O2 bP2 (by decide) 3 (.slice (some ⟨gO, 0, none⟩) (M.length + 1) cO)
      rw [← hw] at nrO
      have nrN := owns_cellT qN2 bP2 (by decide) 3 (.slice (some ⟨gO, 0, none⟩) (M.length + 1) cO)
      rw [← hw] at nrN
      have nrD := owns_cellT qD2 bP2 (by decide) 3 (.slice (some ⟨gO, 0, none⟩) (M.length + 1) cO)
      rw [← hw] at nrD
      have KPn := KK2.set 3 (.slice (some ⟨gO, 0, none⟩) (M.length + 1) cO)
      rw [← hw] at KPn
      have hb3 : base ≤ wC.heap.size := Nat.le_trans hb (by rw [hw]; have h1 := G2.size; have h2 := hs2; simp at h1 ⊢; omega)
      have hs3 : W.heap.size ≤ wC.heap.size := by rw [hw]; have h1 := G2.size; have h2 := hs2; simp at h1 ⊢; omega
      clear hw rO rN rD bP KP hr2 O2 G2 Q2 T2 bP2 qN2 qD2 KK2
      have rN := nrN
      have rO := nrO
      have rD := nrD
      have bP := bPn
      have KP := KPn
      clear nrN nrO nrD bPn KPn
      clear sNO
      have sNO := sNO'
      clear sNO'
      clear sOD
      have sOD := sOD'
      clear sOD'
      obtain ⟨gD, cD, v3, hr3, O3, G3, Q3⟩ := app_one wC base M.length _ _ del rD (by omega) hb3
      have T3 := owns_mo rD (Mor.out : Mo wC (wC.alloc (.cells #[.int .i64 del] 2)))
      have bP3 := blk_grownR (inferInstance : Blk (wC.alloc (.cells #[.int .i64 del] 2)) P 31 _) T3 G3 (by decide)
      have qN3 := owns_row (owns_mo rN (Mor.out : Mo wC (wC.alloc (.cells #[.int .i64 del] 2)))) G3 (fun k e1 e2 => sND k e1 e2)
      have qO3 := owns_row (owns_mo rO (Mor.out : Mo wC (wC.alloc (.cells #[.int .i64 del] 2)))) G3 (fun k e1 e2 => sOD k e1 e2)
      have sND' : Sep _ (.slice (some ⟨gD, 0, none⟩) (M.length + 1) cD) := (sep_new sND.symm Q3 (fun k e => by have := (rN.lt k e).2; omega)).symm
      have sOD' : Sep _ (.slice (some ⟨gD, 0, none⟩) (M.length + 1) cD) := (sep_new sOD.symm Q3 (fun k e => by have := (rO.lt k e).2; omega)).symm
      have KK3 := (KP.mo (Mor.out : Mo wC (wC.alloc (.cells #[.int .i64 del] 2)))).grow T3 G3
      go_upto_region 15 with (fail)
      refine wp_name ?_
      intro wD hw
      have bPn := blk_setCell bP3 4 (.slice (some ⟨gD, 0, none⟩) (M.length + 1) cD)
      rw [← hw] at bPn
      have nrD := owns_cellT O3 bP3 (by decide) 4 (.slice (some ⟨gD, 0, none⟩) (M.length + 1) cD)
      rw [← hw] at nrD
      have nrN := owns_cellT qN3 bP3 (by decide) 4 (.slice (some ⟨gD, 0, none⟩) (M.length + 1) cD)
      rw [← hw] at nrN
      have nrO := owns_cellT qO3 bP3 (by decide) 4 (.slice (some ⟨gD, 0, none⟩) (M.length + 1) cD)
      rw [← hw] at nrO
      have KPn := KK3.set 4 (.slice (some ⟨gD, 0, none⟩) (M.length + 1) cD)
      rw [← hw] at KPn
      have hb4 : base ≤ wD.heap.size := Nat.le_trans hb (by rw [hw]; have h1 := G3.size; have h2 := hs3; simp at h1 ⊢; omega)
      have hs4 : W.heap.size ≤ wD.heap.size := by rw [hw]; have h1 := G3.size; have h2 := hs3; simp at h1 ⊢; omega
      clear hw rD rN rO bP KP hr3 O3 G3 Q3 T3 bP3 qN3 qO3 KK3
      have rN := nrN
      have rO := nrO
      have rD := nrD
      have bP := bPn
      have KP := KPn
      clear nrN nrO nrD bPn KPn
      clear sND
      have sND := sND'
      clear sND'
      clear sOD
      have sOD := sOD'
      clear sOD'
      go_wp2_with fail
      rw [← RR.out, PA.out]
      refine ⟨rfl, ⟨_, _, _, ⟨bP, ?_, ?_, ?_, sNO, sND, sOD⟩⟩, KP⟩
      · rw [List.length_append, List.map_append]; exact rN
      · rw [List.length_append, List.map_append]; exact rO
      · rw [List.length_append, List.map_append]; exact rD
    · obtain ⟨L, sl, eM⟩ := split_last hM
      have hlen : M.length = L.length + 1 := by rw [eM, List.length_append]; rfl
      have hnw : nwOf M = sl := by rw [eM]; exact (nw_snoc L sl).1
      have w0 : IntKind.i64.wrap ((M.length : Int) - 1) = L.length := by rw [IntKind.wrap_i64]; omega
      have bW := M2.blk bP
      obtain ⟨gN, cN', kN, e1, hbN, BN, _, hN⟩ := row_at (HG.out.mo M2).n (by omega)
      injection e1 with e1 e1a e1b
      subst e1
      clear e1a e1b
      have yN : kN[L.length]? = some (.int .i64 sl.num) := by
        rw [hN L.length (by rw [List.length_map]; omega)]
        simp [eM]
      have p0 : (0 : Int) ≤ L.length := by omega
      have p1 : (L.length : Int) < M.length := by omega
      have d0 : decide ((0 : Int) ≤ L.length) = true := decide_eq_true p0
      clear hN
      have HL := Lib.hid hlen
      have hlp : 0 < M.length := by omega
      clear hlen
      by_cases c1 : n < sl.num
      · have d1 : decide (n < sl.num) = true := decide_eq_true c1
        have PA : Hid (putM M n off del = (M, 3)) := Lib.hid (by unfold putM; rw [if_pos (show Near off from ct), if_neg hM, hnw, if_neg (by omega), if_pos c1])
        clear hM hnw eM
        go_wp2_with fail
        rw [← RR.out, PA.out]
        exact ⟨rfl, ⟨_, _, _, HG.out.mo M2⟩, KeptR.of_mo M2⟩
      · have d1 : decide (n < sl.num) = false := decide_eq_false c1
        by_cases c2 : n = sl.num
        · have d2 : (n == sl.num) = true := by simp [c2]
          obtain ⟨gO, cO', kO, e1, hbO, BO, _, hO⟩ := row_at (HG.out.mo M2).off hlp
          injection e1 with e1 e1a e1b
          subst e1
          clear e1a e1b
          obtain ⟨gD, cD', kD, e1, hbD, BD, _, hD⟩ := row_at (HG.out.mo M2).del hlp
          injection e1 with e1 e1a e1b
          subst e1
          clear e1a e1b
          have yO : kO[L.length]? = some (.int .i64 sl.off) := by
            rw [hO L.length (by rw [List.length_map, HL.out]; omega)]
            simp [eM]
          have yD : kD[L.length]? = some (.int .i64 sl.del) := by
            rw [hD L.length (by rw [List.length_map, HL.out]; omega)]
            simp [eM]
          clear hO hD
          have H2 := Lib.hid (HG.out.mo M2)
          by_cases c3 : del < sl.del
          · have d3 : decide (del < sl.del) = true := decide_eq_true c3
            have PA : Hid (putM M n off del = (L ++ [⟨true, n, off, del⟩], 1)) := Lib.hid (by unfold putM; rw [if_pos (show Near off from ct), if_neg hM, hnw, if_neg (by omega), if_neg (by omega), if_pos c3, eM, (nw_snoc L sl).2])
            have ne1 : gO ≠ gN := fun e => H2.out.no gN rfl (by rw [e]; rfl)
            have ne2 : gD ≠ gN := fun e => H2.out.nd gN rfl (by rw [e]; rfl)
            have ne3 : gD ≠ gO := fun e => H2.out.od gO rfl (by rw [e]; rfl)
            have nP := H2.out.P_ne
            have EM := Lib.hid eM
            have e2 := Lib.hid c2
            clear hM hnw c1 c2 c3 eM
            go_upto_region 10 with (fail)
            refine wp_name ?_
            intro wB hwB
            have bP2 : Blk wB P 31 #[.int .i64 x, .int .i64 o, .slice (some ⟨gN, 0, none⟩) M.length cN, .slice (some ⟨gO, 0, none⟩) M.length cO, .slice (some ⟨gD, 0, none⟩) M.length cD] := by rw [hwB]; exact blk_setCell_ne bW (blk_type_neR BO bW (by decide)) _ _
            have BD2 : Blk wB gD 2 kD := by rw [hwB]; exact blk_setCell_ne BD (Ne.symm ne3) _ _
            have rN2 := owns_cellN (R := gO) H2.out.n (by simp [Value.ownBlock]; exact Ne.symm ne1) L.length (.int .i64 off)
            have rO2 := owns_cellS H2.out.off L.length off
            have rD2 := owns_cellN (R := gO) H2.out.del (by simp [Value.ownBlock]; exact ne3) L.length (.int .i64 off)
            have KP2 := (KeptR.of_mo (P := P) (base := base) M2).cell BO hbO L.length (.int .i64 off)
            rw [← hwB] at rN2 rO2 rD2 KP2
            clear hwB bW BN BO BD yO yN
            go_upto_region 11 with (fail)
            refine wp_name ?_
            intro wC hwC
            have bP3 : Blk wC P 31 #[.int .i64 x, .int .i64 o, .slice (some ⟨gN, 0, none⟩) M.length cN, .slice (some ⟨gO, 0, none⟩) M.length cO, .slice (some ⟨gD, 0, none⟩) M.length cD] := by rw [hwC]; exact blk_setCell_ne bP2 (blk_type_neR BD2 bP2 (by decide)) _ _
            have rN3 := owns_cellN (R := gD) rN2 (by simp [Value.ownBlock]; exact Ne.symm ne2) L.length (.int .i64 del)
            have rO3 := owns_cellN (R := gD) rO2 (by simp [Value.ownBlock]; exact Ne.symm ne3) L.length (.int .i64 del)
            have rD3 := owns_cellS rD2 L.length del
            have KP3 := KP2.cell BD2 hbD L.length (.int .i64 del)
            rw [← hwC] at rN3 rO3 rD3 KP3
            clear hwC bP2 BD2 rN2 rO2 rD2 KP2
            go_wp2_with fail
            rw [← RR.out, PA.out]
            have hl2 : M.length = (L ++ [(⟨true, n, off, del⟩ : Slot)]).length := by rw [HL.out, List.length_append]; rfl
            refine ⟨rfl, ⟨_, _, _, ⟨bP3, ?_, ?_, ?_, H2.out.no, H2.out.nd, H2.out.od⟩⟩, KP3⟩
            · rw [← hl2]
              have q : M.map (·.num) = (L ++ [(⟨true, n, off, del⟩ : Slot)]).map (·.num) := by rw [EM.out, e2.out]; simp
              rw [← q]
              exact rN3
            · rw [← hl2]
              have q : (M.map (·.off)).set L.length off = (L ++ [(⟨true, n, off, del⟩ : Slot)]).map (·.off) := by rw [EM.out]; simp
              rw [← q]
              exact rO3
            · rw [← hl2]
              have q : (M.map (·.del)).set L.length del = (L ++ [(⟨true, n, off, del⟩ : Slot)]).map (·.del) := by rw [EM.out]; simp
              rw [← q]
              exact rD3
          · have d3 : decide (del < sl.del) = false := decide_eq_false c3
            have PA : Hid (putM M n off del = (M, 1)) := Lib.hid (by unfold putM; rw [if_pos (show Near off from ct), if_neg hM, hnw, if_neg (by omega), if_neg (by omega), if_neg c3])
            clear hM hnw eM c2 c1
            go_wp2_with fail
            rw [← RR.out, PA.out]
            exact ⟨rfl, ⟨_, _, _, HG.out.mo M2⟩, KeptR.of_mo M2⟩
        · have d2 : (n == sl.num) = false := by simp [c2]
          have PA : Hid (putM M n off del = (M ++ [⟨true, n, off, del⟩], 1)) := Lib.hid (by unfold putM; rw [if_pos (show Near off from ct), if_neg hM, hnw, if_pos (by omega)])
          clear hM hnw eM c1 c2
          go_upto_region 12 with (fail)
          have rN := (HG.out.mo M2).n
          have rO := (HG.out.mo M2).off
          have rD := (HG.out.mo M2).del
          have sNO := HG.out.no
          have sND := HG.out.nd
          have sOD := HG.out.od
          have KP : KeptR P base W w2 := KeptR.of_mo M2
          have hs1 : W.heap.size ≤ w2.heap.size := M2.size
          have hb1 : base ≤ w2.heap.size := Nat.le_trans hb hs1
          clear bP
          have bP := (HG.out.mo M2).g
          obtain ⟨gN, cN, v1, hr1, O1, G1, Q1⟩ := app_one w2 base M.length _ _ n rN (by omega) hb1
          have T1 := owns_mo rN (Mor.out : Mo w2 (w2.alloc (.cells #[.int .i64 n] 2)))
          have bP1 := blk_grownR (inferInstance : Blk (w2.alloc (.cells #[.int .i64 n] 2)) P 31 _) T1 G1 (by decide)
          have qO1 := owns_row (owns_mo rO (Mor.out : Mo w2 (w2.alloc (.cells #[.int .i64 n] 2)))) G1 (fun k e1 e2 => sNO.symm k e1 e2)
          have qD1 := owns_row (owns_mo rD (Mor.out : Mo w2 (w2.alloc (.cells #[.int .i64 n] 2)))) G1 (fun k e1 e2 => sND.symm k e1 e2)
          have sNO' : Sep (.slice (some ⟨gN, 0, none⟩) (M.length + 1) cN) _ := sep_new sNO Q1 (fun k e => by have := (rO.lt k e).2; omega)
          have sND' : Sep (.slice (some ⟨gN, 0, none⟩) (M.length + 1) cN) _ := sep_new sND Q1 (fun k e => by have := (rD.lt k e).2; omega)
          have KK1 := (KP.mo (Mor.out : Mo w2 (w2.alloc (.cells #[.int .i64 n] 2)))).grow T1 G1
          go_upto_region 13 with (fail)
          refine wp_name ?_
          intro wB hw
          have bPn := blk_setCell bP1 2 (.slice (some ⟨gN, 0, none⟩) (M.length + 1) cN)
          rw [← hw] at bPn
          have nrN := owns_cellT O1 bP1 (by decide) 2 (.slice (some ⟨gN, 0, none⟩) (M.length + 1) cN)
          rw [← hw] at nrN
          have nrO := owns_cellT qO1 bP1 (by decide) 2 (.slice (some ⟨gN, 0, none⟩) (M.length + 1) cN)
          rw [← hw] at nrO
          have nrD := owns_cellT qD1 bP1 (by decide) 2 (.slice (some ⟨gN, 0, none⟩) (M.length + 1) cN)
          rw [← hw] at nrD
          have KPn := KK1.set 2 (.slice (some ⟨gN, 0, none⟩) (M.length + 1) cN)
          rw [← hw] at KPn
          have hb2 : base ≤ wB.heap.size := Nat.le_trans hb (by rw [hw]; have h1 := G1.size; have h2 := hs1; simp at h1 ⊢; omega)
          have hs2 : W.heap.size ≤ wB.heap.size := by rw [hw]; have h1 := G1.size; have h2 := hs1; simp at h1 ⊢; omega
          clear hw rN rO rD bP KP hr1 O1 G1 Q1 T1 bP1 qO1 qD1 KK1
          have rN := nrN
          have rO := nrO
          have rD := nrD
          have bP := bPn
          have KP := KPn
          clear nrN nrO nrD bPn KPn
          clear sNO
          have sNO := sNO'
          clear sNO'
          clear sND
          have sND := sND'
          clear sND'
          obtain ⟨gO, cO, v2, hr2, O2, G2, Q2⟩ := app_one wB base M.length _ _ off rO (by omega) hb2
          have T2 := owns_mo rO (Mor.out : Mo wB (wB.alloc (.cells #[.int .i64 off] 2)))
          have bP2 := blk_grownR (inferInstance : Blk (wB.alloc (.cells #[.int .i64 off] 2)) P 31 _) T2 G2 (by decide)
          have qN2 := owns_row (owns_mo rN (Mor.out : Mo wB (wB.alloc (.cells #[.int .i64 off] 2)))) G2 (fun k e1 e2 => sNO k e1 e2)
          have qD2 := owns_row (owns_mo rD (Mor.out : Mo wB (wB.alloc (.cells #[.int .i64 off] 2)))) G2 (fun k e1 e2 => sOD.symm k e1 e2)
          have sNO' : Sep _ (.slice (some ⟨gO, 0, none⟩) (M.length + 1) cO) := (sep_new sNO.symm Q2 (fun k e => by have := (rN.lt k e).2; omega)).symm
          have sOD' : Sep (.slice (some ⟨gO, 0, none⟩) (M.length + 1) cO) _ := sep_new sOD Q2 (fun k e => by have := (rD.lt k e).2; omega)
          have KK2 := (KP.mo (Mor.out : Mo wB (wB.alloc (.cells #[.int .i64 off] 2)))).grow T2 G2
          go_upto_region 14 with (fail)
          refine wp_name ?_
          intro wC hw
          have bPn := blk_setCell bP2 3 (.slice (some ⟨gO, 0, none⟩) (M.length + 1) cO)
          rw [← hw] at bPn
          have nrO := owns_cellT O2 bP2 (by decide) 3 (.slice (some ⟨gO, 0, none⟩) (M.length + 1) cO)
          rw [← hw] at nrO
          have nrN := owns_cellT qN2 bP2 (by decide) 3 (.slice (some ⟨gO, 0, none⟩) (M.length + 1) cO)
          rw [← hw] at nrN
          have nrD := owns_cellT qD2 bP2 (by decide) 3 (.slice (some ⟨gO, 0, none⟩) (M.length + 1) cO)
          rw [← hw] at nrD
          have KPn := KK2.set 3 (.slice (some ⟨gO, 0, none⟩) (M.length + 1) cO)
          rw [← hw] at KPn
          have hb3 : base ≤ wC.heap.size := Nat.le_trans hb (by rw [hw]; have h1 := G2.size; have h2 := hs2; simp at h1 ⊢; omega)
          have hs3 : W.heap.size ≤ wC.heap.size := by rw [hw]; have h1 := G2.size; have h2 := hs2; simp at h1 ⊢; omega
          clear hw rO rN rD bP KP hr2 O2 G2 Q2 T2 bP2 qN2 qD2 KK2
          have rN := nrN
          have rO := nrO
          have rD := nrD
          have bP := bPn
          have KP := KPn
          clear nrN nrO nrD bPn KPn
          clear sNO
          have sNO := sNO'
          clear sNO'
          clear sOD
          have sOD := sOD'
          clear sOD'
          obtain ⟨gD, cD, v3, hr3, O3, G3, Q3⟩ := app_one wC base M.length _ _ del rD (by omega) hb3
          have T3 := owns_mo rD (Mor.out : Mo wC (wC.alloc (.cells #[.int .i64 del] 2)))
          have bP3 := blk_grownR (inferInstance : Blk (wC.alloc (.cells #[.int .i64 del] 2)) P 31 _) T3 G3 (by decide)
          have qN3 := owns_row (owns_mo rN (Mor.out : Mo wC (wC.alloc (.cells #[.int .i64 del] 2)))) G3 (fun k e1 e2 => sND k e1 e2)
          have qO3 := owns_row (owns_mo rO (Mor.out : Mo wC (wC.alloc (.cells #[.int .i64 del] 2)))) G3 (fun k e1 e2 => sOD k e1 e2)
          have sND' : Sep _ (.slice (some ⟨gD, 0, none⟩) (M.length + 1) cD) := (sep_new sND.symm Q3 (fun k e => by have := (rN.lt k e).2; omega)).symm
          have sOD' : Sep _ (.slice (some ⟨gD, 0, none⟩) (M.length + 1) cD) := (sep_new sOD.symm Q3 (fun k e => by have := (rO.lt k e).2; omega)).symm
          have KK3 := (KP.mo (Mor.out : Mo wC (wC.alloc (.cells #[.int .i64 del] 2)))).grow T3 G3
          go_upto_region 15 with (fail)
          refine wp_name ?_
          intro wD hw
          have bPn := blk_setCell bP3 4 (.slice (some ⟨gD, 0, none⟩) (M.length + 1) cD)
          rw [← hw] at bPn
          have nrD := owns_cellT O3 bP3 (by decide) 4 (.slice (some ⟨gD, 0, none⟩) (M.length + 1) cD)
          rw [← hw] at nrD
          have nrN := owns_cellT qN3 bP3 (by decide) 4 (.slice (some ⟨gD, 0, none⟩) (M.length + 1) cD)
          rw [← hw] at nrN
          have nrO := owns_cellT qO3 bP3 (by decide) 4 (.slice (some ⟨gD, 0, none⟩) (M.length + 1) cD)
          rw [← hw] at nrO
          have KPn := KK3.set 4 (.slice (some ⟨gD, 0, none⟩) (M.length + 1) cD)
          rw [← hw] at KPn
          have hb4 : base ≤ wD.heap.size := Nat.le_trans hb (by rw [hw]; have h1 := G3.size; have h2 := hs3; simp at h1 ⊢; omega)
          have hs4 : W.heap.size ≤ wD.heap.size := by rw [hw]; have h1 := G3.size; have h2 := hs3; simp at h1 ⊢; omega
          clear hw rD rN rO bP KP hr3 O3 G3 Q3 T3 bP3 qN3 qO3 KK3
          have rN := nrN
          have rO := nrO
          have rD := nrD
          have bP := bPn
          have KP := KPn
          clear nrN nrO nrD bPn KPn
          clear sND
          have sND := sND'
          clear sND'
          clear sOD
          have sOD := sOD'
          clear sOD'
          go_wp2_with fail
          rw [← RR.out, PA.out]
          refine ⟨rfl, ⟨_, _, _, ⟨bP, ?_, ?_, ?_, sNO, sND, sOD⟩⟩, KP⟩
          · rw [List.length_append, List.map_append]; exact rN
          · rw [List.length_append, List.map_append]; exact rO
          · rw [List.length_append, List.map_append]; exact rD
  · rw [decide_eq_false ct]
    go_wp2_with fail
    rw [← RR.out]
    unfold putM
    rw [if_neg (show ¬ Near off from ct)]
    exact ⟨rfl, ⟨_, _, _, HG.out.mo Mor.out⟩, KeptR.of_mo Mor.out⟩
end Go.Proofs.Ytfojgjannhhbaaa
