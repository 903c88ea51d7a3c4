/- epoch: Copy; horologelaw35.EpochCopies: its closure. -/
import Derived.Test.YtdgmcgfkammioaaEpI
namespace Go.Proofs.Ytdgmcgfkammioaa
open Go.RowKit Go.Maps

set_option maxRecDepth 20000 in
theorem loadF_mk (v : Value) : Instr.loadAt 54 v = loadF 54 v := rfl
attribute [local go_sem] blk_cell' blk_frozen' run_neq_mapE
attribute [local go_sem ↓] loadF_mk
attribute [local go_sem] run_loadF0
set_option maxRecDepth 20000 in
set_option maxHeartbeats 8000000 in
theorem ecopy_any (M B : Nat) (m : MkS) (W : World) (h : MkIs W M B m) :
    Calls Try.prog 19 #[pM M] W fun e w' => ∃ M' B', e = .returned (pM M') ∧ W.heap.size ≤ M' ∧ W.heap.size ≤ B' ∧ MkIs w' M' B' m ∧ Mo W w' := by
  have CL := Lib.hid cloneS_any
  have H := Lib.hid h
  have bm := h.bm
  clear h
  go_enter Try.func19, Try.ntmps19
  go_upto_region 4 with (fail)
  refine wp_name ?_
  intro w1 hw1
  have b1 : Blk w1 W.heap.size 54 #[.int .i64 m.wd, .int .i64 (m.sv : Nat), .bool m.some, .int .i64 m.num, .map (some B)] := by rw [hw1]; infer_instance
  have M1 : Mo W w1 := by rw [hw1]; exact Mor.out
  have bm1 := M1.blk bm
  have ne1 : M ≠ W.heap.size := by have := bm.lt; omega
  generalize hg : W.heap.size = g at *
  clear hw1 bm
  go_wp2_with fail
  refine (CL.out _ B m.sv m.f ((H.out.mo (M1.trans Mor.out)).b)).mono ?_
  rintro e w2 ⟨B', rfl, gB, hb, M2⟩
  have M12 : Mo w1 w2 := (Mor.out : Mo w1 _).trans M2
  have b2 := M12.blk b1
  have lb := hb.lt
  have gB' : g ≤ B' := by
    have h1 := M1.size
    rw [hg] at h1
    refine Nat.le_trans ?_ gB
    exact Nat.le_trans h1 (Mo.size Mor.out)
  have nb : B' ≠ g := fun e => by
    obtain ⟨es, clock, q⟩ := hb.isMap
    have := b2.out
    rw [← e, q] at this
    cases this
  have N2 := M1.trans M12
  clear M2 M12 b1 bm1
  go_upto_region 5 with (fail)
  refine wp_name ?_
  intro w3 hw3
  have hw3' : w3 = w2.setCell ⟨g, 4, none⟩ (.map (some B')) := by rw [hw3]
  have b3 : Blk w3 g 54 #[.int .i64 m.wd, .int .i64 (m.sv : Nat), .bool m.some, .int .i64 m.num, .map (some B')] := by rw [hw3']; exact blk_setCell b2 4 _
  have N3 : Mo W w3 := by rw [hw3']; exact mo_setCell N2 (by omega) _ _
  have hb3 : BestIs w3 B' m.sv m.f := hb.keep (by rw [hw3']; exact heap_setCell_other w2 ⟨g, 4, none⟩ B' _ nb)
  clear hw3 hw3' b2 hb
  go_wp2_with fail
  go_ret
  exact ⟨g, B', rfl, by rw [hg]; exact Nat.le_refl _, by rw [hg]; exact gB', ⟨b3, hb3, H.out.s0, H.out.s1, H.out.w0, H.out.w1, H.out.ok⟩, N3⟩
attribute [local go_sem ↓] loadF_ep storeF_ep
attribute [local go_sem] run_storeF0
set_option maxRecDepth 20000 in
set_option maxHeartbeats 16000000 in
theorem copies1_any (gb : Nat) (A : Option Addr) (cap L : Nat) (l : List PtS) (j : Nat) (M B : Nat) (st : GS) (n' : Int) (eb : Bool) (W : World) (hL : l.length = L) (h : PutsS W A cap l) (hj : j < l.length) (hn : st.n + l[j].on % 4 = n') (bn : -9000000000000 ≤ n' ∧ n' ≤ 9000000000000) (bx : Blk W gb 56 #[.slice A L cap]) (I : MkIs W M B (mkG st))
    (PT : ∀ w, MkIs w M B (mkG st) → Calls Try.prog PutF #[pM M, .int .i64 ((l[j].s % 16).toNat : Nat), WV (n' * 1024), .int .i64 l[j].o, .int .i64 l[j].d] w (PutG M B st 0 l[j] eb w)) :
    Calls Try.prog 20 #[pM M, .int .i64 (j : Nat), .int .i64 n', .pointer (some ⟨gb, 0, none⟩)] W (PutG M B st 0 l[j] eb W) := by
  have HL := Lib.hid hL
  obtain ⟨g, off, rfl, hc⟩ := h.row.resolve_left (fun e => by rw [e] at hj; cases hj)
  obtain ⟨y0, y1, y2, y3⟩ := hc j hj
  have z0 : LtW g W := LtW.of_cell y0
  have ok := h.ok _ (List.getElem_mem hj)
  have e0 : (0 : Int) ≤ j := by omega
  have e1 : (j : Int) < L := by omega
  generalize l[j] = p at *
  have PT' := Lib.hid PT
  have HI := Lib.hid I
  obtain ⟨sn, hsn⟩ : ∃ sn, (p.s % 16).toNat = sn := ⟨_, rfl⟩
  have ok1 := ok.s
  have ok3 := ok.o
  have ok4 := ok.d
  have hst : Int.tmod p.s 16 = (sn : Int) := by rw [Int.tmod_eq_emod_of_nonneg ok1.1]; omega
  have ws : IntKind.i64.wrap (sn : Int) = sn := by rw [IntKind.wrap_i64]; omega
  have wo : IntKind.i64.wrap p.o = p.o := by rw [IntKind.wrap_i64]; omega
  have wd : IntKind.i64.wrap p.d = p.d := by rw [IntKind.wrap_i64]; omega
  rw [hsn] at PT'
  have ML := Lib.hid (fun w => mul_any n' 1024 (by omega) (by omega) (by omega) (by omega) w)
  clear hc PT I hsn ok hj h hL hn
  go_enter Try.func20, Try.ntmps20
  go_upto_region 2 with (fail)
  refine wp_name ?_
  intro w1 hw1
  have b7 : Blk w1 W.heap.size 38 epz := by rw [hw1]; infer_instance
  have b10 : Blk w1 (W.heap.size + 1) 58 #[.int .u8 p.s, .int .u8 p.on, .int .i32 p.o, .int .i32 p.d] := by rw [hw1]; infer_instance
  have M1 : Mo W w1 := by rw [hw1]; exact Mor.out
  have I1 := Lib.hid (HI.out.mo M1)
  have nM : M < W.heap.size := HI.out.bm.lt
  have nB : B < W.heap.size := HI.out.b.lt
  generalize hg : W.heap.size = g7 at *
  clear hw1 y0 y1 y2 y3 z0
  have KPW : ∀ wa wp, Mo w1 wa → KpS (fun i => i = M ∨ i = B) wa wp → KpS (fun i => i = M ∨ i = B) W wp := fun wa wp m k => (KpS.of_mo (M1.trans m)).trans k fun _ _ q => q
  have HOLD : ∀ V, Blk V (g7 + 1) 58 #[.int .u8 p.s, .int .u8 p.on, .int .i32 p.o, .int .i32 p.d] → ∀ w', Mo V w' → w'.cell? ⟨g7 + 1, 0, none⟩ = some (.int .u8 p.s) ∧ w'.cell? ⟨g7 + 1, 2, none⟩ = some (.int .i32 p.o) ∧ w'.cell? ⟨g7 + 1, 3, none⟩ = some (.int .i32 p.d) := fun V b w' m => ⟨by rw [blk_cell (m.blk b)]; rfl, by rw [blk_cell (m.blk b)]; rfl, by rw [blk_cell (m.blk b)]; rfl⟩
  have H1 := HOLD w1 b10
  go_region_held3 (fun w' => w'.cell? ⟨g7 + 1, 0, none⟩ = some (.int .u8 p.s) ∧ w'.cell? ⟨g7 + 1, 2, none⟩ = some (.int .i32 p.o) ∧ w'.cell? ⟨g7 + 1, 3, none⟩ = some (.int .i32 p.d)) (first | exact H1 _ Mor.out | exact H2 _ Mor.out | exact HOLD _ (blk_setRow_ne b10p (by omega)) _ (Mo.refl _))
    (first
      | ((with_reducible refine (ML.out _).mono ?_)
         rintro e wm ⟨rfl, M9⟩
         have iC : MoC _ wm := ⟨M9⟩
         have iM : Mor w1 wm := ⟨(Mor.out : Mo w1 _).trans M9⟩)
      | ((with_reducible refine (PT'.out _ (I1.out.mo Mor.out)).mono ?_)
         rintro e wp ⟨E, A, c, D, d, rfl, J1, J2, IP, KP, TP⟩
         have KW := KPW _ wp Mor.out KP
         have b10p := KpS.blk ((KpS.of_mo (Mor.out : Mo w1 _)).trans KP fun _ _ q => q) b10 (fun q => by rcases q with q | q <;> omega)
         have H2 := HOLD wp b10p
         have iK : KpC M B _ wp := ⟨KP, (I1.out.mo Mor.out).noM (by decide)⟩))
  all_goals (
    go_wp2_with fail
    refine retV_ctt rfl g7 (eC E A c D d) rfl rfl rfl (blk_setRow (inferInstance : Blk wp g7 38 epz)) ?_
    exact ⟨E, A, c, D, d, rfl, J1.setRow (inferInstance : Blk wp g7 38 epz) (by decide) _, J2.setRow (inferInstance : Blk wp g7 38 epz) (by decide) _, IP.setRowE (inferInstance : Blk wp g7 38 epz) _, KW.setRowE (by omega) _, TP⟩)
end Go.Proofs.Ytdgmcgfkammioaa
