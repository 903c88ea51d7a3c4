/- server: Put's walk. -/
import Derived.Test.YthgkhllkhhnlpaaSvI2
namespace Go.Proofs.Ythgkhllkhhnlpaa
open Go.RowKit Go.Maps

/-- a call that wrote a detector alone keeps blocks of steps -/
class KpD (pd : outParam Nat) (v : outParam Value) (a : outParam World) (b : World) : Prop where
  out : KpS (fun i => i = pd ∨ v.ownBlock = some i) a b
  m : ∃ cs, Blk a pd 131 cs
  r : ∃ n xs, a.ownsRow 0 145 2 v n xs
set_option maxRecDepth 20000 in
instance (priority := low) kpd_blk (pd : Nat) (v : Value) (a b : World) (g : Nat) (cs : Array Value) [h : KpD pd v a b] [k : Blk a g 85 cs] : Blk b g 85 cs := h.out.blk k fun q => by
  obtain ⟨_, hm⟩ := h.m
  obtain ⟨_, _, hr⟩ := h.r
  rcases q with q | q
  · exact blk_neT k hm (by decide) q
  · exact own_noTS hr k (by decide) q
set_option maxRecDepth 20000 in
theorem infoSt : (Try.prog.info? 85).map (fun i => (i.zero, i.size, i.bytes)) = some (some (.agg st0c), 3, 24) := by kernel_rfl
def PutTRet (b o n : Nat) (x : Int) (S : Smp) (R : Option Nat → Nat → List Nat → Ent → Nat → Nat → Nat → Value → Value → Value → World → Prop) (e : Ending) (w' : World) : Prop := ∃ q g F E p1 p2 p3 gv sv stv w2 F' gv' sv' stv', e = .returned (.int .i64 (numO q)) ∧ R q g F E p1 p2 p3 gv sv stv w2 ∧ KpS (· ∈ F) w2 w' ∧ (∀ k ∈ F', k ∈ F ∨ w2.heap.size ≤ k) ∧ EntIs w' b g F' o x q.isSome (n + 1) (if q.isSome then putE x E S else sumE E S) p1 p2 p3 gv' sv' stv'
attribute [local go_sem] blk_cell' blk_frozen'
attribute [local go_sem ↓] loadF_addr storeF_addr loadF_st storeF_st buildF_st appS_fold
attribute [local go_sem] run_loadF0 run_storeF0
set_option maxRecDepth 20000 in
set_option maxHeartbeats 8000000 in
theorem tput_core (W : World) (T B go b o n : Nat) (x : Int) (C : CfgS) (lv : Value) (bT : Blk W T 83 (tabC C lv B go)) (S : Smp) (ok : SmpOk S) (R : Option Nat → Nat → List Nat → Ent → Nat → Nat → Nat → Value → Value → Value → World → Prop)
    (OF : ∀ w, Mo W w → Calls Try.prog 30 #[ptrS T, .agg (smpA S)] w fun e w2 => ∃ q g F E p1 p2 p3 gv sv stv, e = .returned (.tuple #[.int .i64 (numO q), ptrS g]) ∧ EntIs w2 b g F o x q.isSome n E p1 p2 p3 gv sv stv ∧ R q g F E p1 p2 p3 gv sv stv w2 ∧ ∀ (i : Nat) (cs : Array Value), W.heap.size ≤ i → Blk w i 45 cs → Blk w2 i 45 cs) (hn : n ≤ 900) (hb : b ≤ W.heap.size) :
    Calls Try.prog 10 #[ptrS T, .agg (smpC S)] W (PutTRet b o n x S R) := by
  obtain ⟨PO, hPO⟩ : ∃ P, PutTRet b o n x S R = P := ⟨_, rfl⟩
  rw [hPO]
  have RR := Lib.hid hPO
  clear hPO
  have iz : SzA (smpC S) 48 := ⟨smpC_size ok.f⟩
  have HOF := Lib.hid OF
  have HOK := Lib.hid ok
  have ld0 : ∀ (w : World) (g : Nat) [Blk w g 45 (smpC S)], (loadF 35 (.pointer (some ⟨g, 18, none⟩))).run Try.prog w = .ok (.agg (smpA S)) w := fun w g _ => run_loadFo 35 17 w g 18 45 (smpC S) 48 (by omega) (by omega)
  have c1 : (smpC S)[44]? = some (.int .i64 S.o) := by
    have := ok.f
    rw [show (44 : Nat) = S.f.size + 8 by omega, Array.getElem?_append_right (by omega)]; simp
  have c2 : (smpC S)[45]? = some (.int .i64 S.d) := by
    have := ok.f
    rw [show (45 : Nat) = S.f.size + 9 by omega, Array.getElem?_append_right (by omega)]; simp
  have c3 : (smpC S)[46]? = some (.int .i64 S.s) := by
    have := ok.f
    rw [show (46 : Nat) = S.f.size + 10 by omega, Array.getElem?_append_right (by omega)]; simp
  have c4 : (smpC S)[42]? = some (.int .i64 (hiW S.t4)) := by
    have := ok.f
    rw [show (42 : Nat) = S.f.size + 6 by omega, Array.getElem?_append_right (by omega)]; simp
  have c5 : (smpC S)[43]? = some (.int .u64 (loW S.t4)) := by
    have := ok.f
    rw [show (43 : Nat) = S.f.size + 7 by omega, Array.getElem?_append_right (by omega)]; simp
  have HC4 := Lib.hid c4
  have HC5 := Lib.hid c5
  have HC1 := Lib.hid c1
  have HC2 := Lib.hid c2
  have HC3 := Lib.hid c3
  have HL := Lib.hid ld0
  clear OF ok ld0 c1 c2 c3 c4 c5
  generalize hsa : smpA S = A at HOF HL
  generalize hsz : smpC S = X at *
  clear hsa
  have iA : SzA X 48 := iz
  go_enter Try.func10, Try.ntmps10
  go_upto_region 3 with (fail)
  refine wp_name ?_
  intro w1 hw1
  have b3 : Blk w1 W.heap.size 45 X := by rw [hw1]; infer_instance
  have M1 : Mo W w1 := by rw [hw1]; exact Mor.out
  have bT1 := M1.blk bT
  have HG3 := Lib.hid (Nat.le_refl W.heap.size)
  generalize hg3 : W.heap.size = g3 at *
  clear hw1 bT
  have l0 := HL.out w1 g3
  go_wp2_with fail
  refine (HOF.out _ M1).mono ?_
  rintro e w2 ⟨q, g, F, E, p1, p2, p3, gv, sv, stv, rfl, HE, r, kb⟩
  have HR := Lib.hid r
  have bE := HE.e
  have HEI := Lib.hid HE
  have b32 := kb g3 X (Nat.le_refl _) b3
  have hc1 := HC1.out
  have hc2 := HC2.out
  have hc3 := HC3.out
  have hy := entC_hi (p1 := ptrS p1) (p2 := ptrS p2) (p3 := ptrS p3) (gv := gv) (sv := sv) (stv := stv) (more := E.more) (c := E.c) HE.ok.sz
  have y1 := hy 0
  have y2 := hy 1
  have y3 := hy 2
  simp only [List.getElem?_cons_zero, List.getElem?_cons_succ] at y1 y2 y3
  clear hy
  clear HE r HOF HL l0 kb
  have fg : g ≠ g3 := blk_neT bE b32 (by decide)
  have N1 := HEI.out.b1
  have N2 := HEI.out.b2
  have N3 := HEI.out.b3
  obtain ⟨kk, k1, G1, G2, G3⟩ := HEI.out.ok.g
  have n12 := HEI.out.n12
  have n13 := HEI.out.n13
  have n23 := HEI.out.n23
  have HG1 := Lib.hid G1
  have HG2 := Lib.hid G2
  have HG3' := Lib.hid G3
  have e1 : p1 ≠ g := blk_neT N1 bE (by decide)
  have e2 : p2 ≠ g := blk_neT N2 bE (by decide)
  have e3 : p3 ≠ g := blk_neT N3 bE (by decide)
  have f1 : p1 ≠ g3 := blk_neT N1 b32 (by decide)
  have f2 : p2 ≠ g3 := blk_neT N2 b32 (by decide)
  have f3 : p3 ≠ g3 := blk_neT N3 b32 (by decide)
  clear G1 G2 G3
  go_wp2_with fail
  have ix0 : ∀ w, (Instr.index 95 (.agg #[.int .i64 S.o, .int .i64 S.d, .int .i64 S.s]) (.int .i64 0)).run Try.prog w = .ok (.int .i64 S.o) w := fun w => by kernel_rfl
  have ix1 : ∀ w, (Instr.index 95 (.agg #[.int .i64 S.o, .int .i64 S.d, .int .i64 S.s]) (.int .i64 1)).run Try.prog w = .ok (.int .i64 S.d) w := fun w => by kernel_rfl
  have ix2 : ∀ w, (Instr.index 95 (.agg #[.int .i64 S.o, .int .i64 S.d, .int .i64 S.s]) (.int .i64 2)).run Try.prog w = .ok (.int .i64 S.s) w := fun w => by kernel_rfl
  go_loopw [36] (fun i wr => ∃ j : Nat, j ≤ 3 ∧ i = .int .i64 j ∧ Blk wr p1 136 (accC true (if 0 < j then addN E.s1 S.o else E.s1)) ∧ Blk wr p2 136 (accC true (if 1 < j then addN E.s2 S.d else E.s2)) ∧ Blk wr p3 136 (accC true (if 2 < j then addN E.s3 S.s else E.s3)) ∧ Blk wr g 99 (entC E.a E.c (ptrS p1) (ptrS p2) (ptrS p3) gv sv stv E.more) ∧ Blk wr g3 45 X ∧ KpS (fun i => i = p1 ∨ i = p2 ∨ i = p3) w2 wr) (fun i _ => 3 - (intOf i).toNat)
  case atStart => exact ⟨0, by omega, rfl, (Mor.out : Mo w2 _).blk N1, (Mor.out : Mo w2 _).blk N2, (Mor.out : Mo w2 _).blk N3, (Mor.out : Mo w2 _).blk bE, (Mor.out : Mo w2 _).blk b32, KpS.of_mo Mor.out⟩
  case round =>
    obtain ⟨j, hj, rfl, B1, B2, B3, BE, BX, K⟩ := hrel
    match j, hj with
    | 0, _ =>
      simp only [show (0 < 0) = False by simp, show (1 < 0) = False by simp, show (2 < 0) = False by simp, if_false] at B1 B2 B3
      have A1 := Lib.hid (fun w (B : Blk w p1 136 (accC true E.s1)) => add_acc p1 E.s1 S.o kk w B HG1.out (by omega))
      have HB := Lib.hid B1
      go_wp2_with fail
      refine (A1.out _ ((Mor.out : Mo wr _).blk HB.out)).mono ?_
      rintro e wz ⟨rfl, Mz⟩
      have D1 := Mz.blk (blk_setRow ((Mor.out : Mo wr _).blk B1))
      have D2 := Mz.blk (blk_setRow_ne ((Mor.out : Mo wr _).blk B2) n12)
      have D3 := Mz.blk (blk_setRow_ne ((Mor.out : Mo wr _).blk B3) n13)
      have DE := Mz.blk (blk_setRow_ne ((Mor.out : Mo wr _).blk BE) e1)
      have DX := Mz.blk (blk_setRow_ne ((Mor.out : Mo wr _).blk BX) f1)
      have KZ : KpS (fun i => i = p1 ∨ i = p2 ∨ i = p3) wr wz := ((KpS.of_mo (S := fun i => i = p1 ∨ i = p2 ∨ i = p3) (Mor.out : Mo wr _)).trans (kpS_setRow (S := fun i => i = p1 ∨ i = p2 ∨ i = p3) _ p1 _ (by simp)) fun _ _ e => e).trans (KpS.of_mo (S := fun i => i = p1 ∨ i = p2 ∨ i = p3) Mz) fun _ _ e => e
      have KY := K.trans KZ fun _ _ e => e
      clear B1 B2 B3 BE BX K Mz KZ A1 HB
      go_wp2_with fail
      go_roundw
      case rel => exact ⟨1, by omega, by first | rfl | go_num, (Mor.out : Mo wz _).blk D1, (Mor.out : Mo wz _).blk D2, (Mor.out : Mo wz _).blk D3, (Mor.out : Mo wz _).blk DE, (Mor.out : Mo wz _).blk DX, KY.trans (KpS.of_mo (S := fun i => i = p1 ∨ i = p2 ∨ i = p3) Mor.out) fun _ _ e => e⟩
      case measure => simp [intOf]
    | 1, _ =>
      simp only [show (0 < 1) = True by simp, show (1 < 1) = False by simp, show (2 < 1) = False by simp, if_true, if_false] at B1 B2 B3
      have A1 := Lib.hid (fun w (B : Blk w p2 136 (accC true E.s2)) => add_acc p2 E.s2 S.d kk w B HG2.out (by omega))
      have HB := Lib.hid B2
      go_wp2_with fail
      refine (A1.out _ ((Mor.out : Mo wr _).blk HB.out)).mono ?_
      rintro e wz ⟨rfl, Mz⟩
      have D1 := Mz.blk (blk_setRow_ne ((Mor.out : Mo wr _).blk B1) (Ne.symm n12))
      have D2 := Mz.blk (blk_setRow ((Mor.out : Mo wr _).blk B2))
      have D3 := Mz.blk (blk_setRow_ne ((Mor.out : Mo wr _).blk B3) n23)
      have DE := Mz.blk (blk_setRow_ne ((Mor.out : Mo wr _).blk BE) e2)
      have DX := Mz.blk (blk_setRow_ne ((Mor.out : Mo wr _).blk BX) f2)
      have KZ : KpS (fun i => i = p1 ∨ i = p2 ∨ i = p3) wr wz := ((KpS.of_mo (S := fun i => i = p1 ∨ i = p2 ∨ i = p3) (Mor.out : Mo wr _)).trans (kpS_setRow (S := fun i => i = p1 ∨ i = p2 ∨ i = p3) _ p2 _ (by simp)) fun _ _ e => e).trans (KpS.of_mo (S := fun i => i = p1 ∨ i = p2 ∨ i = p3) Mz) fun _ _ e => e
      have KY := K.trans KZ fun _ _ e => e
      clear B1 B2 B3 BE BX K Mz KZ A1 HB
      go_wp2_with fail
      go_roundw
      case rel => exact ⟨2, by omega, by first | rfl | go_num, (Mor.out : Mo wz _).blk D1, (Mor.out : Mo wz _).blk D2, (Mor.out : Mo wz _).blk D3, (Mor.out : Mo wz _).blk DE, (Mor.out : Mo wz _).blk DX, KY.trans (KpS.of_mo (S := fun i => i = p1 ∨ i = p2 ∨ i = p3) Mor.out) fun _ _ e => e⟩
      case measure => simp [intOf]
    | 2, _ =>
      simp only [show (0 < 2) = True by simp, show (1 < 2) = True by simp, show (2 < 2) = False by simp, if_true, if_false] at B1 B2 B3
      have A1 := Lib.hid (fun w (B : Blk w p3 136 (accC true E.s3)) => add_acc p3 E.s3 S.s kk w B HG3'.out (by omega))
      have HB := Lib.hid B3
      go_wp2_with fail
      refine (A1.out _ ((Mor.out : Mo wr _).blk HB.out)).mono ?_
      rintro e wz ⟨rfl, Mz⟩
      have D1 := Mz.blk (blk_setRow_ne ((Mor.out : Mo wr _).blk B1) (Ne.symm n13))
      have D2 := Mz.blk (blk_setRow_ne ((Mor.out : Mo wr _).blk B2) (Ne.symm n23))
      have D3 := Mz.blk (blk_setRow ((Mor.out : Mo wr _).blk B3))
      have DE := Mz.blk (blk_setRow_ne ((Mor.out : Mo wr _).blk BE) e3)
      have DX := Mz.blk (blk_setRow_ne ((Mor.out : Mo wr _).blk BX) f3)
      have KZ : KpS (fun i => i = p1 ∨ i = p2 ∨ i = p3) wr wz := ((KpS.of_mo (S := fun i => i = p1 ∨ i = p2 ∨ i = p3) (Mor.out : Mo wr _)).trans (kpS_setRow (S := fun i => i = p1 ∨ i = p2 ∨ i = p3) _ p3 _ (by simp)) fun _ _ e => e).trans (KpS.of_mo (S := fun i => i = p1 ∨ i = p2 ∨ i = p3) Mz) fun _ _ e => e
      have KY := K.trans KZ fun _ _ e => e
      clear B1 B2 B3 BE BX K Mz KZ A1 HB
      go_wp2_with fail
      go_roundw
      case rel => exact ⟨3, by omega, by first | rfl | go_num, (Mor.out : Mo wz _).blk D1, (Mor.out : Mo wz _).blk D2, (Mor.out : Mo wz _).blk D3, (Mor.out : Mo wz _).blk DE, (Mor.out : Mo wz _).blk DX, KY.trans (KpS.of_mo (S := fun i => i = p1 ∨ i = p2 ∨ i = p3) Mor.out) fun _ _ e => e⟩
      case measure => simp [intOf]
    | 3, _ =>
      simp only [show (0 < 3) = True by simp, show (1 < 3) = True by simp, show (2 < 3) = True by simp, if_true] at B1 B2 B3
      have K3 : KpS (· ∈ F) w2 wr := ⟨K.os, K.tape, K.output, K.size, fun i hi nn => K.block i hi fun z => nn (by
        rcases z with rfl | rfl | rfl
        · exact HEI.out.f1
        · exact HEI.out.f2
        · exact HEI.out.f3)⟩
      have I3 := HEI.out.sums S K BE B1 B2 B3
      have HI3 := Lib.hid I3
      clear I3 bE b32 y1 y2 y3 N1 N2 N3 K
      cases q with
      | none =>
        have e9 : numO none = -1 := rfl
        rw [e9]
        go_wp2_with fail
        first | go_ret | skip
        rw [← RR.out]
        exact ⟨none, g, F, E, p1, p2, p3, gv, sv, stv, w2, F, gv, sv, stv, rfl, HR.out, K3.trans (KpS.of_mo (S := (· ∈ F)) Mor.out) fun _ _ e => e, fun k hk => .inl hk, HI3.out.kp (KpS.of_mo (S := fun _ => False) Mor.out) fun _ _ e => e⟩
      | some i =>
        have e9 : numO (some i) = (i : Nat) := rfl
        rw [e9]
        have e91 : decide (((i : Nat) : Int) = -1) = false := decide_eq_false (by omega)
        have e92 : ¬ (((i : Nat) : Int) = -1) := by omega
        obtain ⟨pg, rg, Cg, pd, vs, rfl, rfl, hG, hS, q1, q2, q3, q4⟩ := (HI3.out.limb rfl).ex
        have HGA := Lib.hid hG
        have HSA := Lib.hid hS
        clear hG hS B1 B2 B3
        go_upto_region 11 with (fail)
        refine wp_name ?_
        intro wB hwB
        have MB : Mo wr wB := by rw [hwB]; exact Mor.out
        have BE' := MB.blk BE
        have BX' := MB.blk BX
        clear hwB BE BX
        have z1 : LtW g wB := ⟨BE'.lt⟩
        have z2 : LtW g3 wB := ⟨BX'.lt⟩
        have cE := entC_hi (p1 := ptrS p1) (p2 := ptrS p2) (p3 := ptrS p3) (gv := ptrS pg) (sv := ptrS pd) (stv := stv) (more := E.more) (c := E.c) (a := E.a) HEI.out.ok.sz 3
        simp only [List.getElem?_cons_zero, List.getElem?_cons_succ] at cE
        have HOLD : ∀ w', Blk w' g 99 (entC E.a E.c (ptrS p1) (ptrS p2) (ptrS p3) (ptrS pg) (ptrS pd) stv E.more) → Blk w' g3 45 X → w'.cell? ⟨g, 29, none⟩ = some (ptrS pg) ∧ w'.cell? ⟨g3, 44, none⟩ = some (.int .i64 S.o) ∧ w'.cell? ⟨g3, 45, none⟩ = some (.int .i64 S.d) ∧ w'.cell? ⟨g3, 42, none⟩ = some (.int .i64 (hiW S.t4)) ∧ w'.cell? ⟨g3, 43, none⟩ = some (.int .u64 (loW S.t4)) := fun w' b1 b2 =>
          ⟨(blk_cell b1 29).trans cE, (blk_cell b2 44).trans hc1, (blk_cell b2 45).trans hc2, (blk_cell b2 42).trans HC4.out, (blk_cell b2 43).trans HC5.out⟩
        have h0 := HOLD wB BE' BX'
        have GB := GAt.mo HGA.out MB
        obtain ⟨rcsB, rBB⟩ := ring_tyS GB.at_.r
        have x1 : g ≠ pg := blk_neT BE' GB.at_.g (by decide)
        have x2 : g ≠ rg := blk_neT BE' rBB (by decide)
        have x3 : g3 ≠ pg := blk_neT BX' GB.at_.g (by decide)
        have x4 : g3 ≠ rg := blk_neT BX' rBB (by decide)
        clear GB rBB
        have PM := Lib.hid (fun w m => put_M pg rg Cg o x (sumE E S).M S.t4 S.o S.d w (GAt.mo HGA.out m) (mok_mono HEI.out.ok.m (by omega)) HOK.out.t4)
        go_region_held3 (fun w' => w'.cell? ⟨g, 29, none⟩ = some (ptrS pg) ∧ w'.cell? ⟨g3, 44, none⟩ = some (.int .i64 S.o) ∧ w'.cell? ⟨g3, 45, none⟩ = some (.int .i64 S.d) ∧ w'.cell? ⟨g3, 42, none⟩ = some (.int .i64 (hiW S.t4)) ∧ w'.cell? ⟨g3, 43, none⟩ = some (.int .u64 (loW S.t4))) (first | exact HOLD _ inferInstance inferInstance)
          (first
            | ((with_reducible refine (PM.out _ (MB.trans Mor.out)).mono ?_)
               rintro e wz ⟨rfl, GZ, KZ⟩
               have iE : Blk wz g 99 (entC E.a E.c (ptrS p1) (ptrS p2) (ptrS p3) (ptrS pg) (ptrS pd) stv E.more) := KZ.1 g _ _ x1 x2 inferInstance
               have iX : Blk wz g3 45 X := KZ.1 g3 _ _ x3 x4 inferInstance))
        have KG : KpS (fun i => i = pg ∨ i = rg) wr wz := (KpS.of_mo (MB.trans Mor.out)).trans KZ.2.2 fun _ _ e => e
        have I4 := HI3.out.grid HGA.out HSA.out q1 q2 q3 q4 KG GZ (grdE_ok HEI.out.ok HI3.out.ok rfl x S)
        obtain ⟨pg', rg', Cg', pd', vs', e1', e2', hG', hS', q1', q2', q3', q4'⟩ := (I4.limb rfl).ex
        obtain rfl : pd = pd' := by simpa using e2'
        obtain rfl : pg = pg' := by simpa using e1'
        have HG4 := Lib.hid hG'
        have HS4 := Lib.hid hS'
        have HI4 := Lib.hid I4
        have HKZ := Lib.hid KG
        clear I4 hG' hS' KG GZ KZ e1' e2' HGA HSA HI3 PM
        go_upto_region 12 with (fail)
        refine wp_name ?_
        intro wC hwC
        have MC : Mo wz wC := by rw [hwC]; exact Mor.out
        have BE' := MC.blk iE
        have BX' := MC.blk iX
        have szC : b ≤ wC.heap.size := by
          have t1 := BX'.lt
          omega
        have x4 : ∀ k, vs'.ownBlock = some k → g3 ≠ k := fun k hk e => own_noTS HS4.out.row iX (by decide) (e ▸ hk)
        clear hwC iE iX h0 HOLD x1 x2 x3 x4
        have cE := entC_hi (p1 := ptrS p1) (p2 := ptrS p2) (p3 := ptrS p3) (gv := ptrS pg) (sv := ptrS pd) (stv := stv) (more := E.more) (c := E.c) (a := E.a) HEI.out.ok.sz 4
        simp only [List.getElem?_cons_zero, List.getElem?_cons_succ] at cE
        have HOLD : ∀ w', Blk w' g 99 (entC E.a E.c (ptrS p1) (ptrS p2) (ptrS p3) (ptrS pg) (ptrS pd) stv E.more) → Blk w' g3 45 X → w'.cell? ⟨g, 30, none⟩ = some (ptrS pd) ∧ w'.cell? ⟨g3, 44, none⟩ = some (.int .i64 S.o) ∧ w'.cell? ⟨g3, 45, none⟩ = some (.int .i64 S.d) := fun w' b1 b2 =>
          ⟨(blk_cell b1 30).trans cE, (blk_cell b2 44).trans hc1, (blk_cell b2 45).trans hc2⟩
        have h0 := HOLD wC BE' BX'
        have GB := MC.blk HS4.out.m
        have x1 : g ≠ pd := blk_neT BE' GB (by decide)
        have x3 : g3 ≠ pd := blk_neT BX' GB (by decide)
        have HSC := Lib.hid (ShIs.kpS HS4.out (KpS.of_mo (S := fun _ => False) MC) (fun e => e) (fun _ _ e => e))
        have x2 : ∀ k, vs'.ownBlock = some k → g ≠ k := fun k hk e => own_noTS HSC.out.row BE' (by decide) (e ▸ hk)
        have x4 : ∀ k, vs'.ownBlock = some k → g3 ≠ k := fun k hk e => own_noTS HSC.out.row BX' (by decide) (e ▸ hk)
        clear GB
        obtain ⟨z, hz⟩ : ∃ z, tellD E.D (S.o, S.d) = z := ⟨_, rfl⟩
        obtain ⟨D', hD'⟩ : ∃ D', addD E.D (S.o, S.d) = D' := ⟨_, rfl⟩
        have HZ := Lib.hid hz
        have HD' := Lib.hid hD'
        have SA : Hid (∀ w, Mo wC w → Calls Try.prog 33 #[ptrS pd, .int .i64 S.o, .int .i64 S.d] w fun e w' => ∃ v', e = .returned (.tuple #[.agg (stC z), .bool z.isSome]) ∧ ShIs w' pd b v' D' ∧ KpS (fun i => i = pd ∨ vs'.ownBlock = some i) w w' ∧ (v'.ownBlock = vs'.ownBlock ∨ ∃ k, v'.ownBlock = some k ∧ w.heap.size ≤ k)) := Lib.hid (fun w m => by
          have zz : b ≤ w.heap.size := Nat.le_trans szC m.size
          have := sadd_any pd b vs' E.D (S.o, S.d) w (ShIs.kpS HSC.out (KpS.of_mo (S := fun _ => False) m) (fun e => e) (fun _ _ e => e)) zz ⟨HOK.out.o, HOK.out.d⟩ (by have := HEI.out.ok.d; omega)
          unfold AddSRet at this
          rwa [hz, hD'] at this)
        have HRW0 : Hid (∀ {w wz : World}, KpS (fun i => i = pd ∨ vs'.ownBlock = some i) w wz → Mo wC w → KpD pd vs' w wz) := Lib.hid (fun K m => ⟨K, ⟨_, m.blk HSC.out.m⟩, _, _, owns_baseS (owns_mo HSC.out.row m) (Nat.zero_le _)⟩)
        have ltg : g < wC.heap.size := BE'.lt
        have ltx : g3 < wC.heap.size := BX'.lt
        clear hz hD'
        --@@ r12
        go_cut [9, 10] (fun s9 s10 wx => ∃ g9 v', s9 = ptrS g9 ∧ s10 = .bool z.isSome ∧ Blk wx g9 85 (stC z) ∧ wC.heap.size ≤ g9 ∧ ShIs wx pd b v' D' ∧ KpS (fun i => i = pd ∨ vs'.ownBlock = some i) wC wx ∧ (v'.ownBlock = vs'.ownBlock ∨ ∃ k, v'.ownBlock = some k ∧ wC.heap.size ≤ k))
        case first =>
          go_region_held3 (fun w' => w'.cell? ⟨g, 30, none⟩ = some (ptrS pd) ∧ w'.cell? ⟨g3, 44, none⟩ = some (.int .i64 S.o) ∧ w'.cell? ⟨g3, 45, none⟩ = some (.int .i64 S.d)) (first | exact HOLD _ inferInstance inferInstance | exact HOLD _ (blk_setRow_ne inferInstance (Nat.ne_of_gt ltg)) (blk_setRow_ne inferInstance (Nat.ne_of_gt ltx)) | exact HOLD _ (blk_setRow_ne inferInstance (Nat.ne_of_gt ltgz)) (blk_setRow_ne inferInstance (Nat.ne_of_gt ltxz)))
            (first
              | ((with_reducible refine (SA.out _ Mor.out).mono ?_)
                 rintro e wz ⟨v', rfl, SZ, KZ, VZ⟩
                 have iE : Blk wz g 99 (entC E.a E.c (ptrS p1) (ptrS p2) (ptrS p3) (ptrS pg) (ptrS pd) stv E.more) := KZ.blk inferInstance (fun q => by rcases q with q | q; exact x1 q; exact x2 _ q rfl)
                 have iX : Blk wz g3 45 X := KZ.blk inferInstance (fun q => by rcases q with q | q; exact x3 q; exact x4 _ q rfl)
                 have ltgz : g < wz.heap.size := iE.lt
                 have ltxz : g3 < wz.heap.size := iX.lt
                 have KW := (KpS.of_mo (S := fun i => i = pd ∨ vs'.ownBlock = some i) (Mor.out : Mo wC _)).trans KZ fun _ _ q => q
                 have SW : wC.heap.size ≤ wz.heap.size := KW.size
                 have VW : v'.ownBlock = vs'.ownBlock ∨ ∃ k, v'.ownBlock = some k ∧ wC.heap.size ≤ k := VZ.imp (fun e => e) (fun ⟨k, e1, e2⟩ => ⟨k, e1, Nat.le_trans (Mo.size Mor.out) e2⟩)
                 have iK : KpD pd vs' _ wz := HRW0.out KZ Mor.out))
          all_goals (
            go_wp2_with fail
            go_meet
            first
              | exact ⟨_, v', rfl, rfl, inferInstance, SW, SZ.kpS (S := fun _ => False) (KpS.of_mo Mor.out) (fun e => e) (fun _ _ e => e), KW.trans (KpS.of_mo (S := fun i => i = pd ∨ vs'.ownBlock = some i) Mor.out) fun _ _ e => e, VW⟩
              | exact ⟨_, v', rfl, rfl, blk_setRow (inferInstance : Blk wz _ 85 st0c), Nat.le_refl _, SZ.kpS (S := fun i => i = wC.heap.size) (kpS_setRow _ _ _ rfl) (by have := HSC.out.m.lt; omega) (fun k hk e => own_noTS SZ.row (inferInstance : Blk wz wC.heap.size 85 st0c) (by decide) (e ▸ hk)), KW.trans (kpS_setRow (S := fun i => i = wC.heap.size) _ _ _ rfl) (fun i hi e => by omega), VW⟩)
        obtain ⟨g9, v', rfl, rfl, b9, l9, S5, K5, V5⟩ := hcut
        rename World => wD
        have MCz := KpS.of_mo (S := fun i => i = pd ∨ vs'.ownBlock = some i) MC
        have K6 := MCz.trans K5 fun _ _ e => e
        have hD' := HD'.out
        subst hD'
        have I5 := HI4.out.det HG4.out HS4.out q1' q2' q3' K6 S5 (detE_ok HEI.out.ok HI4.out.ok rfl S)
        obtain ⟨E5, hE5⟩ : ∃ E5, detE (grdE x (sumE E S) S) S = E5 := ⟨_, rfl⟩
        have HI5 : Hid (EntIs wD b g (movF vs' v' F) o x true (n + 1) E5 p1 p2 p3 (ptrS pg) (ptrS pd) stv) := Lib.hid (by rw [← hE5]; exact I5)
        have HME : Hid (E5.more = E.more) := Lib.hid (by rw [← hE5]; rfl)
        have HPE : Hid (putE x E S = stpE E5 z) := Lib.hid (by rw [← hE5, ← HZ.out]; rfl)
        have szD : b ≤ wD.heap.size := Nat.le_trans szC K5.size
        have KF : KpS (· ∈ F) w2 wD := K3.trans ((HKZ.out.mono fun i _ e => (by rcases e with rfl | rfl <;> assumption : i ∈ F)).trans (K6.mono fun i _ e => (by
          rcases e with rfl | e
          · exact q3'
          · exact q4' i e : i ∈ F)) fun _ _ e => e) fun _ _ e => e
        have ff : ∀ k ∈ movF vs' v' F, k ∈ F ∨ w2.heap.size ≤ k := fun k hk => by
          rcases mem_movF.1 hk with e | ⟨h, _⟩
          · rcases V5 with v | ⟨k', e', l'⟩
            · rw [v] at e
              exact .inl (q4' k e)
            · rw [e] at e'
              injection e' with e'
              refine .inr ?_
              rw [e']
              exact Nat.le_trans K3.size (Nat.le_trans HKZ.out.size (Nat.le_trans MC.size l'))
          · exact .inl h
        have HKF := Lib.hid KF
        have HFF := Lib.hid ff
        have HSZ := Lib.hid szD
        obtain ⟨F5, hF5⟩ : ∃ F5, movF vs' v' F = F5 := ⟨_, rfl⟩
        rw [hF5] at HI5 HFF
        have ok5 := HI5.out.ok
        have bE5 := HI5.out.e
        have yy := entC_hi (p1 := ptrS p1) (p2 := ptrS p2) (p3 := ptrS p3) (gv := ptrS pg) (sv := ptrS pd) (stv := stv) (more := E5.more) (c := E5.c) ok5.sz
        have y5 := yy 5
        have y6 := yy 6
        simp only [List.getElem?_cons_zero, List.getElem?_cons_succ] at y5 y6
        have l16 := ok5.st
        have m16 := ok5.more
        have HOK5 := Lib.hid ok5
        clear I5 hE5 szD hF5 ok5 yy ff KF K6 K5 MCz S5 V5 HKZ HI4 HG4 HS4 K3 SA HRW0 HSC cE HOLD h0 x1 x3 x2 x4 ltg ltx MC BE' BX' q1' q2' q3' q4' hc1 hc2 hc3 HC1 HC2 HC3 HC4 HC5 HD'
        clear e1 e2 e3 f1 f2 f3 n12 n13 n23 HG1 HG2 HG3' HG3 ix0 ix1 ix2 MB
        --@@ z
        obtain ⟨A, c, rfl⟩ := own_slS HI5.out.row
        cases z with
        | none =>
          have e13 : (none : Option (Nat × Int × Int)).isSome = false := rfl
          rw [e13]
          --@@ none
          go_wp2_with fail
          first | go_ret | skip
          rw [← RR.out]
          exact ⟨some i, g, F, E, p1, p2, p3, _, _, _, w2, F5, ptrS pg, ptrS pd, .slice A E5.st.length c, rfl, HR.out, HKF.out, HFF.out, by
            show EntIs wD b g F5 o x true (n + 1) (putE x E S) p1 p2 p3 (ptrS pg) (ptrS pd) (.slice A E5.st.length c)
            rw [HPE.out]
            exact HI5.out⟩
        | some z =>
          obtain ⟨zk, zx, zy⟩ := z
          replace b9 : Blk wD g9 85 #[.int .u64 (zk : Nat), .int .i64 zx, .int .i64 zy] := b9
          have e13 : (some (zk, zx, zy) : Option (Nat × Int × Int)).isSome = true := rfl
          rw [e13]
          obtain ⟨nl, hnl⟩ : ∃ nl, E5.st.length = nl := ⟨_, rfl⟩
          rw [hnl] at y5 y6 l16 bE5
          have HNL := Lib.hid hnl
          clear hnl
          by_cases c16 : nl < 16
          · have d16 : decide ((nl : Int) < 16) = true := decide_eq_true (by omega)
            have d16' : decide (nl < 16) = true := decide_eq_true c16
            have HC16 := Lib.hid c16
            clear c16
            --@@ app
            go_upto_region 14 with (fail)
            have bE5' : Blk wD g 99 (entC E5.a E5.c (ptrS p1) (ptrS p2) (ptrS p3) (ptrS pg) (ptrS pd) (.slice A nl c) E5.more) := bE5
            have R0 : wD.ownsRow b 85 3 (.slice A nl c) nl (stpL E5.st) := by
              have := HI5.out.row
              rwa [HNL.out] at this
            obtain ⟨i0, hi, hz0, hz1, hz2⟩ := info_parts infoSt
            have hT := (Mor.out : Mo wD (wD.alloc (.cells #[.int .u64 (zk : Nat), .int .i64 zx, .int .i64 zy] 85)).drew)
            have szD := HSZ.out
            obtain ⟨v6, w6, hrun6, hown6, hgrow6, -, hob6⟩ := run_append_own_at (P := Try.prog) ((wD.alloc (.cells #[.int .u64 (zk : Nat), .int .i64 zx, .int .i64 zy] 85)).drew) b 60 60 85 i0 (.agg st0c) 3 24 Try.underlying60 hi hz0 hz1 hz2 rfl (by decide) _ _ _ (owns_mo R0 hT) ⟨wD.heap.size, 0, none⟩ 1 1 [.int .u64 (zk : Nat), .int .i64 zx, .int .i64 zy] rfl (news_of_blkS (t := 85) (cs := #[.int .u64 (zk : Nat), .int .i64 zx, .int .i64 zy]) inferInstance _ rfl) (by intro u hu; simp at hu; rcases hu with rfl | rfl | rfl <;> rfl) (by unfold maxLen; omega) (by omega) (by simp; omega)
            replace hrun6 : (appS #[60, 60] 60 #[.slice A nl c, .slice (some ⟨wD.heap.size, 0, none⟩) 1 1]).run Try.prog _ = .ok v6 w6 := hrun6
            obtain ⟨g6, c6, ev6⟩ := own_succS hown6
            subst ev6
            have K6 : KpS (fun i => (Value.slice A nl c).ownBlock = some i) wD w6 := (KpS.of_mo hT).trans (kpS_grownS hgrow6) fun _ _ q => q
            have E6 := K6.blk bE5' (own_noTS R0 bE5' (by decide))
            have y6' := blk_cell E6 31
            rw [show (31 : Nat) = 26 + 5 from rfl, y5] at y6'
            have f6 := blk_frozen E6 31
            clear hgrow6 hT bE5'
            go_region
            go_wp2_with fail
            rw [← RR.out]
            have KM : KpS (fun i => i = g) w6 (w6.setCell ⟨g, 31, none⟩ (.slice (some ⟨g6, 0, none⟩) (nl + 1) c6)) := kpS_setCell w6 g 31 _ rfl
            have BM := blk_setCell E6 31 (.slice (some ⟨g6, 0, none⟩) (nl + 1) c6)
            rw [entC_steps HOK5.out.sz] at BM
            have HI6 : EntIs wD b g F5 o x true (n + 1) E5 p1 p2 p3 (ptrS pg) (ptrS pd) (.slice A nl c) := by
              have := HI5.out
              rwa [HNL.out] at this
            have K7 : KpS (fun i => i = g ∨ (Value.slice A nl c).ownBlock = some i) wD (w6.setCell ⟨g, 31, none⟩ (.slice (some ⟨g6, 0, none⟩) (nl + 1) c6)) := (K6.mono fun _ _ e => .inr e).trans KM fun _ _ e => .inl e
            have R7 : (w6.setCell ⟨g, 31, none⟩ (.slice (some ⟨g6, 0, none⟩) (nl + 1) c6)).ownsRow b 85 3 (.slice (some ⟨g6, 0, none⟩) (nl + 1) c6) (E5.st ++ [(zk, zx, zy)]).length (stpL (E5.st ++ [(zk, zx, zy)])) := by
              rw [stpL_snoc, List.length_append, List.length_singleton, HNL.out]
              exact own_kpS hown6 KM fun k hk e => own_noTS hown6 E6 (by decide) (e ▸ hk)
            have I7 := HI6.stp (m := n + 1) (st' := E5.st ++ [(zk, zx, zy)]) K7 (fun _ e => e) BM R7 (by have := HOK5.out; exact ⟨this.a, this.sz, this.c, this.g, this.m, this.d, by have := HC16.out; have h2 := HNL.out; show (E5.st ++ [(zk, zx, zy)]).length ≤ 16; rw [List.length_append, List.length_singleton]; omega, this.more⟩)
            exact ⟨some i, g, F, E, p1, p2, p3, _, _, _, w2, movF (.slice A nl c) (.slice (some ⟨g6, 0, none⟩) (nl + 1) c6) F5, ptrS pg, ptrS pd, .slice (some ⟨g6, 0, none⟩) (nl + 1) c6, rfl, HR.out, HKF.out.trans K7 (fun k hk e => by
              have hm : k ∈ F5 := by
                rcases e with rfl | e
                · exact HI6.fg
                · exact HI6.fr k e
              exact (HFF.out k hm).resolve_right (by omega)), (fun k hk => by
              rcases mem_movF.1 hk with e | ⟨h, _⟩
              · rcases hob6 with v | v
                · rw [v] at e
                  exact HFF.out k (HI6.fr k e)
                · rw [v] at e
                  injection e with e
                  refine .inr (e ▸ ?_)
                  have := HKF.out.size
                  simp
                  omega
              · exact HFF.out k h), by
              have e : (if (some i).isSome = true then putE x E S else sumE E S) = { E5 with st := E5.st ++ [(zk, zx, zy)] } := by
                rw [show (if (some i).isSome = true then putE x E S else sumE E S) = putE x E S from rfl, HPE.out]
                unfold stpE
                simp only
                rw [if_pos (by rw [HNL.out]; exact HC16.out)]
              rw [e]
              exact I7⟩
          · have d16 : decide ((nl : Int) < 16) = false := decide_eq_false (by omega)
            have d16' : decide (nl < 16) = false := decide_eq_false c16
            have wm : IntKind.i64.wrap ((E5.more : Int) + 1) = ((E5.more + 1 : Nat) : Int) := by rw [IntKind.wrap_i64]; omega
            have HC16 := Lib.hid c16
            clear c16
            --@@ more
            go_wp2_with fail
            rw [← RR.out]
            have KM : KpS (fun i => i = g) wD (wD.setCell ⟨g, 32, none⟩ (.int .i64 ((E5.more : Int) + 1))) := kpS_setCell wD g 32 _ rfl
            have BM := blk_setCell bE5 32 (.int .i64 ((E5.more : Int) + 1))
            rw [show ((E5.more : Int) + 1) = ((E5.more + 1 : Nat) : Int) by omega] at BM
            rw [entC_more HOK5.out.sz, ← HNL.out] at BM
            have IM := HI5.out.mor (m := n + 1) KM (fun _ e => e) BM (by have := HOK5.out; exact ⟨this.a, this.sz, this.c, this.g, this.m, this.d, this.st, by have := HEI.out.ok.more; have h2 := HME.out; show E5.more + 1 ≤ n + 1; omega⟩)
            exact ⟨some i, g, F, E, p1, p2, p3, _, _, _, w2, F5, ptrS pg, ptrS pd, .slice A E5.st.length c, rfl, HR.out, HKF.out.trans KM (fun i _ e => e ▸ HEI.out.fg), HFF.out, by
              have e : (if (some i).isSome = true then putE x E S else sumE E S) = { E5 with more := E5.more + 1 } := by
                rw [show (if (some i).isSome = true then putE x E S else sumE E S) = putE x E S from rfl, HPE.out]
                unfold stpE
                simp only
                rw [if_neg (by rw [HNL.out]; exact HC16.out)]
              rw [e]
              exact IM⟩
end Go.Proofs.Ythgkhllkhhnlpaa
