/- horologeref30: Sample. -/
import Derived.Test.YtcflebggepmmcaaMatS
import Derived.Test.YtcflebggepmmcaaRefM
import Derived.Test.YtcflebggepmmcaaRef03
namespace Go.Proofs.Ytcflebggepmmcaa
open Go.RowKit

set_option maxRecDepth 20000 in
theorem run_build_sampR (f : Array Value) (t4 st : Int) [h : SzA f 36] (w : World) : (buildF 45 #[(0, .agg f), (4, WV t4), (8, .int .u8 st)]).run Try.prog w = .ok (.agg (smC f 0 0 0 t4 0 0 0 st)) w := by
  obtain ⟨s, u, hs, hu, rfl⟩ := app36 h.out
  obtain ⟨a0, a1, a2, a3, a4, a5, a6, a7, a8, a9, a10, a11, a12, a13, a14, a15, a16, a17, rfl⟩ := arr18 hs
  obtain ⟨b0, b1, b2, b3, b4, b5, b6, b7, b8, b9, b10, b11, b12, b13, b14, b15, b16, b17, rfl⟩ := arr18 hu
  exact run_build w _ _ _ (by kernel_rfl)
set_option maxRecDepth 20000 in
theorem sm_setw1 (f : Array Value) (t1 t2 t3 t4 o d s st t : Int) [h : SzA f 36] : ((smC f t1 t2 t3 t4 o d s st).setIfInBounds 36 (.int .i64 (hiW t))).setIfInBounds 37 (.int .u64 (loW t)) = smC f t t2 t3 t4 o d s st :=
  (congrArg (fun x : Array Value => x.setIfInBounds 37 (.int .u64 (loW t))) (sm_set f _ 0 _)).trans (sm_set f _ 1 _)
set_option maxRecDepth 20000 in
theorem sm_setw2 (f : Array Value) (t1 t2 t3 t4 o d s st t : Int) [h : SzA f 36] : ((smC f t1 t2 t3 t4 o d s st).setIfInBounds 38 (.int .i64 (hiW t))).setIfInBounds 39 (.int .u64 (loW t)) = smC f t1 t t3 t4 o d s st :=
  (congrArg (fun x : Array Value => x.setIfInBounds 39 (.int .u64 (loW t))) (sm_set f _ 2 _)).trans (sm_set f _ 3 _)
set_option maxRecDepth 20000 in
theorem sm_setw3 (f : Array Value) (t1 t2 t3 t4 o d s st t : Int) [h : SzA f 36] : ((smC f t1 t2 t3 t4 o d s st).setIfInBounds 40 (.int .i64 (hiW t))).setIfInBounds 41 (.int .u64 (loW t)) = smC f t1 t2 t t4 o d s st :=
  (congrArg (fun x : Array Value => x.setIfInBounds 41 (.int .u64 (loW t))) (sm_set f _ 4 _)).trans (sm_set f _ 5 _)
set_option maxRecDepth 20000 in
theorem storeF_wideW (v x : Value) : Instr.storeAt 32 v x = storeF 32 v x := rfl
set_option maxRecDepth 20000 in
theorem run_storeW (w : World) (g i : Nat) (S : Array Value) (x y : Value) [b : Blk w g 45 S] [z : SzA S 48] [q : OneA #[x, y]] (hi : i + 2 ≤ 48) :
    (storeF 32 (.pointer (some ⟨g, i, none⟩)) (.agg #[x, y])).run Try.prog w = .ok () (w.setRow g ((S.setIfInBounds i x).setIfInBounds (i + 1) y)) := by
  have hs : S.toList.length = 48 := by rw [Array.length_toList, z.out]
  have b' : Blk w g 45 S.toList.toArray := by rw [Array.toArray_toList]; exact b
  have z' : SzA S.toList.toArray 48 := ⟨by simp [z.out]⟩
  have y' : SzA [x, y].toArray 2 := ⟨rfl⟩
  have q' : OneA [x, y].toArray := q
  have := run_storeF 32 2 w g i 45 S.toList [x, y] 48 hi
  rw [this]
  congr 2
  apply Array.toList_inj.1
  rw [← spliceL_cons _ _ _ _ (by omega), ← spliceL_cons _ _ _ _ (by rw [List.length_set]; omega)]
  unfold spliceL
  simp
set_option maxRecDepth 20000 in
theorem run_storeW1 (w : World) (g : Nat) (f : Array Value) (t1 t2 t3 t4 o d s st t : Int) [b : Blk w g 45 (smC f t1 t2 t3 t4 o d s st)] [h : SzA f 36] : (storeF 32 (.pointer (some ⟨g, 36, none⟩)) (.agg #[.int .i64 (hiW t), .int .u64 (loW t)])).run Try.prog w = .ok () (w.setRow g (smC f t t2 t3 t4 o d s st)) := by
  rw [run_storeW w g 36 (smC f t1 t2 t3 t4 o d s st) _ _ (by omega), sm_setw1]
set_option maxRecDepth 20000 in
theorem run_storeW2 (w : World) (g : Nat) (f : Array Value) (t1 t2 t3 t4 o d s st t : Int) [b : Blk w g 45 (smC f t1 t2 t3 t4 o d s st)] [h : SzA f 36] : (storeF 32 (.pointer (some ⟨g, 38, none⟩)) (.agg #[.int .i64 (hiW t), .int .u64 (loW t)])).run Try.prog w = .ok () (w.setRow g (smC f t1 t t3 t4 o d s st)) := by
  rw [run_storeW w g 38 (smC f t1 t2 t3 t4 o d s st) _ _ (by omega), sm_setw2]
set_option maxRecDepth 20000 in
theorem run_storeW3 (w : World) (g : Nat) (f : Array Value) (t1 t2 t3 t4 o d s st t : Int) [b : Blk w g 45 (smC f t1 t2 t3 t4 o d s st)] [h : SzA f 36] : (storeF 32 (.pointer (some ⟨g, 40, none⟩)) (.agg #[.int .i64 (hiW t), .int .u64 (loW t)])).run Try.prog w = .ok () (w.setRow g (smC f t1 t2 t t4 o d s st)) := by
  rw [run_storeW w g 40 (smC f t1 t2 t3 t4 o d s st) _ _ (by omega), sm_setw3]
/-- what Sample has in memory -/
structure SmW (W w : World) (gp gk gs : Nat) (D Q K S : Array Value) : Prop where
  d : Blk w W.heap.size 41 D
  r : Blk w (W.heap.size + 1) 45 sm0
  p : Blk w gp 66 Q
  k : Blk w gk 72 K
  s : Blk w gs 45 S
  m : Mo W w
set_option maxRecDepth 20000 in
theorem SmW.mo {W w w' : World} {gp gk gs : Nat} {D Q K S : Array Value} (h : SmW W w gp gk gs D Q K S) (M : Mo w w') : SmW W w' gp gk gs D Q K S := ⟨M.blk h.d, M.blk h.r, M.blk h.p, M.blk h.k, M.blk h.s, h.m.trans M⟩
set_option maxRecDepth 20000 in
theorem SmW.set {W w : World} {gp gk gs : Nat} {D Q K S : Array Value} (h : SmW W w gp gk gs D Q K S) (n0 : W.heap.size + 1 < gp) (n1 : gp < gk) (n2 : gk < gs) (i : Nat) (v : Value) : SmW W (w.setCell ⟨gs, i, none⟩ v) gp gk gs D Q K (S.setIfInBounds i v) :=
  ⟨blk_setCell_ne h.d (by omega) i v, blk_setCell_ne h.r (by omega) i v, blk_setCell_ne h.p (by omega) i v, blk_setCell_ne h.k (by omega) i v, blk_setCell h.s i v, mo_setCell h.m (by omega) i v⟩
set_option maxRecDepth 20000 in
theorem SmW.row {W w : World} {gp gk gs : Nat} {D Q K S : Array Value} (h : SmW W w gp gk gs D Q K S) (n0 : W.heap.size + 1 < gp) (n1 : gp < gk) (n2 : gk < gs) (S' : Array Value) : SmW W (w.setRow gs S') gp gk gs D Q K S' :=
  ⟨blk_setRow_ne h.d (by omega), blk_setRow_ne h.r (by omega), blk_setRow_ne h.p (by omega), blk_setRow_ne h.k (by omega), blk_setRow h.s, mo_setRow h.m (by omega) _⟩
attribute [local go_sem] blk_cell' blk_frozen' dg_at dg_b dg_src dg_dst kf_flow kf_x sm_1 sm_2 sm_3 sm_4 sm_d sm_o sm_s
attribute [local go_sem ↓] loadF_dg loadF_pk storeAt_pk loadF_keyH storeF_key loadF_flow loadF_samp storeF_samp buildF_samp loadF_wide' storeF_wideW
attribute [local go_sem] run_storeW1 run_storeW2 run_storeW3 run_loadF0 run_storePk run_storeF0 run_loadFo run_loadFz run_build_samp0 run_build_sampR
set_option maxRecDepth 20000 in
set_option maxHeartbeats 16000000 in
theorem rsample_any (d : Dg) (v : Value) (W : World) (hv : DgV W d v) (kd : DgOk d) (hl : d.bs.length ≤ 200000) (c4 : (classP d.bs).2 = 4) :
    Calls Try.prog 14 #[v] W fun e w' => e = .returned (.agg (smpC (d.dst ++ d.src) (classP d.bs).1.h.o (classP d.bs).1.h (wI d.at_))) ∧ Mo W w' := by
  have KD := Lib.hid (fun w (m : Mo W w) => kind_any d v w (hv.mo m) kd hl)
  obtain ⟨A, cap, rfl, hb⟩ := hv
  have ok : HdOk (classP d.bs).1.h := by rw [classP_fst]; exact takeP_ok _ hb.byte
  have eK : keyC d (classP d.bs).1.h = kfC (d.dst ++ d.src) (classP d.bs).1.h.o := by
    have h4 := classP_4 c4
    unfold keyC
    rw [if_neg (by omega), if_pos h4]
    rfl
  rw [eK, c4] at KD
  have kf := fits_key kd ok
  rw [eK] at kf
  have za := sz_wide kd.at_
  have zs := sz_ends kd.src
  have zt := sz_ends kd.dst
  have oa := one_of_fits kd.at_
  have os := one_of_fits kd.src
  have ot := one_of_fits kd.dst
  have zf : SzA (d.dst ++ d.src) 36 := ⟨by rw [Array.size_append, zs.out, zt.out]⟩
  have of : OneA (d.dst ++ d.src) := inferInstance
  have zk := key_sz kf
  have ok1 := one_of_fits kf
  have WT := wd_fits kd.at_
  generalize d.dst ++ d.src = f at *
  have hat : d.at_ = #[.int .i64 (hiW (wI d.at_)), .int .u64 (loW (wI d.at_))] := WT.1
  obtain ⟨a, ha⟩ : ∃ a, wI d.at_ = a := ⟨_, rfl⟩
  rw [ha] at hat ⊢
  have ia : InW a := ha ▸ WT.2
  rw [hat] at KD za oa ⊢
  unfold smpC
  have r0 := ok.r
  have q0 := ok.x
  have p0 := ok.o
  have rd := ok.rd
  have rp := ok.rp
  have s0 := ok.s
  generalize (classP d.bs).1.e.length = pe at *
  generalize (classP d.bs).1.m.length = pm at *
  generalize (classP d.bs).1.h = h at *
  have i1 : InW (unf h.o a) := unf_in p0.1 (by omega) ia
  have i2 : InW (unf h.r a) := unf_in r0.1 (by omega) ia
  have i3 : InW (unf h.x a) := unf_in q0.1 (by omega) ia
  have U1 := Lib.hid (fun w => runfold_any h.o a p0.1 (by omega) ia w)
  have U2 := Lib.hid (fun w => runfold_any h.r a r0.1 (by omega) ia w)
  have U3 := Lib.hid (fun w => runfold_any h.x a q0.1 (by omega) ia w)
  have O1 := Lib.hid (fun w => roffset_any _ _ _ _ i1 i2 i3 ia w)
  have D1 := Lib.hid (fun w => rdelay_any _ _ _ _ i1 i2 i3 ia w)
  have bd : -9223372036854775808 ≤ delI (unf h.o a) (unf h.r a) (unf h.x a) a ∧ delI (unf h.o a) (unf h.r a) (unf h.x a) a ≤ 9223372036854775807 := clipO_bd _
  generalize unf h.o a = t1 at *
  generalize unf h.r a = t2 at *
  generalize unf h.x a = t3 at *
  generalize offI t1 t2 t3 a = o at *
  generalize delI t1 t2 t3 a = dl at *
  have OF := Lib.hid (fun w => rof_any dl bd.1 bd.2 w)
  have NG := Lib.hid (fun w => rneg_any true (lim (absI dl)) w)
  have a0 := absI_nonneg dl
  have a1' : absI dl ≤ 9223372036854775808 := by unfold absI; split <;> omega
  have H1 : Hid (∀ w, Calls Try.prog 41 #[NN false (absI dl)] w fun e w' => e = .returned (NN false (absI dl / 2)) ∧ Mo w w') := Lib.hid fun w => by
    have := rhalf_any false (absI dl) (Sg.pos a0) (by rw [absI_pos a0]; omega) w
    rwa [absI_pos a0, absI_pos (show (0 : Int) ≤ absI dl / 2 by omega)] at this
  have O2 := Lib.hid (fun w => rof_pos (65536 * h.rd) (by omega) (by omega) w)
  have H2 : Hid (∀ w, Calls Try.prog 41 #[NN false (65536 * h.rd)] w fun e w' => e = .returned (NN false (65536 * h.rd / 2)) ∧ Mo w w') := Lib.hid fun w => by
    have := rhalf_any false (65536 * h.rd) (Sg.pos (by omega)) (by rw [absI_pos (by omega)]; omega) w
    rwa [absI_pos (show (0 : Int) ≤ 65536 * h.rd by omega), absI_pos (show (0 : Int) ≤ 65536 * h.rd / 2 by omega)] at this
  have A1 : Hid (∀ w, Calls Try.prog 40 #[NN false (absI dl / 2), NN false (65536 * h.rd / 2)] w fun e w' => e = .returned (NN false (absI dl / 2 + 65536 * h.rd / 2)) ∧ Mo w w') := Lib.hid fun w => by
    have := radd_any false false (absI dl / 2) (65536 * h.rd / 2) (Sg.pos (by omega)) (Sg.pos (by omega)) (by rw [absI_pos (by omega)]; omega) (by rw [absI_pos (by omega)]; omega) w
    rwa [absI_pos (show (0 : Int) ≤ absI dl / 2 by omega), absI_pos (show (0 : Int) ≤ 65536 * h.rd / 2 by omega), absI_pos (show (0 : Int) ≤ absI dl / 2 + 65536 * h.rd / 2 by omega)] at this
  have O3 := Lib.hid (fun w => rof_pos (65536 * h.rp) (by omega) (by omega) w)
  have A2 : Hid (∀ w, Calls Try.prog 40 #[NN false (absI dl / 2 + 65536 * h.rd / 2), NN false (65536 * h.rp)] w fun e w' => e = .returned (NN false (absI dl / 2 + 65536 * h.rd / 2 + 65536 * h.rp)) ∧ Mo w w') := Lib.hid fun w => by
    have := radd_any false false (absI dl / 2 + 65536 * h.rd / 2) (65536 * h.rp) (Sg.pos (by omega)) (Sg.pos (by omega)) (by rw [absI_pos (by omega)]; omega) (by rw [absI_pos (by omega)]; omega) w
    rwa [absI_pos (show (0 : Int) ≤ absI dl / 2 + 65536 * h.rd / 2 by omega), absI_pos (show (0 : Int) ≤ 65536 * h.rp by omega), absI_pos (show (0 : Int) ≤ absI dl / 2 + 65536 * h.rd / 2 + 65536 * h.rp by omega)] at this
  have W1 : Hid (∀ w, Calls Try.prog 43 #[NN false (absI dl / 2 + 65536 * h.rd / 2 + 65536 * h.rp)] w fun e w' => e = .returned (WV (absI dl / 2 + 65536 * h.rd / 2 + 65536 * h.rp)) ∧ Mo w w') := Lib.hid fun w => by
    have := rwide_any false (absI dl / 2 + 65536 * h.rd / 2 + 65536 * h.rp) (Sg.pos (by omega)) (by rw [absI_pos (by omega)]; omega) w
    rwa [absI_pos (show (0 : Int) ≤ absI dl / 2 + 65536 * h.rd / 2 + 65536 * h.rp by omega), cl_in (show InW (absI dl / 2 + 65536 * h.rd / 2 + 65536 * h.rp) by unfold InW; omega)] at this
  have C1 := Lib.hid (fun w => rclip_any (absI dl / 2 + 65536 * h.rd / 2 + 65536 * h.rp) (by unfold InW; omega) w)
  have EQ : clip (cl (cl (absI dl) / 2 + rootI h)) = clip (absI dl / 2 + 65536 * h.rd / 2 + 65536 * h.rp) := by
    rw [cl_in (show InW (absI dl) by unfold InW; omega)]
    have e : absI dl / 2 + rootI h = absI dl / 2 + 65536 * h.rd / 2 + 65536 * h.rp := by unfold rootI; omega
    rw [e, cl_in (by unfold InW; omega)]
  rw [EQ]
  have ws1 : IntKind.i64.wrap h.rd = h.rd := by rw [IntKind.wrap_i64]; omega
  have ws2 : IntKind.i64.wrap h.rp = h.rp := by rw [IntKind.wrap_i64]; omega
  have ws3 : IntKind.i64.wrap (65536 * h.rd) = 65536 * h.rd := by rw [IntKind.wrap_i64]; omega
  have ws4 : IntKind.i64.wrap (65536 * h.rp) = 65536 * h.rp := by rw [IntKind.wrap_i64]; omega
  generalize clip (absI dl / 2 + 65536 * h.rd / 2 + 65536 * h.rp) = cp at *
  generalize absI dl / 2 + 65536 * h.rd / 2 + 65536 * h.rp = q3 at *
  generalize absI dl / 2 + 65536 * h.rd / 2 = q2 at *
  generalize 65536 * h.rd / 2 = q1 at *
  generalize absI dl / 2 = q0' at *
  have EA : Hid (¬ dl < 0 → absI dl = dl) := Lib.hid fun c => absI_pos (by omega)
  generalize absI dl = ad at *
  clear EQ
  generalize d.bs.length = nb at *
  generalize d.src = ds at *
  generalize d.dst = dd at *
  clear WT hat ha eK kf kd ok c4 i1 i2 i3 hb hl
  go_enter Try.func14, Try.ntmps14
  go_wp2_with fail
  refine (KD.out _ Mor.out).mono ?_
  rintro e w1 ⟨u, rfl, ⟨a1, c1, a2, c2, rfl⟩, M1⟩
  have bd1 : Blk w1 W.heap.size 41 (dgC #[.int .i64 (hiW a), .int .u64 (loW a)] ds dd (.slice A nb cap)) := M1.blk inferInstance
  have br1 : Blk w1 (W.heap.size + 1) 45 sm0 := M1.blk (blk_sm0 inferInstance rfl)
  have N1 : Mo W w1 := Mo.trans Mor.out M1
  have l1 := br1.lt
  clear M1 KD
  go_upto_region 3 with (fail)
  refine wp_name ?_
  intro w2 hw
  have xd : Blk w2 W.heap.size 41 (dgC #[.int .i64 (hiW a), .int .u64 (loW a)] ds dd (.slice A nb cap)) := by rw [hw]; infer_instance
  have xr : Blk w2 (W.heap.size + 1) 45 sm0 := by rw [hw]; infer_instance
  have xp : Blk w2 w1.heap.size 66 (pkL h (.slice a1 pe c1) (.slice a2 pm c2)).toArray := by rw [hw]; infer_instance
  have xk : Blk w2 (w1.heap.size + 1) 72 (kfC f h.o) := by rw [hw]; infer_instance
  have xs : Blk w2 (w1.heap.size + 1 + 1) 45 (smC f 0 0 0 a 0 0 0 h.s) := by rw [hw]; infer_instance
  have xm : Mo W w2 := by rw [hw]; exact N1.trans Mor.out
  clear hw bd1 br1 N1
  obtain ⟨gp, hgp⟩ : ∃ x, w1.heap.size = x := ⟨_, rfl⟩
  rw [hgp] at xp xk xs l1 ⊢
  obtain ⟨gk, hgk⟩ : ∃ x, gp + 1 = x := ⟨_, rfl⟩
  rw [hgk] at xk xs ⊢
  obtain ⟨gs, hgs⟩ : ∃ x, gk + 1 = x := ⟨_, rfl⟩
  rw [hgs] at xs ⊢
  have n1 : gp < gk := by omega
  have n2 : gk < gs := by omega
  clear hgp hgk hgs
  have X2 : SmW W w2 gp gk gs (dgC #[.int .i64 (hiW a), .int .u64 (loW a)] ds dd (.slice A nb cap)) (pkL h (.slice a1 pe c1) (.slice a2 pm c2)).toArray (kfC f h.o) (smC f 0 0 0 a 0 0 0 h.s) := ⟨xd, xr, xp, xk, xs, xm⟩
  go_wp2_with fail
  refine (U1.out _).mono ?_
  rintro e w2a ⟨rfl, Ma⟩
  have X2a := X2.mo ((Mor.out : Mo w2 _).trans Ma)
  clear Ma xd xr xp xk xs xm X2 U1
  obtain ⟨xd, xr, xp, xk, xs, xm⟩ := X2a
  have X2a : SmW W w2a gp gk gs (dgC #[.int .i64 (hiW a), .int .u64 (loW a)] ds dd (.slice A nb cap)) (pkL h (.slice a1 pe c1) (.slice a2 pm c2)).toArray (kfC f h.o) (smC f 0 0 0 a 0 0 0 h.s) := ⟨xd, xr, xp, xk, xs, xm⟩
  go_upto_region 4 with (fail)
  refine wp_name ?_
  intro w3 hw
  have X3 : SmW W w3 gp gk gs (dgC #[.int .i64 (hiW a), .int .u64 (loW a)] ds dd (.slice A nb cap)) (pkL h (.slice a1 pe c1) (.slice a2 pm c2)).toArray (kfC f h.o) (smC f t1 0 0 a 0 0 0 h.s) := by
    rw [hw]
    exact X2a.row l1 n1 n2 _
  clear hw X2a xd xr xp xk xs xm
  obtain ⟨xd, xr, xp, xk, xs, xm⟩ := X3
  have X3 : SmW W w3 gp gk gs (dgC #[.int .i64 (hiW a), .int .u64 (loW a)] ds dd (.slice A nb cap)) (pkL h (.slice a1 pe c1) (.slice a2 pm c2)).toArray (kfC f h.o) (smC f t1 0 0 a 0 0 0 h.s) := ⟨xd, xr, xp, xk, xs, xm⟩
  go_wp2_with fail
  refine (U2.out _).mono ?_
  rintro e w3a ⟨rfl, Ma⟩
  have X3a := X3.mo ((Mor.out : Mo w3 _).trans Ma)
  clear Ma xd xr xp xk xs xm X3 U2
  obtain ⟨xd, xr, xp, xk, xs, xm⟩ := X3a
  have X3a : SmW W w3a gp gk gs (dgC #[.int .i64 (hiW a), .int .u64 (loW a)] ds dd (.slice A nb cap)) (pkL h (.slice a1 pe c1) (.slice a2 pm c2)).toArray (kfC f h.o) (smC f t1 0 0 a 0 0 0 h.s) := ⟨xd, xr, xp, xk, xs, xm⟩
  go_upto_region 5 with (fail)
  refine wp_name ?_
  intro w4 hw
  have X4 : SmW W w4 gp gk gs (dgC #[.int .i64 (hiW a), .int .u64 (loW a)] ds dd (.slice A nb cap)) (pkL h (.slice a1 pe c1) (.slice a2 pm c2)).toArray (kfC f h.o) (smC f t1 t2 0 a 0 0 0 h.s) := by
    rw [hw]
    exact X3a.row l1 n1 n2 _
  clear hw X3a xd xr xp xk xs xm
  obtain ⟨xd, xr, xp, xk, xs, xm⟩ := X4
  have X4 : SmW W w4 gp gk gs (dgC #[.int .i64 (hiW a), .int .u64 (loW a)] ds dd (.slice A nb cap)) (pkL h (.slice a1 pe c1) (.slice a2 pm c2)).toArray (kfC f h.o) (smC f t1 t2 0 a 0 0 0 h.s) := ⟨xd, xr, xp, xk, xs, xm⟩
  go_wp2_with fail
  refine (U3.out _).mono ?_
  rintro e w4a ⟨rfl, Ma⟩
  have X4a := X4.mo ((Mor.out : Mo w4 _).trans Ma)
  clear Ma xd xr xp xk xs xm X4 U3
  obtain ⟨xd, xr, xp, xk, xs, xm⟩ := X4a
  have X4a : SmW W w4a gp gk gs (dgC #[.int .i64 (hiW a), .int .u64 (loW a)] ds dd (.slice A nb cap)) (pkL h (.slice a1 pe c1) (.slice a2 pm c2)).toArray (kfC f h.o) (smC f t1 t2 0 a 0 0 0 h.s) := ⟨xd, xr, xp, xk, xs, xm⟩
  go_upto_region 6 with (fail)
  refine wp_name ?_
  intro w5 hw
  have X5 : SmW W w5 gp gk gs (dgC #[.int .i64 (hiW a), .int .u64 (loW a)] ds dd (.slice A nb cap)) (pkL h (.slice a1 pe c1) (.slice a2 pm c2)).toArray (kfC f h.o) (smC f t1 t2 t3 a 0 0 0 h.s) := by
    rw [hw]
    exact X4a.row l1 n1 n2 _
  clear hw X4a xd xr xp xk xs xm
  obtain ⟨xd, xr, xp, xk, xs, xm⟩ := X5
  have X5 : SmW W w5 gp gk gs (dgC #[.int .i64 (hiW a), .int .u64 (loW a)] ds dd (.slice A nb cap)) (pkL h (.slice a1 pe c1) (.slice a2 pm c2)).toArray (kfC f h.o) (smC f t1 t2 t3 a 0 0 0 h.s) := ⟨xd, xr, xp, xk, xs, xm⟩
  go_wp2_with fail
  refine (O1.out _).mono ?_
  rintro e w5a ⟨rfl, Ma⟩
  have X5a := X5.mo ((Mor.out : Mo w5 _).trans Ma)
  clear Ma xd xr xp xk xs xm X5 O1
  obtain ⟨xd, xr, xp, xk, xs, xm⟩ := X5a
  have X5a : SmW W w5a gp gk gs (dgC #[.int .i64 (hiW a), .int .u64 (loW a)] ds dd (.slice A nb cap)) (pkL h (.slice a1 pe c1) (.slice a2 pm c2)).toArray (kfC f h.o) (smC f t1 t2 t3 a 0 0 0 h.s) := ⟨xd, xr, xp, xk, xs, xm⟩
  go_upto_region 7 with (fail)
  refine wp_name ?_
  intro w6 hw
  have X6 : SmW W w6 gp gk gs (dgC #[.int .i64 (hiW a), .int .u64 (loW a)] ds dd (.slice A nb cap)) (pkL h (.slice a1 pe c1) (.slice a2 pm c2)).toArray (kfC f h.o) (smC f t1 t2 t3 a o 0 0 h.s) := by
    rw [hw]
    have q := X5a.set l1 n1 n2 44 (.int .i64 o)
    rw [sm_seto] at q
    exact q
  clear hw X5a xd xr xp xk xs xm
  obtain ⟨xd, xr, xp, xk, xs, xm⟩ := X6
  have X6 : SmW W w6 gp gk gs (dgC #[.int .i64 (hiW a), .int .u64 (loW a)] ds dd (.slice A nb cap)) (pkL h (.slice a1 pe c1) (.slice a2 pm c2)).toArray (kfC f h.o) (smC f t1 t2 t3 a o 0 0 h.s) := ⟨xd, xr, xp, xk, xs, xm⟩
  go_wp2_with fail
  refine (D1.out _).mono ?_
  rintro e w6a ⟨rfl, Ma⟩
  have X6a := X6.mo ((Mor.out : Mo w6 _).trans Ma)
  clear Ma xd xr xp xk xs xm X6 D1
  obtain ⟨xd, xr, xp, xk, xs, xm⟩ := X6a
  have X6a : SmW W w6a gp gk gs (dgC #[.int .i64 (hiW a), .int .u64 (loW a)] ds dd (.slice A nb cap)) (pkL h (.slice a1 pe c1) (.slice a2 pm c2)).toArray (kfC f h.o) (smC f t1 t2 t3 a o 0 0 h.s) := ⟨xd, xr, xp, xk, xs, xm⟩
  go_upto_region 8 with (fail)
  refine wp_name ?_
  intro w7 hw
  have X7 : SmW W w7 gp gk gs (dgC #[.int .i64 (hiW a), .int .u64 (loW a)] ds dd (.slice A nb cap)) (pkL h (.slice a1 pe c1) (.slice a2 pm c2)).toArray (kfC f h.o) (smC f t1 t2 t3 a o dl 0 h.s) := by
    rw [hw]
    have q := X6a.set l1 n1 n2 45 (.int .i64 dl)
    rw [sm_setd] at q
    exact q
  clear hw X6a xd xr xp xk xs xm
  obtain ⟨xd, xr, xp, xk, xs, xm⟩ := X7
  have X7 : SmW W w7 gp gk gs (dgC #[.int .i64 (hiW a), .int .u64 (loW a)] ds dd (.slice A nb cap)) (pkL h (.slice a1 pe c1) (.slice a2 pm c2)).toArray (kfC f h.o) (smC f t1 t2 t3 a o dl 0 h.s) := ⟨xd, xr, xp, xk, xs, xm⟩
  have dlt : (decide (dl < 0)) = decide (dl < 0) := rfl
  obtain ⟨sb, hsb⟩ : ∃ b, decide (dl < 0) = b := ⟨_, rfl⟩
  rw [hsb] at OF
  go_wp2_with fail
  refine (OF.out _).mono ?_
  rintro e w8 ⟨rfl, M8⟩
  have X8 := X7.mo ((Mor.out : Mo w7 _).trans M8)
  clear M8 xd xr xp xk xs xm X7 OF
  obtain ⟨xd, xr, xp, xk, xs, xm⟩ := X8
  have X8 : SmW W w8 gp gk gs (dgC #[.int .i64 (hiW a), .int .u64 (loW a)] ds dd (.slice A nb cap)) (pkL h (.slice a1 pe c1) (.slice a2 pm c2)).toArray (kfC f h.o) (smC f t1 t2 t3 a o dl 0 h.s) := ⟨xd, xr, xp, xk, xs, xm⟩
  have l8 := xs.lt
  go_upto_if 68 with (fail)
  go_cut [7] (fun s7 wx => ∃ g7, s7 = .pointer (some ⟨g7, 0, none⟩) ∧ Blk wx g7 103 (numC false (lim ad)) ∧ gs < g7 ∧ SmW W wx gp gk gs (dgC #[.int .i64 (hiW a), .int .u64 (loW a)] ds dd (.slice A nb cap)) (pkL h (.slice a1 pe c1) (.slice a2 pm c2)).toArray (kfC f h.o) (smC f t1 t2 t3 a o dl 0 h.s))
  case first =>
    cases sb with
    | true =>
      go_wp2_with fail
      refine (NG.out _).mono ?_
      rintro e w9 ⟨rfl, M9⟩
      have b9 : Blk w9 w8.heap.size 103 (numC true (lim ad)) := M9.blk inferInstance
      have X9 := X8.mo ((Mor.out : Mo w8 _).trans M9)
      go_wp2_with fail
      go_meet
      obtain ⟨yd, yr, yp, yk, ys, ym⟩ := X9
      exact ⟨_, rfl, blk_setRow b9, l8, blk_setRow_ne yd (by omega), blk_setRow_ne yr (by omega), blk_setRow_ne yp (by omega), blk_setRow_ne yk (by omega), blk_setRow_ne ys (by omega), mo_setRow ym (by omega) _⟩
    | false =>
      go_wp2_with fail
      go_meet
      exact ⟨_, rfl, inferInstance, l8, X8.mo Mor.out⟩
  obtain ⟨g7, rfl, b7, l7, X9⟩ := hcut
  rename World => w9
  clear X8 xd xr xp xk xs xm l8
  obtain ⟨xd, xr, xp, xk, xs, xm⟩ := X9
  have X9 : SmW W w9 gp gk gs (dgC #[.int .i64 (hiW a), .int .u64 (loW a)] ds dd (.slice A nb cap)) (pkL h (.slice a1 pe c1) (.slice a2 pm c2)).toArray (kfC f h.o) (smC f t1 t2 t3 a o dl 0 h.s) := ⟨xd, xr, xp, xk, xs, xm⟩
  go_upto_region 11 with (fail)
  go_cut [8] (fun s8 wx => ∃ g8, s8 = .pointer (some ⟨g8, 0, none⟩) ∧ Blk wx g8 103 (numC false (lim q2)) ∧ w9.heap.size ≤ g8 ∧ Mo w9 wx)
  case first =>
    go_region_held3 (fun w' => MoC w9 w') (first | exact ⟨Mor.out⟩ | exact ⟨mo_setRow Mor.out (Mo.size Mor.out) _⟩)
    (first
      | ((with_reducible refine (H1.out _).mono ?_)
         rintro e wz ⟨rfl, M9⟩
         have iM9 : MoC _ wz := ⟨M9⟩
         have iR9 : Mor w9 wz := ⟨(Mor.out : Mo w9 _).trans M9⟩)
      | ((with_reducible refine (O2.out _).mono ?_)
         rintro e wz ⟨rfl, M9⟩
         have iM9 : MoC _ wz := ⟨M9⟩
         have iR9 : Mor w9 wz := ⟨(Mor.out : Mo w9 _).trans M9⟩)
      | ((with_reducible refine (H2.out _).mono ?_)
         rintro e wz ⟨rfl, M9⟩
         have iM9 : MoC _ wz := ⟨M9⟩
         have iR9 : Mor w9 wz := ⟨(Mor.out : Mo w9 _).trans M9⟩)
      | ((with_reducible refine (A1.out _).mono ?_)
         rintro e wz ⟨rfl, M9⟩
         have iM9 : MoC _ wz := ⟨M9⟩
         have iR9 : Mor w9 wz := ⟨(Mor.out : Mo w9 _).trans M9⟩))
    all_goals (
      go_wp2_with fail
      go_meet
      refine ⟨_, rfl, ?_, ?_, ?_⟩
      · first
          | infer_instance
          | exact blk_setRow inferInstance
      · exact Mo.size Mor.out
      · first
          | exact Mor.out
          | exact mo_setRow Mor.out (Mo.size Mor.out) _)
  obtain ⟨g8, rfl, b8, l9, M10⟩ := hcut
  rename World => w10
  have ls : gs < g8 := Nat.lt_of_lt_of_le xs.lt l9
  have X10 := X9.mo M10
  clear X9 M10 xd xr xp xk xs xm b7
  obtain ⟨xd, xr, xp, xk, xs, xm⟩ := X10
  have X10 : SmW W w10 gp gk gs (dgC #[.int .i64 (hiW a), .int .u64 (loW a)] ds dd (.slice A nb cap)) (pkL h (.slice a1 pe c1) (.slice a2 pm c2)).toArray (kfC f h.o) (smC f t1 t2 t3 a o dl 0 h.s) := ⟨xd, xr, xp, xk, xs, xm⟩
  go_upto_region 12 with (fail)
  refine wp_region_mo_tail 8 (by kernel_rfl) (by kernel_rfl) ?_
  simp only [List.take_succ_cons, List.take_zero, List.drop_succ_cons, List.drop_zero]
  repeat (go_big_quiet_step (first | (with_reducible exact quiet_mo (O3.out _)) | (with_reducible exact quiet_mo (A2.out _))))
  refine wpQuiet_nil ?_
  intro _ hw'
  obtain ⟨⟨J2, d2⟩, hw''⟩ := hw'
  subst hw''
  have b11 : Blk (w10.setRow g8 (numC false (lim q3))) g8 103 (numC false (lim q3)) := blk_setRow b8
  have X11 : SmW W (w10.setRow g8 (numC false (lim q3))) gp gk gs (dgC #[.int .i64 (hiW a), .int .u64 (loW a)] ds dd (.slice A nb cap)) (pkL h (.slice a1 pe c1) (.slice a2 pm c2)).toArray (kfC f h.o) (smC f t1 t2 t3 a o dl 0 h.s) := ⟨blk_setRow_ne xd (by omega), blk_setRow_ne xr (by omega), blk_setRow_ne xp (by omega), blk_setRow_ne xk (by omega), blk_setRow_ne xs (by omega), mo_setRow xm (by omega) _⟩
  obtain ⟨yd, yr, yp, yk, ys, ym⟩ := X11
  go_wp2_with fail
  refine (W1.out _).mono ?_
  rintro e w12 ⟨rfl, M12⟩
  have X12 : SmW W w12 gp gk gs (dgC #[.int .i64 (hiW a), .int .u64 (loW a)] ds dd (.slice A nb cap)) (pkL h (.slice a1 pe c1) (.slice a2 pm c2)).toArray (kfC f h.o) (smC f t1 t2 t3 a o dl 0 h.s) := SmW.mo ⟨yd, yr, yp, yk, ys, ym⟩ ((Mor.out : Mo (w10.setRow g8 (numC false (lim q3))) _).trans M12)
  clear M12 X10 yd yr yp yk ys ym b11 b8
  go_wp2_with fail
  refine (C1.out _).mono ?_
  rintro e w13 ⟨rfl, M13⟩
  have X13 := X12.mo M13
  clear M13 X12
  obtain ⟨xd, xr, xp, xk, xs, xm⟩ := X13
  have X13 : SmW W w13 gp gk gs (dgC #[.int .i64 (hiW a), .int .u64 (loW a)] ds dd (.slice A nb cap)) (pkL h (.slice a1 pe c1) (.slice a2 pm c2)).toArray (kfC f h.o) (smC f t1 t2 t3 a o dl 0 h.s) := ⟨xd, xr, xp, xk, xs, xm⟩
  go_upto_region 14 with (fail)
  refine wp_name ?_
  intro w14 hw
  have X14 : SmW W w14 gp gk gs (dgC #[.int .i64 (hiW a), .int .u64 (loW a)] ds dd (.slice A nb cap)) (pkL h (.slice a1 pe c1) (.slice a2 pm c2)).toArray (kfC f h.o) (smC f t1 t2 t3 a o dl cp h.s) := by
    rw [hw]
    have q := X13.set l1 n1 n2 46 (.int .i64 cp)
    rw [sm_sets] at q
    exact q
  clear hw X13 xd xr xp xk xs xm
  obtain ⟨xd, xr, xp, xk, xs, xm⟩ := X14
  go_wp2_with fail
  refine ret_c1 rfl (W.heap.size + 1) (smC f t1 t2 t3 a o dl cp h.s) rfl rfl (z := inferInstance) (blk_setRow xr) ⟨rfl, mo_setRow xm (by omega) _⟩
end Go.Proofs.Ytcflebggepmmcaa
