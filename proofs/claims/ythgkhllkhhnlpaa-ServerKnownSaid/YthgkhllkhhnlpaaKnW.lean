/- horologelaw36.ServerKnown: the walk. -/
import Derived.Test.YthgkhllkhhnlpaaKnA
import Derived.Test.YthgkhllkhhnlpaaApP
namespace Go.Proofs.Ythgkhllkhhnlpaa
open Go.RowKit Go.Maps

set_option maxRecDepth 20000 in
theorem new_badC (C : CfgS) (W : World) (t : C.st ≤ 9223372036854775807) (h : C.sv < 1 ∨ 256 < C.sv ∨ C.sl < 1 ∨ 1152921504606846976 < C.sl ∨ C.oc < 1 ∨ 10 < C.oc ∨ C.sh < 1 ∨ 64 < C.sh ∨ C.st < 0) :
    Calls Try.prog 9 #[.agg (cfC C)] W fun e w' => e = .returned (.tuple #[nilS, .int .i64 2]) ∧ Mo W w' := tnew_out C W h t
abbrev cA : CfgS := ⟨0, 0, 257, 1, 1, 0, 1, 0, 0, 0, 0, 0⟩
abbrev cB : CfgS := ⟨0, 0, 1, 0, 1, 0, 1, 0, 0, 0, 0, 0⟩
abbrev cC' : CfgS := ⟨0, 0, 1, 1, 11, 0, 1, 0, 0, 0, 0, 0⟩
abbrev cD' : CfgS := ⟨0, 0, 1, 1, 1, 0, 1, -1, 0, 0, 0, 0⟩
abbrev cZ : CfgS := ⟨0, 0, 0, 0, 0, 0, 0, 0, 0, 0, 0, 0⟩
set_option maxRecDepth 20000 in
theorem loadF_cfgK (v : Value) : Instr.loadAt 26 v = loadF 26 v := rfl
set_option maxRecDepth 20000 in
theorem run_build_cfg0 (w : World) : (buildF 26 #[]).run Try.prog w = .ok (.agg (cfC cZ)) w := run_build w _ _ _ (by kernel_rfl)
set_option maxRecDepth 20000 in
theorem run_build_tab0 (w : World) : (Instr.build 83 #[]).run Try.prog w = .ok (.agg tab0) w := run_build w _ _ _ (by kernel_rfl)
set_option maxRecDepth 20000 in
theorem run_build_cnt0 (w : World) : (Instr.build 56 #[]).run Try.prog w = .ok (.agg (c9 fun _ => 0)) w := run_build w _ _ _ (by kernel_rfl)
set_option maxRecDepth 20000 in
theorem eqlF_cntK (x y : Value) : binOp .eql 56 x y = eqlF 56 x y := rfl
set_option maxRecDepth 20000 in
theorem run_eql_cnt (w : World) (c : Nat → Int) (h : ∀ k, 0 ≤ c k ∧ c k ≤ 1000000) : (eqlF 56 (.agg (c9 c)) (.agg (c9 c))).run Try.prog w = .ok (.bool true) w := by
  have := run_eql_flat fl_cnt w (fits_cnt c h) (fits_cnt c h)
  rw [eqA_same] at this
  exact this
set_option maxRecDepth 20000 in
theorem srv_cntK {Z a : Array Value} {c : Nat → Int} {S1 S2 S3 : St} {tv sv : Value} {mr : Nat} (hZ : SrvL a c S1 S2 S3 tv sv mr Z) (w : World) (g : Nat) (b : Blk w g 62 Z) : (loadF 56 (.pointer (some ⟨g, 17, none⟩))).run Try.prog w = .ok (.agg (c9 c)) w := by
  have iz : SzA Z 47 := ⟨hZ.sz⟩
  rw [run_loadFo 56 9 w g 17 62 Z 47 (by omega) (by omega), hZ.cn]
set_option maxRecDepth 20000 in
theorem cnt_keep {w0 wa wc wd : World} {S S' : Nat → Prop} {g : Nat} {t : Nat} {X : Array Value} (K : KpS S wc wd) (fr : ∀ k, S' k → S k ∨ wc.heap.size ≤ k) (m : Mo wa wc) (b : Blk wa g t X) (n : ¬ S g) (q : ∀ k, S k → w0.heap.size ≤ k) (m0 : Mo w0 wa) : Blk wd g t X ∧ (¬ S' g) ∧ (∀ k, S' k → w0.heap.size ≤ k) :=
  ⟨K.blk (m.blk b) n, fun h => (fr _ h).elim n fun z => Nat.lt_irrefl _ (Nat.lt_of_lt_of_le (m.blk b).lt z), fun k h => (fr k h).elim (q k) (Nat.le_trans (m0.trans m).size)⟩
attribute [local go_sem] blk_cell' blk_frozen'
attribute [local go_sem ↓] loadF_addr loadF_srv storeF_srv loadF_cfgK storeF_cfg buildF_cfg loadF_cnt eqlF_cntK
attribute [local go_sem] run_loadF0 run_storeF0 run_build_cfg0 run_build_tab0 run_build_cnt0
set_option maxRecDepth 20000 in
set_option maxHeartbeats 16000000 in
theorem known36_any (W : World) : Calls Try.prog 6 #[] W fun e w' => e = .returned (.bool true) ∧ Mo W w' := by
  have SM := Lib.hid small_any
  have WK := Lib.hid works36_any
  have NW := Lib.hid (fun w => new_ses smlC 1 1 smlOk w)
  have AN := Lib.hid (fun n w => addr_any n w)
  have ad1 := Lib.hid (adrN_ok 1 (by omega))
  have ad9 := Lib.hid (adrN_ok 9 (by omega))
  go_enter Try.func6, Try.ntmps6
  --@@ small
  go_wp2_with fail
  refine (SM.out _).mono ?_
  rintro e w1 ⟨rfl, M1⟩
  go_wp2_with fail
  refine (NW.out _).mono ?_
  rintro e w2 ⟨T, D, rfl, H2⟩
  have N1 : Mo W w1 := (Mor.out : Mo W _).trans M1
  generalize w1.heap.size = b at H2
  have H := Lib.hid H2
  clear H2 M1 NW
  --@@ loop
  go_wp2_with fail
  go_loopw [45] (fun s45 wr => ∃ k : Nat, k ≤ 20 ∧ s45 = .int .i64 k ∧ Ses w1 wr T b smlC 1 1 (knL k) (ent0 adr0 D) k) (fun s45 _ => 20 - (intOf s45).toNat)
  case atStart => exact ⟨0, by omega, rfl, H.out.mo Mor.out⟩
  case round =>
    obtain ⟨k, hk, rfl, hS⟩ := hrel
    have HS := Lib.hid hS
    clear hS
    by_cases ck : k < 20
    · have kk : k * k ≤ 19 * 19 := Nat.mul_le_mul (by omega) (by omega)
      have e0 : (0 : Int) ≤ k := by omega
      have e1 : (k : Int) < 20 := by omega
      have hw : IntKind.i64.wrap ((k : Int) + 1) = k + 1 := by rw [IntKind.wrap_i64]; omega
      have em : ((k * k : Nat) : Int) = (k : Int) * k := by simp
      obtain ⟨kq, hkq⟩ : ∃ q, k * k = q := ⟨_, rfl⟩
      have hm : IntKind.i64.wrap ((k : Int) * k) = (kq : Nat) := by rw [← em, hkq, IntKind.wrap_i64]; omega
      have i1 : Is64S (k : Int) := ⟨by omega, by omega⟩
      have i2 : Is64S (kq : Int) := ⟨by omega, by omega⟩
      have S1 := Lib.hid (fun w => sample_any 1 k kq i1 w)
      have okS := Lib.hid (smN_ok 1 k kq (by omega) i1 i2)
      have HKQ := Lib.hid hkq
      clear em hkq kk i1 i2 ck
      --@@ put
      go_wp2_with fail
      refine (S1.out _).mono ?_
      rintro e w3 ⟨rfl, M3⟩
      have H3 := Lib.hid (HS.out.mo ((Mor.out : Mo wr _).trans M3))
      clear M3 HS S1
      go_wp2_with fail
      refine (put_ses (H3.out.mo Mor.out) (smN 1 k kq) okS.out (by omega)).mono ?_
      rintro e w4 ⟨es1, q, rfl, P, H4⟩
      rw [smN_adr] at P
      obtain ⟨rfl, rfl⟩ := knL_put P
      rw [chg_one] at H4
      have H5 : Hid (Ses w1 w4 T b smlC 1 1 (knL (k + 1)) (ent0 adr0 D) (k + 1)) := Lib.hid (by
        have e : knL (k + 1) = [putE smlC.sl (knE k) (smN 1 k kq)] := by
          rw [← HKQ.out]
          rfl
        rw [e]
        exact H4)
      clear H4 P H3 okS HKQ
      go_wp2_with fail
      go_roundw
      case rel => exact ⟨k + 1, by omega, by go_num, H5.out.mo Mor.out⟩
      case measure => simp [intOf]; omega
    · obtain rfl : k = 20 := by omega
      have E0 : Hid (knL 20 = [knE 20]) := Lib.hid rfl
      have HS1 : Hid (Ses w1 wr T b smlC 1 1 [knE 20] (ent0 adr0 D) 20) := Lib.hid (by rw [← E0.out]; exact HS.out)
      obtain ⟨wo, hwo⟩ : ∃ w, w = wr := ⟨_, rfl⟩
      subst hwo
      clear HS E0 ck hk H
      --@@ told
      go_wp2_with fail
      refine (told_ses (HS1.out.mo Mor.out) (by omega) 0 (knE 20) rfl).mono ?_
      rintro e wa ⟨v, rfl, R, Ma⟩
      obtain ⟨S, t, qS, m⟩ := HS1.out.mo ((Mor.out : Mo wo _).trans Ma)
      have nS : ¬ S wa.heap.size := fun h => by have := t.lt _ h; omega
      have l4 : w1.heap.size ≤ wa.heap.size := m.size
      obtain ⟨X, rfl, zX, oX⟩ := srvAt_one R (show AdrS (knE 20).a from by rw [knE_a]; exact ad1.out)
      have iX : SzA X 47 := ⟨zX⟩
      have HT := Lib.hid t
      have HQ := Lib.hid qS
      have HR := Lib.hid R
      clear Ma R t qS zX HS1
      go_upto_region 10 with (fail)
      refine wp_name ?_
      intro wb hwb
      have b4 : Blk wb wa.heap.size 62 X := by rw [hwb]; infer_instance
      have Mab : Mo wa wb := by rw [hwb]; exact Mor.out
      have HTb := Lib.hid (HT.out.mo Mab)
      have mb := m.trans Mab
      obtain ⟨tv, sv, eX, o1, o2⟩ := HR.out
      have eX' : X = srvC (knE 20).a (knE 20).c (knE 20).s1 (knE 20).s2 (knE 20).s3 tv sv (knE 20).more := by injection eX
      have hz : (knE 20).a.size = 17 := by rw [knE_a]; rfl
      rw [knE_20.1] at o2
      obtain ⟨A6, c6, rfl⟩ := own_slS o2
      have x45 : X[45]? = some (.slice A6 16 c6) := by rw [eX']; exact srvC_hi hz _ _ _ _ _ _ _ 28
      have x46 : X[46]? = some (.int .i64 3) := by rw [eX']; have := srvC_hi hz (knE 20).c (knE 20).s1 (knE 20).s2 (knE 20).s3 tv (.slice A6 16 c6) (knE 20).more 29; rw [knE_20.2] at this ⊢; exact this
      generalize hg4 : wa.heap.size = g4 at *
      clear hwb Mab HT m HR eX eX' o1 o2 hz
      --@@ smalls
      go_wp2_with fail
      refine (SM.out _).mono ?_
      rintro e wc1 ⟨rfl, Mc1⟩
      have Nc1 : Mo wb wc1 := (Mor.out : Mo wb _).trans Mc1
      clear Mc1
      go_wp2_with fail
      refine (SM.out _).mono ?_
      rintro e wc2 ⟨rfl, Mc2⟩
      have Nc2 : Mo wb wc2 := Nc1.trans ((Mor.out : Mo wc1 _).trans Mc2)
      clear Mc2 Nc1
      go_wp2_with fail
      refine (SM.out _).mono ?_
      rintro e wc3 ⟨rfl, Mc3⟩
      have Nc3 : Mo wb wc3 := Nc2.trans ((Mor.out : Mo wc2 _).trans Mc3)
      clear Mc3 Nc2
      go_wp2_with fail
      refine (SM.out _).mono ?_
      rintro e wc4 ⟨rfl, Mc4⟩
      have Nc4 : Mo wb wc4 := Nc3.trans ((Mor.out : Mo wc3 _).trans Mc4)
      clear Mc4 Nc3
      --@@ allocs
      go_upto_region 11 with (fail)
      refine wp_name ?_
      intro wd hwd
      have g6l : wb.heap.size ≤ wc4.heap.size := Nc4.size
      have b6 : Blk wd wc4.heap.size 26 (cfC smlC) := by rw [hwd]; infer_instance
      have b7 : Blk wd (wc4.heap.size + 1) 26 (cfC smlC) := by
        rw [hwd]
        have : Blk ((((wc4.alloc (.cells (cfC smlC) 26)).alloc (.cells (cfC smlC) 26)).alloc (.cells (cfC smlC) 26)).alloc (.cells (cfC smlC) 26)) (wc4.alloc (.cells (cfC smlC) 26)).heap.size 26 (cfC smlC) := inferInstance
        simpa using this
      have b8 : Blk wd (wc4.heap.size + 1 + 1) 26 (cfC smlC) := by
        rw [hwd]
        have : Blk ((((wc4.alloc (.cells (cfC smlC) 26)).alloc (.cells (cfC smlC) 26)).alloc (.cells (cfC smlC) 26)).alloc (.cells (cfC smlC) 26)) ((wc4.alloc (.cells (cfC smlC) 26)).alloc (.cells (cfC smlC) 26)).heap.size 26 (cfC smlC) := inferInstance
        simpa using this
      have b9 : Blk wd (wc4.heap.size + 1 + 1 + 1) 26 (cfC smlC) := by
        rw [hwd]
        have : Blk ((((wc4.alloc (.cells (cfC smlC) 26)).alloc (.cells (cfC smlC) 26)).alloc (.cells (cfC smlC) 26)).alloc (.cells (cfC smlC) 26)) (((wc4.alloc (.cells (cfC smlC) 26)).alloc (.cells (cfC smlC) 26)).alloc (.cells (cfC smlC) 26)).heap.size 26 (cfC smlC) := inferInstance
        simpa using this
      have Nd : Mo wb wd := Nc4.trans (by rw [hwd]; exact Mor.out)
      generalize wc4.heap.size = g6 at *
      clear hwd Nc4
      --@@ cells
      go_upto_region 12 with (fail)
      refine wp_name ?_
      intro we hwe
      have e6 : (cfC smlC).setIfInBounds 2 (.int .i64 257) = cfC cA := by kernel_rfl
      have e7 : (cfC smlC).setIfInBounds 3 (.int .i64 0) = cfC cB := by kernel_rfl
      have e8 : (cfC smlC).setIfInBounds 4 (.int .i64 11) = cfC cC' := by kernel_rfl
      have e9 : (cfC smlC).setIfInBounds 7 (.int .i64 (-1)) = cfC cD' := by kernel_rfl
      have d6 : Blk we g6 26 (cfC cA) := by rw [hwe, ← e6]; exact blk_setCell_ne (blk_setCell_ne (blk_setCell_ne (blk_setCell b6 2 _) (by omega) _ _) (by omega) _ _) (by omega) _ _
      have d7 : Blk we (g6 + 1) 26 (cfC cB) := by rw [hwe, ← e7]; exact blk_setCell_ne (blk_setCell_ne (blk_setCell (blk_setCell_ne b7 (by omega) _ _) 3 _) (by omega) _ _) (by omega) _ _
      have d8 : Blk we (g6 + 1 + 1) 26 (cfC cC') := by rw [hwe, ← e8]; exact blk_setCell_ne (blk_setCell (blk_setCell_ne (blk_setCell_ne b8 (by omega) _ _) (by omega) _ _) 4 _) (by omega) _ _
      have d9 : Blk we (g6 + 1 + 1 + 1) 26 (cfC cD') := by rw [hwe, ← e9]; exact blk_setCell (blk_setCell_ne (blk_setCell_ne (blk_setCell_ne b9 (by omega) _ _) (by omega) _ _) (by omega) _ _) 7 _
      have Ne : Mo wb we := by rw [hwe]; exact mo_setCell (mo_setCell (mo_setCell (mo_setCell Nd g6l _ _) (by omega) _ _) (by omega) _ _) (by omega) _ _
      clear hwe b6 b7 b8 b9 e6 e7 e8 e9 Nd
      have me := mb.trans Ne
      --@@ new1
      go_wp2_with fail
      refine (new_badC cA _ (by decide) (by decide)).mono ?_
      rintro e wf ⟨rfl, Mx⟩
      have Mx1 : Mo we wf := (Mor.out : Mo we _).trans Mx
      have Nf : Mo wb wf := Ne.trans Mx1
      replace d7 := Mx1.blk d7
      replace d8 := Mx1.blk d8
      replace d9 := Mx1.blk d9
      clear Mx Mx1
      --@@ new2
      go_wp2_with fail
      refine (new_badC cB _ (by decide) (by decide)).mono ?_
      rintro e wg ⟨rfl, Mx⟩
      have Mx2 : Mo wf wg := (Mor.out : Mo wf _).trans Mx
      have Ng : Mo wb wg := Nf.trans Mx2
      replace d8 := Mx2.blk d8
      replace d9 := Mx2.blk d9
      clear Mx Mx2
      --@@ new3
      go_wp2_with fail
      refine (new_badC cC' _ (by decide) (by decide)).mono ?_
      rintro e wh ⟨rfl, Mx⟩
      have Mx3 : Mo wg wh := (Mor.out : Mo wg _).trans Mx
      have Nh : Mo wb wh := Ng.trans Mx3
      replace d9 := Mx3.blk d9
      clear Mx Mx3
      --@@ new4
      go_wp2_with fail
      refine (new_badC cD' _ (by decide) (by decide)).mono ?_
      rintro e wi ⟨rfl, Mx⟩
      have Mx4 : Mo wh wi := (Mor.out : Mo wh _).trans Mx
      have Ni : Mo wb wi := Nh.trans Mx4
      clear Mx Mx4
      --@@ new5
      go_wp2_with fail
      refine (new_badC cZ _ (by decide) (by decide)).mono ?_
      rintro e wj ⟨rfl, Mx⟩
      have Mx5 : Mo wi wj := (Mor.out : Mo wi _).trans Mx
      have Nj : Mo wb wj := Ni.trans Mx5
      clear Mx Mx5
      have b4j := Nj.blk b4
      have nS' : ¬ S g4 := nS
      clear d6 d7 d8 d9 Ne Nf Ng Nh Ni me
      --@@ told nil
      go_wp2_with fail
      refine (told_nilT 0 _).mono ?_
      rintro e wk ⟨rfl, Mk⟩
      have Nk : Mo wb wk := Nj.trans ((Mor.out : Mo wj _).trans Mk)
      clear Mk
      --@@ told -1
      go_wp2_with fail
      refine (told_out (HTb.out.mo (Nk.trans Mor.out)) (-1) (.inl (by decide))).mono ?_
      rintro e wl ⟨rfl, Ml⟩
      have Nl : Mo wb wl := Nk.trans ((Mor.out : Mo wk _).trans Ml)
      clear Ml
      --@@ told 2
      go_wp2_with fail
      refine (told_out (HTb.out.mo (Nl.trans Mor.out)) 2 (.inr (by decide))).mono ?_
      rintro e wm ⟨rfl, Mm⟩
      have Nm : Mo wb wm := Nl.trans ((Mor.out : Mo wl _).trans Mm)
      clear Mm
      --@@ find 9
      go_wp2_with fail
      refine (AN.out 9 _).mono ?_
      rintro e wn ⟨rfl, Mn⟩
      have Nn : Mo wb wn := Nm.trans ((Mor.out : Mo wm _).trans Mn)
      clear Mn
      go_wp2_with fail
      refine (tfind_w (HTb.out.mo (Nn.trans Mor.out)) (adrN 9) ad9.out).mono ?_
      rintro e wp ⟨q, rfl, f1, f2, Mp⟩
      have Np : Mo wb wp := Nn.trans ((Mor.out : Mo wn _).trans Mp)
      obtain rfl : q = none := by
        cases q with
        | none => rfl
        | some i =>
          have := f1 i rfl
          cases i with
          | zero =>
            simp only [List.map_cons, List.map_nil, List.getElem?_cons_zero, Option.some.injEq] at this
            rw [knE_a] at this
            exact absurd this (adr_ne (by decide))
          | succ i => simp at this
      have z0 : numO none = -1 := rfl
      have z1 : (none : Option Nat).isSome = false := rfl
      rw [z0, z1]
      clear f1 f2 Mp
      --@@ find 1
      go_wp2_with fail
      refine (AN.out 1 _).mono ?_
      rintro e wq ⟨rfl, Mq⟩
      have Nq : Mo wb wq := Np.trans ((Mor.out : Mo wp _).trans Mq)
      clear Mq
      go_wp2_with fail
      refine (tfind_w (HTb.out.mo (Nq.trans Mor.out)) (adrN 1) ad1.out).mono ?_
      rintro e wr' ⟨q, rfl, f1, f2, Mr⟩
      have Nr : Mo wb wr' := Nq.trans ((Mor.out : Mo wq _).trans Mr)
      obtain rfl : q = some 0 := by
        cases q with
        | none => exact absurd (by simp [knE_a] : adrN 1 ∈ [knE 20].map (·.a)) (f2 rfl)
        | some i =>
          have := f1 i rfl
          cases i with
          | zero => rfl
          | succ i => simp at this
      have z2 : numO (some 0) = 0 := rfl
      have z3 : (some 0 : Option Nat).isSome = true := rfl
      rw [z2, z3]
      clear f1 f2 Mr Nq Np Nn Nm Nl Nk
      --@@ count 9
      go_wp2_with fail
      refine (AN.out 1 _).mono ?_
      rintro e ws ⟨rfl, Ms⟩
      have Ns : Mo wb ws := Nr.trans ((Mor.out : Mo wr' _).trans Ms)
      clear Ms
      go_wp2_with fail
      refine (tcount_w (HTb.out.mo (Ns.trans Mor.out)) (adrN 1) ad1.out 9 (by omega)).mono ?_
      rintro e wt ⟨es1, q, S1, rfl, P, t', K, fr⟩
      obtain ⟨rfl, rfl⟩ := sml_same (knE_a 20) P
      have HT1 : Hid (TabW wt T b S1 smlC 1 1 [knE 20] (ent0 adr0 D) 21) := Lib.hid t'
      have b4s : Blk wt g4 _ X ∧ (¬ S1 g4) ∧ (∀ k, S1 k → w1.heap.size ≤ k) := cnt_keep K fr (Ns.trans Mor.out) b4 nS HQ.out mb
      obtain ⟨b4t, nS1, q1⟩ := b4s
      have HQ1 : Hid (∀ k, S1 k → w1.heap.size ≤ k) := Lib.hid q1
      clear q1
      have mt : Mo w1 wt := K.mo ((mb.trans Ns).trans Mor.out) fun k _ => HQ.out k
      clear t' K fr P Nr Nj b4j HTb
      --@@ count 255
      go_wp2_with fail
      refine (AN.out 9 _).mono ?_
      rintro e wu ⟨rfl, Mu⟩
      have Mtu : Mo wt wu := (Mor.out : Mo wt _).trans Mu
      clear Mu
      go_wp2_with fail
      refine (tcount_w (HT1.out.mo (Mtu.trans Mor.out)) (adrN 9) ad9.out 255 (by omega)).mono ?_
      rintro e wv ⟨es1, q, S2, rfl, P, t', K, fr⟩
      obtain ⟨rfl, rfl⟩ := sml_other (by rw [knE_a]; exact adr_ne (by decide)) P
      have HT2 : Hid (TabW wv T b S2 smlC 1 1 [knE 20] (ent0 adr0 D) 22) := Lib.hid t'
      have b4v : Blk wv g4 _ X := (cnt_keep K fr (Mtu.trans Mor.out) b4t nS1 HQ1.out mt).1
      have mv : Mo w1 wv := K.mo ((mt.trans Mtu).trans Mor.out) fun k _ => HQ1.out k
      clear t' K fr P HT1 b4t b4
      --@@ told y
      go_wp2_with fail
      refine (ttold_ent (HT2.out.mo Mor.out) (by omega) 0 (knE 20) rfl).mono ?_
      rintro e wx ⟨v2, rfl, R2, Mx⟩
      have Mvx : Mo wv wx := (Mor.out : Mo wv _).trans Mx
      obtain ⟨Y, rfl, zY, oY⟩ := srvAt_one R2 (show AdrS (knE 20).a from by rw [knE_a]; exact ad1.out)
      have iY : SzA Y 47 := ⟨zY⟩
      have HR2 := Lib.hid R2
      have b4x := Mvx.blk b4v
      clear Mx zY R2 b4v
      go_upto_region 26 with (fail)
      refine wp_name ?_
      intro wy hwy
      have b31 : Blk wy wx.heap.size 62 Y := by rw [hwy]; infer_instance
      have Mxy : Mo wx wy := by rw [hwy]; exact Mor.out
      have b4y := Mxy.blk b4x
      have my : Mo w1 wy := mv.trans (Mvx.trans Mxy)
      obtain ⟨tv2, sv2, eY, o1', o2'⟩ := HR2.out
      have eY' : Y = srvC (knE 20).a (knE 20).c (knE 20).s1 (knE 20).s2 (knE 20).s3 tv2 sv2 (knE 20).more := by injection eY
      have hz2 : (knE 20).a.size = 17 := by rw [knE_a]; rfl
      have lc := srv_cntK (by rw [eY']; exact srvL (knE 20).a hz2 _ _ _ _ _ _ _) wy wx.heap.size b31
      rw [knE_c] at lc
      have eqc := fun w => run_eql_cnt w (fun _ => 0) (fun _ => ⟨by decide, by decide⟩)
      generalize wx.heap.size = g31 at *
      clear hwy eY eY' o1' o2' hz2 HR2 Mxy Mvx b4x
      have SMP := Lib.hid (fun w => sample_any 1 0 0 ⟨by decide, by decide⟩ w)
      have PN := Lib.hid (fun w => put_nilT (smN 1 0 0) rfl w)
      have PE := Lib.hid (fun T w (b : Blk w T 83 tab0) => put_empty T (smN 1 0 0) rfl w b)
      have CN := Lib.hid (fun w => tcount_nil w (adrN 1) rfl 0)
      have LN := Lib.hid tlen_nil
      have LV := Lib.hid live_nilT
      have CY := Lib.hid copy_nilT
      --@@ r26
      go_wp2_with fail
      --@@ addr
      refine (AN.out 1 _).mono ?_
      rintro e z1 ⟨rfl, Mx⟩
      have n1 : Mo w1 z1 := my.trans ((Mor.out : Mo wy _).trans Mx)
      clear Mx my
      go_wp2_with fail
      --@@ count nil
      refine (CN.out _).mono ?_
      rintro e z2 ⟨rfl, Mx⟩
      have n2 : Mo w1 z2 := n1.trans ((Mor.out : Mo z1 _).trans Mx)
      clear Mx n1
      go_wp2_with fail
      --@@ sample
      refine (SMP.out _).mono ?_
      rintro e z3 ⟨rfl, Mx⟩
      have n3 : Mo w1 z3 := n2.trans ((Mor.out : Mo z2 _).trans Mx)
      clear Mx n2
      go_wp2_with fail
      --@@ put nil
      refine (PN.out _).mono ?_
      rintro e z4 ⟨rfl, Mx⟩
      have n4 : Mo w1 z4 := n3.trans ((Mor.out : Mo z3 _).trans Mx)
      clear Mx n3
      go_wp2_with fail
      --@@ len nil
      refine (LN.out _).mono ?_
      rintro e z5 ⟨rfl, Mx⟩
      have n5 : Mo w1 z5 := n4.trans ((Mor.out : Mo z4 _).trans Mx)
      clear Mx n4
      go_wp2_with fail
      --@@ live nil
      refine (LV.out _).mono ?_
      rintro e z6 ⟨rfl, Mx⟩
      have n6 : Mo w1 z6 := n5.trans ((Mor.out : Mo z5 _).trans Mx)
      clear Mx n5
      go_wp2_with fail
      --@@ copy nil
      refine (CY.out _).mono ?_
      rintro e z7 ⟨rfl, Mx⟩
      have n7 : Mo w1 z7 := n6.trans ((Mor.out : Mo z6 _).trans Mx)
      clear Mx n6
      go_wp2_with fail
      --@@ sample 2
      refine (SMP.out _).mono ?_
      rintro e z8 ⟨rfl, Mx⟩
      have bT := Mx.blk (inferInstance : Blk _ z7.heap.size 83 tab0)
      have n8 : Mo w1 z8 := n7.trans ((Mor.out : Mo z7 _).trans Mx)
      clear Mx n7
      go_wp2_with fail
      --@@ put empty
      refine (PE.out _ _ (Mo.blk (Mor.out : Mo z8 _) bT)).mono ?_
      rintro e z9 ⟨rfl, Mx⟩
      have n9 : Mo w1 z9 := n8.trans ((Mor.out : Mo z8 _).trans Mx)
      clear Mx n8
      go_wp2_with fail
      --@@ works
      refine (WK.out _).mono ?_
      rintro e z10 ⟨rfl, Mx⟩
      have n10 : Mo w1 z10 := n9.trans ((Mor.out : Mo z9 _).trans Mx)
      clear Mx n9
      go_wp2_with fail
      --@@ return
      go_ret
      exact ⟨rfl, N1.trans (n10.trans Mor.out)⟩
end Go.Proofs.Ythgkhllkhhnlpaa
