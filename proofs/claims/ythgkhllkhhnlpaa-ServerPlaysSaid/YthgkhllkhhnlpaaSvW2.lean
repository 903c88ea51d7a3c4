/- Written by gen/bundle36.py: SvW, SvX, SvY, SvZ in one text. -/
import Derived.Test.YthgkhllkhhnlpaaSvU2
/- horologelaw36.like. -/
namespace Go.Proofs.Ythgkhllkhhnlpaa
open Go.RowKit Go.Maps

set_option maxRecDepth 20000 in
theorem flat_get {α β : Type} (f : α → List β) (m : Nat) (hm : ∀ x, (f x).length = m) : ∀ (l : List α) (i k : Nat) (hi : i < l.length), k < m → (l.flatMap f)[i * m + k]? = (f l[i])[k]?
  | [], i, k, hi, _ => by cases hi
  | x :: l, 0, k, hi, hk => by
    rw [List.flatMap_cons, Nat.zero_mul, Nat.zero_add, List.getElem?_append_left (by rw [hm]; exact hk)]
    rfl
  | x :: l, i + 1, k, hi, hk => by
    rw [List.flatMap_cons, List.getElem?_append_right (by rw [hm, Nat.add_mul]; omega), hm, Nat.add_mul, Nat.one_mul]
    rw [show i * m + m + k - m = i * m + k by omega, flat_get f m hm l i k (by simpa using hi) hk]
    rfl
set_option maxRecDepth 20000 in
theorem RowAt.ldT {W : World} {g : Nat} {l : List Tau} (h : RowAt W g (tauRow l)) (i : Nat) (hi : i < l.length) : (loadF 117 (.pointer (some ⟨g, i * 5, none⟩))).run Try.prog W = .ok (.agg (tauC l[i])) W := by
  have : RowT 117 5 := ⟨by kernel_rfl, by kernel_rfl⟩
  refine run_loadMid 117 5 W g (i * 5) (tauC l[i]) rfl fun j u hu => ?_
  have hj : j < 5 := (List.getElem?_eq_some_iff.1 hu).1
  exact h _ _ ((flat_get tauL 5 (fun _ => rfl) l i j hi hj).trans hu)
set_option maxRecDepth 20000 in
theorem RowAt.ldS {W : World} {g : Nat} {l : List (Nat × Int × Int)} (h : RowAt W g (stpL l)) (i : Nat) (hi : i < l.length) : (loadF 85 (.pointer (some ⟨g, i * 3, none⟩))).run Try.prog W = .ok (.agg #[.int .u64 (l[i].1 : Nat), .int .i64 l[i].2.1, .int .i64 l[i].2.2]) W := by
  refine run_loadMid 85 3 W g (i * 3) #[.int .u64 (l[i].1 : Nat), .int .i64 l[i].2.1, .int .i64 l[i].2.2] rfl fun j u hu => ?_
  have hj : j < 3 := (List.getElem?_eq_some_iff.1 hu).1
  exact h _ _ ((flat_get stpC 3 (fun _ => rfl) l i j hi hj).trans hu)
set_option maxRecDepth 20000 in
theorem RowAt.cS {W : World} {g : Nat} {l : List (Nat × Int × Int)} (h : RowAt W g (stpL l)) (i : Nat) (hi : i < l.length) : W.cell? ⟨g, i * 3, none⟩ = some (.int .u64 (l[i].1 : Nat)) ∧ W.cell? ⟨g, i * 3 + 1, none⟩ = some (.int .i64 l[i].2.1) ∧ W.cell? ⟨g, i * 3 + 2, none⟩ = some (.int .i64 l[i].2.2) :=
  ⟨h _ _ (by have := flat_get stpC 3 (fun _ => rfl) l i 0 hi (by omega); rw [Nat.add_zero] at this; exact this), h _ _ (flat_get stpC 3 (fun _ => rfl) l i 1 hi (by omega)), h _ _ (flat_get stpC 3 (fun _ => rfl) l i 2 hi (by omega))⟩
set_option maxRecDepth 20000 in
theorem loadF_tot (v : Value) : Instr.loadAt 58 v = loadF 58 v := rfl
set_option maxRecDepth 20000 in
theorem loadF_tauS (v : Value) : Instr.loadAt 117 v = loadF 117 v := rfl
set_option maxRecDepth 20000 in
theorem neqF_tot (x y : Value) : binOp .neq 58 x y = neqF 58 x y := rfl
set_option maxRecDepth 20000 in
theorem neqF_cnt (x y : Value) : binOp .neq 56 x y = neqF 56 x y := rfl
set_option maxRecDepth 20000 in
theorem neqF_adr (x y : Value) : binOp .neq 35 x y = neqF 35 x y := rfl
set_option maxRecDepth 20000 in
theorem neqF_tau (x y : Value) : binOp .neq 117 x y = neqF 117 x y := rfl
set_option maxRecDepth 20000 in
theorem neqF_stp (x y : Value) : binOp .neq 85 x y = neqF 85 x y := rfl
set_option maxRecDepth 20000 in
instance row_tot : RowT 58 6 := ⟨by kernel_rfl, by kernel_rfl⟩
set_option maxRecDepth 20000 in
theorem eqA_same (a : Array Value) : eqA a a = true := eqA_iff.2 rfl
set_option maxRecDepth 20000 in
theorem run_neq_adr (w : World) {a : Array Value} (h : AdrS a) : (neqF 35 (.agg a) (.agg a)).run Try.prog w = .ok (.bool false) w := by
  have := run_neq_flat fl_addr w h.p h.p
  rw [eqA_same] at this
  exact this
set_option maxRecDepth 20000 in
theorem run_neq_tot (w : World) (S : St) : (neqF 58 (.agg (totV S)) (.agg (totV S))).run Try.prog w = .ok (.bool false) w := by
  unfold neqF totV
  simp [go_sem]
set_option maxRecDepth 20000 in
instance fl_cnt : FlatT 56 9 := ⟨by kernel_rfl, by kernel_rfl, by kernel_rfl, by kernel_rfl, by kernel_rfl, by kernel_rfl⟩
set_option maxRecDepth 20000 in
theorem ks_cnt : ksOf 56 = [.i .i64, .i .i64, .i .i64, .i .i64, .i .i64, .i .i64, .i .i64, .i .i64, .i .i64] := by kernel_rfl
set_option maxRecDepth 20000 in
theorem fits_cnt (c : Nat → Int) (h : ∀ k, 0 ≤ c k ∧ c k ≤ 1000000) : Fits (ksOf 56) (c9 c).toList := by
  rw [ks_cnt]
  have q : ∀ k, (CK.i IntKind.i64).fits (Value.int IntKind.i64 (c k)) := fun k => ⟨rfl, by have := h k; simp [Lit.wf, IntKind.min, IntKind.max, IntKind.signed, IntKind.bits]; omega⟩
  exact ⟨q 0, q 1, q 2, q 3, q 4, q 5, q 6, q 7, q 8, trivial⟩
set_option maxRecDepth 20000 in
theorem run_neq_cnt (w : World) (c : Nat → Int) (h : ∀ k, 0 ≤ c k ∧ c k ≤ 1000000) : (neqF 56 (.agg (c9 c)) (.agg (c9 c))).run Try.prog w = .ok (.bool false) w := by
  have := run_neq_flat fl_cnt w (fits_cnt c h) (fits_cnt c h)
  rw [eqA_same] at this
  exact this
set_option maxRecDepth 20000 in
theorem run_neq_tau (w : World) (t : Tau) : (neqF 117 (.agg (tauC t)) (.agg (tauC t))).run Try.prog w = .ok (.bool false) w := by
  unfold neqF
  simp [go_sem]
set_option maxRecDepth 20000 in
theorem run_neq_stp (w : World) (a b c : Int) : (neqF 85 (.agg #[.int .u64 a, .int .i64 b, .int .i64 c]) (.agg #[.int .u64 a, .int .i64 b, .int .i64 c])).run Try.prog w = .ok (.bool false) w := by
  unfold neqF
  simp [go_sem]
/-- loads of a told server's parts -/
structure SrvL (a : Array Value) (c : Nat → Int) (S1 S2 S3 : St) (tv sv : Value) (more : Nat) (X : Array Value) : Prop where
  sz : X.size = 47
  ad : X.extract 0 17 = a
  cn : X.extract 17 26 = c9 c
  t1 : X.extract 26 32 = totV S1
  t2 : X.extract 32 38 = totV S2
  t3 : X.extract 38 44 = totV S3
  tv : X[44]? = some tv
  sv : X[45]? = some sv
  mo : X[46]? = some (.int .i64 (more : Nat))
set_option maxRecDepth 20000 in
theorem srvC_ext {a : Array Value} (h : a.size = 17) (c : Nat → Int) (S1 S2 S3 : St) (tv sv : Value) (more i j : Nat) (l : List Value) (hj : 17 + i + l.length = j) (hl : ((srvT c S1 S2 S3 tv sv more).drop i).take l.length = l) : (srvC a c S1 S2 S3 tv sv more).extract (17 + i) j = l.toArray := by
  apply Array.toList_inj.1
  rw [Array.toList_extract, List.extract_eq_take_drop]
  unfold srvC
  rw [List.toList_toArray, List.drop_append, List.drop_eq_nil_of_le (by rw [Array.length_toList]; omega), Array.length_toList, h, List.nil_append, Nat.add_sub_cancel_left, show j - (17 + i) = l.length by omega, hl]
set_option maxRecDepth 20000 in
theorem srvL (a : Array Value) (h : a.size = 17) (c : Nat → Int) (S1 S2 S3 : St) (tv sv : Value) (more : Nat) : SrvL a c S1 S2 S3 tv sv more (srvC a c S1 S2 S3 tv sv more) := by
  refine ⟨srvC_size h c S1 S2 S3 tv sv more, ?_, ?_, ?_, ?_, ?_, ?_, ?_, ?_⟩
  · refine Array.ext_getElem? fun k => ?_
    have hz := srvC_size h c S1 S2 S3 tv sv more
    rw [Array.getElem?_extract]
    by_cases q : k < 17
    · rw [if_pos (by omega), Nat.zero_add, srvC_lo h c S1 S2 S3 tv sv more k q]
    · rw [if_neg (by omega), Array.getElem?_eq_none (by omega)]
  · exact srvC_ext h c S1 S2 S3 tv sv more 0 26 (c9 c).toList rfl rfl
  · exact srvC_ext h c S1 S2 S3 tv sv more 9 32 (totV S1).toList rfl rfl
  · exact srvC_ext h c S1 S2 S3 tv sv more 15 38 (totV S2).toList rfl rfl
  · exact srvC_ext h c S1 S2 S3 tv sv more 21 44 (totV S3).toList rfl rfl
  · exact srvC_hi h c S1 S2 S3 tv sv more 27
  · exact srvC_hi h c S1 S2 S3 tv sv more 28
  · exact srvC_hi h c S1 S2 S3 tv sv more 29
attribute [local go_sem] blk_cell' blk_frozen'
attribute [local go_sem ↓] loadF_addr loadF_cnt loadF_tot loadF_tauS loadF_st buildF_st neqF_tot neqF_cnt neqF_adr neqF_tau neqF_stp
attribute [local go_sem] run_neq_tot run_neq_tau run_neq_stp run_build_st3
set_option maxRecDepth 20000 in
set_option maxHeartbeats 8000000 in
theorem like_core (a : Array Value) (ha : AdrS a) (c : Nat → Int) (hc : ∀ k, 0 ≤ c k ∧ c k ≤ 1000000) (S1 S2 S3 : St) (n cp1 cp2 m cq1 cq2 mr : Nat) (A1 A2 B1 B2 : Option Addr) (K : List Tau) (L : List (Nat × Int × Int)) (hK : K.length = n) (hL : L.length = m) (hn : n ≤ 1000) (hm : m ≤ 1000) (X Y : Array Value) (W : World)
    (hX : SrvL a c S1 S2 S3 (.slice A1 n cp1) (.slice B1 m cq1) mr X) (hY : SrvL a c S1 S2 S3 (.slice A2 n cp2) (.slice B2 m cq2) mr Y)
    (r1 : 0 < n → ∃ g, A1 = some ⟨g, 0, none⟩ ∧ RowAt W g (tauRow K)) (r2 : 0 < n → ∃ g, A2 = some ⟨g, 0, none⟩ ∧ RowAt W g (tauRow K))
    (s1 : 0 < m → ∃ g, B1 = some ⟨g, 0, none⟩ ∧ RowAt W g (stpL L)) (s2 : 0 < m → ∃ g, B2 = some ⟨g, 0, none⟩ ∧ RowAt W g (stpL L)) :
    Calls Try.prog 22 #[.agg X, .agg Y] W fun e w' => e = .returned (.bool true) ∧ Mo W w' := by
  have HR1 := Lib.hid r1
  have HR2 := Lib.hid r2
  have HS1 := Lib.hid s1
  have HS2 := Lib.hid s2
  have HK := Lib.hid hK
  have HL := Lib.hid hL
  have nA := fun w => run_neq_adr w ha
  have nC := fun w => run_neq_cnt w c hc
  have lds : ∀ {Z : Array Value} {tv sv : Value}, SrvL a c S1 S2 S3 tv sv mr Z → ∀ (w : World) (g : Nat), Blk w g 62 Z → (loadF 35 (.pointer (some ⟨g, 0, none⟩))).run Try.prog w = .ok (.agg a) w ∧ (loadF 56 (.pointer (some ⟨g, 17, none⟩))).run Try.prog w = .ok (.agg (c9 c)) w ∧ (loadF 58 (.pointer (some ⟨g, 26, none⟩))).run Try.prog w = .ok (.agg (totV S1)) w ∧ (loadF 58 (.pointer (some ⟨g, 32, none⟩))).run Try.prog w = .ok (.agg (totV S2)) w ∧ (loadF 58 (.pointer (some ⟨g, 38, none⟩))).run Try.prog w = .ok (.agg (totV S3)) w := fun {Z tv sv} hZ w g b => by
    have iz : SzA Z 47 := ⟨hZ.sz⟩
    refine ⟨?_, ?_, ?_, ?_, ?_⟩
    · rw [run_loadFz 35 17 w g 62 Z 47 (by omega), hZ.ad]
    · rw [run_loadFo 56 9 w g 17 62 Z 47 (by omega) (by omega), hZ.cn]
    · rw [run_loadFo 58 6 w g 26 62 Z 47 (by omega) (by omega), hZ.t1]
    · rw [run_loadFo 58 6 w g 32 62 Z 47 (by omega) (by omega), hZ.t2]
    · rw [run_loadFo 58 6 w g 38 62 Z 47 (by omega) (by omega), hZ.t3]
  have LX := Lib.hid (lds hX)
  have LY := Lib.hid (lds hY)
  have x1 := hX.tv
  have x2 := hX.sv
  have x3 := hX.mo
  have y1 := hY.tv
  have y2 := hY.sv
  have y3 := hY.mo
  have b1 : (((n : Nat) : Int) != (n : Nat)) = false := by simp
  have b2 : (((m : Nat) : Int) != (m : Nat)) = false := by simp
  have b3 : (((mr : Nat) : Int) != (mr : Nat)) = false := by simp
  clear r1 r2 s1 s2 hK hL ha hc hX hY lds
  go_enter Try.func22, Try.ntmps22
  go_upto_region 1 with (fail)
  refine wp_name ?_
  intro w1 hw1
  have bX : Blk w1 W.heap.size 62 X := by rw [hw1]; infer_instance
  have bY : Blk w1 (W.heap.size + 1) 62 Y := by
    rw [hw1]
    have : Blk ((W.alloc (.cells X 62)).alloc (.cells Y 62)) (W.alloc (.cells X 62)).heap.size 62 Y := inferInstance
    simpa using this
  have M1 : Mo W w1 := by rw [hw1]; exact Mor.out
  generalize W.heap.size = g1 at *
  obtain ⟨lx1, lx2, lx3, lx4, lx5⟩ := LX.out w1 g1 bX
  obtain ⟨ly1, ly2, ly3, ly4, ly5⟩ := LY.out w1 (g1 + 1) bY
  clear hw1 LX LY
  --@@ r1
  go_wp2_with fail
  go_loopw [68] (fun i wr => ∃ j : Nat, j ≤ n ∧ i = .int .i64 j ∧ Mo w1 wr) (fun i _ => n - (intOf i).toNat)
  case atStart => exact ⟨0, by omega, rfl, Mor.out⟩
  case round =>
    obtain ⟨j, hj, rfl, hM⟩ := hrel
    have bX2 := hM.blk bX
    have bY2 := hM.blk bY
    have zX : LtW g1 wr := ⟨bX2.lt⟩
    have zY : LtW (g1 + 1) wr := ⟨bY2.lt⟩
    by_cases cj : j < n
    · have hjl : j < K.length := by rw [HK.out]; exact cj
      obtain ⟨gA, eA, rA⟩ := HR1.out (by omega)
      obtain ⟨gB, eB, rB⟩ := HR2.out (by omega)
      subst eA eB
      have qA := fun J d => ((rA.mo ((M1.trans hM).trans Mor.out) : RowAt (more wr J d) gA (tauRow K)).ldT j hjl)
      have qB := fun J d => ((rB.mo ((M1.trans hM).trans Mor.out) : RowAt (more wr J d) gB (tauRow K)).ldT j hjl)
      have e0 : (0 : Int) ≤ j := by omega
      have e1 : (j : Int) < n := by omega
      have hw : IntKind.i64.wrap ((j : Int) + 1) = j + 1 := by rw [IntKind.wrap_i64]; omega
      generalize K[j] = t at *
      clear rA rB bX bY hjl cj lx1 lx2 lx3 lx4 lx5 ly1 ly2 ly3 ly4 ly5 nA nC
      --@@ r6
      go_upto_region 6 with (fail)
      first | (refine wp_region_mo (by kernel_rfl) (by kernel_rfl) ?_) | (refine wp_region_mo' (by kernel_rfl) (by kernel_rfl) ?_)
      repeat (go_big_quiet_step (fail))
      refine wpQuiet_nil ?_
      intro _ hw'
      obtain ⟨⟨J9, d9⟩, hw''⟩ := hw'
      subst hw''
      go_wp2_with fail
      go_roundw
      case rel => exact ⟨j + 1, by omega, by go_num, hM.trans Mor.out⟩
      case measure => simp [intOf]; omega
    · obtain rfl : j = n := by omega
      clear lx1 lx2 lx3 lx4 lx5 ly1 ly2 ly3 ly4 ly5 nA nC HR1 HR2 cj hj HK
      have N1 := M1.trans hM
      obtain ⟨wo, hwo⟩ : ∃ w, w = wr := ⟨_, rfl⟩
      subst hwo
      --@@ steps
      go_wp2_with fail
      go_loopw [86] (fun i wq => ∃ k : Nat, k ≤ m ∧ i = .int .i64 k ∧ Mo wo wq) (fun i _ => m - (intOf i).toNat)
      case atStart => exact ⟨0, by omega, rfl, Mor.out⟩
      case round =>
        obtain ⟨k, hk, rfl, hQ⟩ := hrel
        obtain ⟨wq, hwq⟩ : ∃ w, w = wr := ⟨_, rfl⟩
        subst hwq
        have bX3 := hQ.blk bX2
        have bY3 := hQ.blk bY2
        have zX3 : LtW g1 wq := ⟨bX3.lt⟩
        have zY3 : LtW (g1 + 1) wq := ⟨bY3.lt⟩
        by_cases ck : k < m
        · have hkl : k < L.length := by rw [HL.out]; exact ck
          obtain ⟨gA, eA, rA⟩ := HS1.out (by omega)
          obtain ⟨gB, eB, rB⟩ := HS2.out (by omega)
          subst eA eB
          have qA := fun J d => ((rA.mo ((N1.trans hQ).trans Mor.out) : RowAt (more wq J d) gA (stpL L)).ldS k hkl)
          obtain ⟨c0, c1, c2⟩ := (rB.mo (N1.trans hQ) : RowAt wq gB (stpL L)).cS k hkl
          have zB : LtW gB wq := LtW.of_cell c0
          have e0 : (0 : Int) ≤ k := by omega
          have e1 : (k : Int) < m := by omega
          have hw : IntKind.i64.wrap ((k : Int) + 1) = k + 1 := by rw [IntKind.wrap_i64]; omega
          generalize L[k] = t at *
          obtain ⟨ta, tb, tc⟩ := t
          simp only at qA c0 c1 c2
          clear rA rB bX bY bX2 bY2 hkl ck
          --@@ r12
          go_upto_region 12 with (fail)
          first | (refine wp_region_mo (by kernel_rfl) (by kernel_rfl) ?_) | (refine wp_region_mo' (by kernel_rfl) (by kernel_rfl) ?_)
          repeat (go_big_quiet_step (fail))
          refine wpQuiet_nil ?_
          intro _ hw'
          obtain ⟨⟨J9, d9⟩, hw''⟩ := hw'
          subst hw''
          go_wp2_with fail
          go_roundw
          case rel => exact ⟨k + 1, by omega, by go_num, hQ.trans Mor.out⟩
          case measure => simp [intOf]; omega
        · obtain rfl : k = m := by omega
          go_wp2_with fail
          go_ret
          exact ⟨rfl, (N1.trans hQ).trans Mor.out⟩
set_option maxRecDepth 20000 in
theorem own_at0 {W : World} {b T s n c : Nat} {A : Option Addr} {xs : List Value} (h : W.ownsRow b T s (.slice A n c) n xs) (h0 : 0 < n) : ∃ g, A = some ⟨g, 0, none⟩ ∧ RowAt W g xs := by
  obtain ⟨g, rfl⟩ := own_adrE h h0
  exact ⟨g, rfl, own_row h⟩
set_option maxRecDepth 20000 in
theorem like_any {b1 b2 : Nat} {W : World} {E : Ent} {K : List Tau} {v1 v2 : Value} (h1 : SrvAt b1 W E K v1) (h2 : SrvAt b2 W E K v2) (ha : AdrS E.a) (hc : ∀ k, 0 ≤ E.c k ∧ E.c k ≤ 1000000) (hK : K.length ≤ 1000) (hs : E.st.length ≤ 1000) :
    Calls Try.prog 22 #[v1, v2] W fun e w' => e = .returned (.bool true) ∧ Mo W w' := by
  obtain ⟨t1, s1, rfl, o1, q1⟩ := h1
  obtain ⟨t2, s2, rfl, o2, q2⟩ := h2
  obtain ⟨A1, c1, rfl⟩ := own_slS o1
  obtain ⟨A2, c2, rfl⟩ := own_slS o2
  obtain ⟨B1, d1, rfl⟩ := own_slS q1
  obtain ⟨B2, d2, rfl⟩ := own_slS q2
  exact like_core E.a ha E.c hc E.s1 E.s2 E.s3 K.length c1 c2 E.st.length d1 d2 E.more A1 A2 B1 B2 K E.st rfl rfl hK hs _ _ W (srvL _ ha.z ..) (srvL _ ha.z ..) (own_at0 o1) (own_at0 o2) (own_at0 q1) (own_at0 q2)
end Go.Proofs.Ythgkhllkhhnlpaa
/- horologelaw36: small, addr, sample. -/
namespace Go.Proofs.Ythgkhllkhhnlpaa
open Go.RowKit Go.Maps

abbrev smlC : CfgS := ⟨0, 0, 1, 1, 1, 0, 1, 0, 0, 0, 0, 0⟩
abbrev adrN (n : Int) : Array Value := #[.bool false, .int .u8 10, .int .u8 0, .int .u8 0, .int .u8 n, .int .u8 0, .int .u8 0, .int .u8 0, .int .u8 0, .int .u8 0, .int .u8 0, .int .u8 0, .int .u8 0, .int .u8 0, .int .u8 0, .int .u8 0, .int .u8 0]
abbrev flw0 : List Value := [.bool false, .int .u8 0, .int .u8 0, .int .u8 0, .int .u8 0, .int .u8 0, .int .u8 0, .int .u8 0, .int .u8 0, .int .u8 0, .int .u8 0, .int .u8 0, .int .u8 0, .int .u8 0, .int .u8 0, .int .u8 0, .int .u8 0, .int .u16 0]
abbrev flwN (n : Int) : Array Value := #[.bool false, .int .u8 0, .int .u8 0, .int .u8 0, .int .u8 0, .int .u8 0, .int .u8 0, .int .u8 0, .int .u8 0, .int .u8 0, .int .u8 0, .int .u8 0, .int .u8 0, .int .u8 0, .int .u8 0, .int .u8 0, .int .u8 0, .int .u16 0, .bool false, .int .u8 10, .int .u8 0, .int .u8 0, .int .u8 n, .int .u8 0, .int .u8 0, .int .u8 0, .int .u8 0, .int .u8 0, .int .u8 0, .int .u8 0, .int .u8 0, .int .u8 0, .int .u8 0, .int .u8 0, .int .u8 0, .int .u16 0]
def smN (n at_ off : Int) : Smp := ⟨flwN n, 0, 0, 0, at_, off, 0, 0, 0⟩
set_option maxRecDepth 20000 in
theorem fit_u8 (m : Int) (h : 0 ≤ m ∧ m ≤ 255) : (CK.i IntKind.u8).fits (Value.int IntKind.u8 m) := ⟨rfl, by simp [Lit.wf, IntKind.min, IntKind.max, IntKind.signed, IntKind.bits]; omega⟩
set_option maxRecDepth 20000 in
set_option maxHeartbeats 4000000 in
theorem adrN_p (n : Int) (h : 0 ≤ n ∧ n ≤ 255) : AdrP (adrN n) := by
  have z := fit_u8 0 (by omega)
  have zt := fit_u8 10 (by omega)
  have zn := fit_u8 n h
  show Fits (ksOf 35) _
  rw [show ksOf 35 = [.b, .i .u8, .i .u8, .i .u8, .i .u8, .i .u8, .i .u8, .i .u8, .i .u8, .i .u8, .i .u8, .i .u8, .i .u8, .i .u8, .i .u8, .i .u8, .i .u8] from by kernel_rfl]
  simp only [Fits, and_true]
  refine ⟨by first | rfl | trivial, ?_⟩
  exact ⟨zt, z, z, zn, z, z, z, z, z, z, z, z, z, z, z, z⟩
set_option maxRecDepth 20000 in
theorem adrN_ok (n : Int) (h : 0 ≤ n ∧ n ≤ 255) : AdrS (adrN n) := ⟨adrN_p n h, rfl⟩
set_option maxRecDepth 20000 in
theorem smN_adr (n at_ off : Int) : smpA (smN n at_ off) = adrN n := by kernel_rfl
set_option maxRecDepth 20000 in
theorem smN_ok (n at_ off : Int) (h : 0 ≤ n ∧ n ≤ 255) (h1 : Is64S at_) (h2 : Is64S off) : SmpOk (smN n at_ off) := by
  have z0 : Is64S 0 := ⟨by decide, by decide⟩
  refine ⟨rfl, ?_, ?_, h2, z0, z0⟩
  · rw [smN_adr]
    exact adrN_ok n h
  · show InW at_
    obtain ⟨a, b⟩ := h1
    unfold InW
    omega
set_option maxRecDepth 20000 in
theorem buildF_cfg (l : Array (Nat × Value)) : Instr.build 26 l = buildF 26 l := rfl
set_option maxRecDepth 20000 in
theorem storeF_cfg (v x : Value) : Instr.storeAt 26 v x = storeF 26 v x := rfl
set_option maxRecDepth 20000 in
theorem buildF_adr (l : Array (Nat × Value)) : Instr.build 35 l = buildF 35 l := rfl
set_option maxRecDepth 20000 in
theorem buildF_smp (l : Array (Nat × Value)) : Instr.build 45 l = buildF 45 l := rfl
set_option maxRecDepth 20000 in
theorem run_build_cfg (w : World) : (buildF 26 #[(2, .int .i64 1), (3, .int .i64 1), (4, .int .i64 1), (6, .int .i64 1)]).run Try.prog w = .ok (.agg (cfC smlC)) w := run_build w _ _ _ (by kernel_rfl)
set_option maxRecDepth 20000 in
theorem run_build_b4 (n : Int) (w : World) : (Instr.build 33 #[(0, .int .u8 10), (1, .int .u8 0), (2, .int .u8 0), (3, .int .u8 n)]).run Try.prog w = .ok (.agg #[.int .u8 10, .int .u8 0, .int .u8 0, .int .u8 n, .int .u8 0, .int .u8 0, .int .u8 0, .int .u8 0, .int .u8 0, .int .u8 0, .int .u8 0, .int .u8 0, .int .u8 0, .int .u8 0, .int .u8 0, .int .u8 0]) w := run_build w _ _ _ (by kernel_rfl)
set_option maxRecDepth 20000 in
theorem run_build_adrN (n : Int) (w : World) : (buildF 35 #[(1, .agg #[.int .u8 10, .int .u8 0, .int .u8 0, .int .u8 n, .int .u8 0, .int .u8 0, .int .u8 0, .int .u8 0, .int .u8 0, .int .u8 0, .int .u8 0, .int .u8 0, .int .u8 0, .int .u8 0, .int .u8 0, .int .u8 0])]).run Try.prog w = .ok (.agg (adrN n)) w := run_build w _ _ _ (by kernel_rfl)
abbrev smp0L (h l off : Int) : List Value := [.bool false, .int .u8 0, .int .u8 0, .int .u8 0, .int .u8 0, .int .u8 0, .int .u8 0, .int .u8 0, .int .u8 0, .int .u8 0, .int .u8 0, .int .u8 0, .int .u8 0, .int .u8 0, .int .u8 0, .int .u8 0, .int .u8 0, .int .u16 0, .bool false, .int .u8 0, .int .u8 0, .int .u8 0, .int .u8 0, .int .u8 0, .int .u8 0, .int .u8 0, .int .u8 0, .int .u8 0, .int .u8 0, .int .u8 0, .int .u8 0, .int .u8 0, .int .u8 0, .int .u8 0, .int .u8 0, .int .u16 0, .int .i64 0, .int .u64 0, .int .i64 0, .int .u64 0, .int .i64 0, .int .u64 0, .int .i64 h, .int .u64 l, .int .i64 off, .int .i64 0, .int .i64 0, .int .u8 0]
def smp0 (h l off : Int) : Array Value := (smp0L h l off).toArray
set_option maxRecDepth 20000 in
theorem run_build_smp (h l off : Int) (w : World) : (buildF 45 #[(4, .agg #[.int .i64 h, .int .u64 l]), (5, .int .i64 off)]).run Try.prog w = .ok (.agg (smp0 h l off)) w := run_build w _ _ _ (by kernel_rfl)
set_option maxRecDepth 20000 in
instance sz_smp0 (h l off : Int) : SzA (smp0 h l off) 48 := ⟨rfl⟩
set_option maxRecDepth 20000 in
instance one_smp0 (h l off : Int) : OneA (smp0 h l off) := by unfold smp0; infer_instance
def smp1 (n h l off : Int) : Array Value := #[.bool false, .int .u8 0, .int .u8 0, .int .u8 0, .int .u8 0, .int .u8 0, .int .u8 0, .int .u8 0, .int .u8 0, .int .u8 0, .int .u8 0, .int .u8 0, .int .u8 0, .int .u8 0, .int .u8 0, .int .u8 0, .int .u8 0, .int .u16 0, .bool false, .int .u8 10, .int .u8 0, .int .u8 0, .int .u8 n, .int .u8 0, .int .u8 0, .int .u8 0, .int .u8 0, .int .u8 0, .int .u8 0, .int .u8 0, .int .u8 0, .int .u8 0, .int .u8 0, .int .u8 0, .int .u8 0, .int .u16 0, .int .i64 0, .int .u64 0, .int .i64 0, .int .u64 0, .int .i64 0, .int .u64 0, .int .i64 h, .int .u64 l, .int .i64 off, .int .i64 0, .int .i64 0, .int .u8 0]
set_option maxRecDepth 20000 in
instance sz_smp1 (n h l off : Int) : SzA (smp1 n h l off) 48 := ⟨rfl⟩
set_option maxRecDepth 20000 in
instance one_smp1 (n h l off : Int) : OneA (smp1 n h l off) := by unfold smp1; infer_instance
set_option maxRecDepth 20000 in
theorem smp1_eq (n at_ off : Int) : smp1 n (hiW at_) (loW at_) off = smpC (smN n at_ off) := by kernel_rfl
set_option maxRecDepth 20000 in
theorem run_store_adr (n h l off : Int) (w : World) (g : Nat) [b : Blk w g 45 (smp0 h l off)] : (storeF 35 (.pointer (some ⟨g, 18, none⟩)) (.agg (adrN n))).run Try.prog w = .ok () (w.setRow g (smp1 n h l off)) := by
  have b' : Blk w g 45 (smp0L h l off).toArray := b
  have : SzA (smp0L h l off).toArray 48 := ⟨rfl⟩
  exact run_storeF 35 17 w g 18 45 (smp0L h l off) (adrN n).toList 48 (by omega)
attribute [local go_sem] blk_cell' blk_frozen'
attribute [local go_sem ↓] loadF_cfg storeF_cfg buildF_cfg loadF_addr storeF_addr buildF_adr loadF_smp storeF_smp buildF_smp
attribute [local go_sem] run_loadF0 run_storeF0 run_build_cfg run_build_b4 run_build_adrN run_build_smp run_store_adr
set_option maxRecDepth 20000 in
set_option maxHeartbeats 4000000 in
theorem small_any (W : World) : Calls Try.prog 24 #[] W fun e w' => e = .returned (.agg (cfC smlC)) ∧ Mo W w' := by
  go_enter Try.func24, Try.ntmps24
  go_wp2_with fail
  refine ret_cS rfl W.heap.size (cfC smlC) rfl rfl inferInstance ?_
  exact ⟨rfl, Mor.out⟩
set_option maxRecDepth 20000 in
set_option maxHeartbeats 4000000 in
theorem addr_any (n : Int) (W : World) : Calls Try.prog 26 #[.int .u8 n] W fun e w' => e = .returned (.agg (adrN n)) ∧ Mo W w' := by
  go_enter Try.func26, Try.ntmps26
  go_wp2_with fail
  refine ret_cS rfl W.heap.size (adrN n) rfl rfl inferInstance ?_
  exact ⟨rfl, Mor.out⟩
set_option maxRecDepth 20000 in
set_option maxHeartbeats 4000000 in
theorem sample_any (n at_ off : Int) (h1 : Is64S at_) (W : World) : Calls Try.prog 25 #[.int .u8 n, .int .i64 at_, .int .i64 off] W fun e w' => e = .returned (.agg (smpC (smN n at_ off))) ∧ Mo W w' := by
  have OF := Lib.hid (fun w => of_any at_ h1.1 h1.2 w)
  have AD := Lib.hid (fun w => addr_any n w)
  go_enter Try.func25, Try.ntmps25
  go_upto_region 1 with (fail)
  refine wp_name ?_
  intro w1 hw1
  have b1 : ∃ cs, Blk w1 W.heap.size 45 cs ∧ cs = smp0 0 0 0 := ⟨_, by rw [hw1]; infer_instance, rfl⟩
  obtain ⟨cs, b1, rfl⟩ := b1
  have M1 : Mo W w1 := by rw [hw1]; exact Mor.out
  generalize hg : W.heap.size = g1 at *
  clear hw1
  --@@ of
  go_wp2_with fail
  refine (OF.out _).mono ?_
  rintro e w2 ⟨rfl, M2⟩
  have M12 : Mo w1 w2 := (Mor.out : Mo w1 _).trans M2
  have b2 := M12.blk b1
  have N2 := M1.trans M12
  clear M2 M12 b1 OF
  --@@ build
  go_upto_region 2 with (fail)
  refine wp_name ?_
  intro w3 hw3
  have b7 : Blk w3 w2.heap.size 45 (smp0 (hiW at_) (loW at_) off) := by rw [hw3]; infer_instance
  have M23 : Mo w2 w3 := by rw [hw3]; exact Mor.out
  have b3 := M23.blk b2
  have N3 := N2.trans M23
  have l27 : g1 < w2.heap.size := b2.lt
  have l1 : W.heap.size ≤ w2.heap.size := N2.size
  generalize w2.heap.size = g7 at *
  clear hw3 M23 b2
  --@@ adr
  go_wp2_with fail
  refine (AD.out _).mono ?_
  rintro e w4 ⟨rfl, M4⟩
  have M34 : Mo w3 w4 := (Mor.out : Mo w3 _).trans M4
  have b74 := M34.blk b7
  have b14 := M34.blk b3
  have N4 := N3.trans M34
  clear M4 M34 b7 b3 AD
  --@@ store
  go_upto_region 3 with (fail)
  refine wp_name ?_
  intro w5 hw5
  have b75 : Blk w5 g7 45 (smp1 n (hiW at_) (loW at_) off) := by rw [hw5]; exact blk_setRow b74
  have b15 : Blk w5 g1 45 (smp0 0 0 0) := by rw [hw5]; exact blk_setRow_ne b14 (by omega)
  have N5 : Mo W w5 := by rw [hw5]; exact mo_setRow N4 (by omega) _
  clear hw5 b74 b14
  go_wp2_with fail
  refine ret_cS rfl g1 (smp1 n (hiW at_) (loW at_) off) rfl rfl (blk_setRow b15) ?_
  exact ⟨by rw [smp1_eq], mo_setRow N5 (by omega) _⟩
end Go.Proofs.Ythgkhllkhhnlpaa
/- horologelaw36.works. -/
namespace Go.Proofs.Ythgkhllkhhnlpaa
open Go.RowKit Go.Maps

/-- a table that was made behind W0 -/
def Ses (W0 w : World) (T b : Nat) (C : CfgS) (o wd : Nat) (es : List Ent) (ot : Ent) (n : Nat) : Prop := ∃ S, TabW w T b S C o wd es ot n ∧ (∀ k, S k → W0.heap.size ≤ k) ∧ Mo W0 w
set_option maxRecDepth 20000 in
theorem Ses.mo {W0 w w' : World} {T b : Nat} {C : CfgS} {o wd : Nat} {es : List Ent} {ot : Ent} {n : Nat} (h : Ses W0 w T b C o wd es ot n) (k : Mo w w') : Ses W0 w' T b C o wd es ot n := by
  obtain ⟨S, t, q, m⟩ := h
  exact ⟨S, t.mo k, q, m.trans k⟩
set_option maxRecDepth 20000 in
theorem Ses.out {W0 w : World} {T b : Nat} {C : CfgS} {o wd : Nat} {es : List Ent} {ot : Ent} {n : Nat} (h : Ses W0 w T b C o wd es ot n) : Mo W0 w := by
  obtain ⟨S, t, q, m⟩ := h
  exact m
set_option maxRecDepth 20000 in
theorem done_ses {W0 w w' : World} {T b : Nat} {S : Nat → Prop} {C : CfgS} {o wd : Nat} {es : List Ent} {ot : Ent} {n : Nat} {a : Array Value} {f : Option Nat → Ent → Ent} {e : Ending} (q : ∀ k, S k → W0.heap.size ≤ k) (m : Mo W0 w) (h : DoneT T b S C o wd es ot n a f w e w') :
    ∃ es1 q, e = .returned (.int .i64 (numO q)) ∧ OfP C.sv (sd0 wd C.st) a es es1 q ∧ Ses W0 w' T b C o wd (chg (f q) es1 ot q).1 (chg (f q) es1 ot q).2 (n + 1) := by
  obtain ⟨es1, p, S1, e1, P, t, K, fr⟩ := h
  exact ⟨es1, p, e1, P, S1, t, fun k hk => (fr k hk).elim (q k) (Nat.le_trans m.size), K.mo m fun k _ => q k⟩
set_option maxRecDepth 20000 in
theorem put_ses {W0 w : World} {T b : Nat} {C : CfgS} {o wd : Nat} {es : List Ent} {ot : Ent} {n : Nat} (h : Ses W0 w T b C o wd es ot n) (X : Smp) (ok : SmpOk X) (hn : n ≤ 900) :
    Calls Try.prog 10 #[ptrS T, .agg (smpC X)] w fun e w' => ∃ es1 q, e = .returned (.int .i64 (numO q)) ∧ OfP C.sv (sd0 wd C.st) (smpA X) es es1 q ∧ Ses W0 w' T b C o wd (chg (fun E => if q.isSome then putE C.sl E X else sumE E X) es1 ot q).1 (chg (fun E => if q.isSome then putE C.sl E X else sumE E X) es1 ot q).2 (n + 1) := by
  obtain ⟨S, t, q, m⟩ := h
  exact (tput_any t X ok hn).mono fun e w' D => done_ses q m D
set_option maxRecDepth 20000 in
theorem count_ses {W0 w : World} {T b : Nat} {C : CfgS} {o wd : Nat} {es : List Ent} {ot : Ent} {n : Nat} (h : Ses W0 w T b C o wd es ot n) (a : Array Value) (ha : AdrS a) (k : Nat) (hn : n ≤ 900) :
    Calls Try.prog 11 #[ptrS T, .agg a, .int .u8 (k : Nat)] w fun e w' => ∃ es1 q, e = .returned (.int .i64 (numO q)) ∧ OfP C.sv (sd0 wd C.st) a es es1 q ∧ Ses W0 w' T b C o wd (chg (fun E => if k < 9 then incE E k else E) es1 ot q).1 (chg (fun E => if k < 9 then incE E k else E) es1 ot q).2 (n + 1) := by
  obtain ⟨S, t, q, m⟩ := h
  exact (tcount_w t a ha k hn).mono fun e w' D => done_ses q m D
set_option maxRecDepth 20000 in
theorem new_ses (C : CfgS) (o w : Nat) (ok : CfgOk C o w) (W : World) :
    Calls Try.prog 9 #[.agg (cfC C)] W fun e w' => ∃ T D, e = .returned (.tuple #[ptrS T, .int .i64 0]) ∧ Ses W w' T W.heap.size C o w [] (ent0 adr0 D) 0 := by
  refine (tnew_in C o w ok W).mono ?_
  rintro e w' ⟨T, B, go, Fo, D, rfl, t, lT, lB, lF, M⟩
  refine ⟨T, D, rfl, fun k => W.heap.size ≤ k ∧ k < w'.heap.size, ⟨⟨B, _, [], [], go, Fo, t, ⟨⟨lT, t.t.lt⟩, ⟨lB, t.num.lt⟩, fun k e => by simp [Value.ownBlock] at e, fun i F hF => by simp at hF, fun k hk => ⟨lF k hk, ?_⟩⟩⟩, fun k hk => hk.2, M.size⟩, fun k hk => hk.1, M⟩
  obtain ⟨_, _, _, _, _, _, he⟩ := t.oth
  exact he.ty.lt k hk
set_option maxRecDepth 20000 in
theorem told_ses {W0 w : World} {T b : Nat} {C : CfgS} {o wd : Nat} {es : List Ent} {ot : Ent} {n : Nat} (h : Ses W0 w T b C o wd es ot n) (hn : n ≤ 1000) (i : Nat) (E : Ent) (hi : es[i]? = some E) :
    Calls Try.prog 16 #[ptrS T, .int .i64 (i : Nat)] w fun e w' => ∃ v, e = .returned (.tuple #[v, .bool true]) ∧ SrvAt (w.heap.size + 1) w' E (taus E.M o) v ∧ Mo w w' := by
  obtain ⟨S, t, q, m⟩ := h
  exact ttold_ent t hn i E hi
set_option maxRecDepth 20000 in
theorem toldo_ses {W0 w : World} {T b : Nat} {C : CfgS} {o wd : Nat} {es : List Ent} {ot : Ent} {n : Nat} (h : Ses W0 w T b C o wd es ot n) (hn : n ≤ 1000) (i : Nat) (hi : es.length = i) :
    Calls Try.prog 16 #[ptrS T, .int .i64 (i : Nat)] w fun e w' => ∃ v, e = .returned (.tuple #[v, .bool true]) ∧ SrvAt (w.heap.size + 1) w' ot [] v ∧ Mo w w' := by
  obtain ⟨S, t, q, m⟩ := h
  subst hi
  exact ttold_oth t hn
set_option maxRecDepth 20000 in
theorem len_ses {W0 w : World} {T b : Nat} {C : CfgS} {o wd : Nat} {es : List Ent} {ot : Ent} {n : Nat} (h : Ses W0 w T b C o wd es ot n) :
    Calls Try.prog 15 #[ptrS T] w fun e w' => e = .returned (.int .i64 (es.length : Nat)) ∧ Mo w w' := by
  obtain ⟨S, t, q, m⟩ := h
  exact tlen_w t
set_option maxRecDepth 20000 in
theorem live_ses {W0 w : World} {T b : Nat} {C : CfgS} {o wd : Nat} {es : List Ent} {ot : Ent} {n : Nat} (h : Ses W0 w T b C o wd es ot n) (hn : n ≤ 1000) :
    Calls Try.prog 19 #[ptrS T] w fun e w' => e = .returned (.int .i64 ((es.length + liveSum o es : Nat) : Int)) ∧ Mo w w' := by
  obtain ⟨S, t, q, m⟩ := h
  exact tlive_any t hn
set_option maxRecDepth 20000 in
theorem find_ses {W0 w : World} {T b : Nat} {C : CfgS} {o wd : Nat} {es : List Ent} {ot : Ent} {n : Nat} (h : Ses W0 w T b C o wd es ot n) (a : Array Value) (ha : AdrS a) :
    Calls Try.prog 13 #[ptrS T, .agg a] w fun e w' => ∃ q : Option Nat, e = .returned (.tuple #[.int .i64 (numO q), .bool q.isSome]) ∧ (∀ i, q = some i → (es.map (·.a))[i]? = some a) ∧ (q = none → a ∉ es.map (·.a)) ∧ Mo w w' := by
  obtain ⟨S, t, q, m⟩ := h
  exact tfind_w t a ha
set_option maxRecDepth 20000 in
theorem smlOk : CfgOk smlC 1 1 := ⟨by decide, by decide, by decide, by decide, rfl, by decide, by decide, rfl, by decide, by decide, by decide, by decide⟩
/-! ### what the small table's deeds do -/
abbrev D11 : Sd := sd0 1 0
set_option maxRecDepth 20000 in
theorem adr_ne {m n : Int} (h : m ≠ n) : adrN m ≠ adrN n := fun e => by
  have := congrArg (fun a : Array Value => a[4]?) e
  simp at this
  exact h this
set_option maxRecDepth 20000 in
theorem sml_first {a : Array Value} {es1 : List Ent} {q : Option Nat} (p : OfP 1 D11 a [] es1 q) : es1 = [ent0 a D11] ∧ q = some 0 := by
  cases p with
  | yes h e => simp at h
  | new h l => exact ⟨rfl, rfl⟩
  | full h l => simp at l
set_option maxRecDepth 20000 in
theorem sml_same {E : Ent} {a : Array Value} (h : E.a = a) {es1 : List Ent} {q : Option Nat} (p : OfP 1 D11 a [E] es1 q) : es1 = [E] ∧ q = some 0 := by
  cases p with
  | @yes i E' h' e =>
    cases i with
    | zero => exact ⟨rfl, rfl⟩
    | succ i => simp at h'
  | new h' l => simp at l
  | full h' l => simp [h] at h'
set_option maxRecDepth 20000 in
theorem sml_other {E : Ent} {a : Array Value} (h : E.a ≠ a) {es1 : List Ent} {q : Option Nat} (p : OfP 1 D11 a [E] es1 q) : es1 = [E] ∧ q = none := by
  cases p with
  | @yes i E' h' e =>
    cases i with
    | zero =>
      simp only [List.getElem?_cons_zero, Option.some.injEq] at h'
      subst h'
      exact absurd e h
    | succ i => simp at h'
  | new h' l => simp at l
  | full h' l => exact ⟨rfl, rfl⟩
set_option maxRecDepth 20000 in
theorem chg_one (f : Ent → Ent) (E ot : Ent) : chg f [E] ot (some 0) = ([f E], ot) := rfl
set_option maxRecDepth 20000 in
theorem chg_oth (f : Ent → Ent) (es : List Ent) (ot : Ent) : chg f es ot none = (es, f ot) := rfl
def wE1 : Ent := incE (ent0 (adrN 1) D11) 4
def wE2 : Ent := incE wE1 0
def wE3 : Ent := putE 1 wE2 (smN 1 0 3)
def wE4 : Ent := putE 1 wE3 (smN 1 1 9)
set_option maxRecDepth 20000 in
theorem wE4_st : wE4.st = [(1, 3, 9)] := by decide +kernel
set_option maxRecDepth 20000 in
theorem wE4_live : liveE 1 wE4 = 5 := by decide +kernel
end Go.Proofs.Ythgkhllkhhnlpaa
/- horologelaw36.works: the walk. -/
namespace Go.Proofs.Ythgkhllkhhnlpaa
open Go.RowKit Go.Maps

set_option maxRecDepth 20000 in
/-- what a told server's cells give to a reader -/
theorem srv_adr {Z a : Array Value} {c : Nat → Int} {S1 S2 S3 : St} {tv sv : Value} {mr : Nat} (hZ : SrvL a c S1 S2 S3 tv sv mr Z) (w : World) (g : Nat) (b : Blk w g 62 Z) : (loadF 35 (.pointer (some ⟨g, 0, none⟩))).run Try.prog w = .ok (.agg a) w := by
  have iz : SzA Z 47 := ⟨hZ.sz⟩
  rw [run_loadFz 35 17 w g 62 Z 47 (by omega), hZ.ad]
set_option maxRecDepth 20000 in
theorem run_build_adr0F (w : World) : (buildF 35 #[]).run Try.prog w = .ok (.agg adr0) w := run_build w _ _ _ (by kernel_rfl)
set_option maxRecDepth 20000 in
theorem srv_cnt {a : Array Value} (h : a.size = 17) (c : Nat → Int) (S1 S2 S3 : St) (tv sv : Value) (mr : Nat) (k : Nat) (hk : k < 9) : (srvC a c S1 S2 S3 tv sv mr)[17 + k]? = some (.int .i64 (c k)) := by
  rw [srvC_hi h]
  rcases (show k = 0 ∨ k = 1 ∨ k = 2 ∨ k = 3 ∨ k = 4 ∨ k = 5 ∨ k = 6 ∨ k = 7 ∨ k = 8 by omega) with rfl | rfl | rfl | rfl | rfl | rfl | rfl | rfl | rfl <;> rfl
set_option maxRecDepth 20000 in
theorem srv_c1 {a : Array Value} (h : a.size = 17) (c : Nat → Int) (S1 S2 S3 : St) (tv sv : Value) (mr : Nat) : (srvC a c S1 S2 S3 tv sv mr)[26]? = some (.int .i64 S1.c) ∧ (srvC a c S1 S2 S3 tv sv mr)[27]? = some (.int .i64 S1.w) := ⟨srvC_hi h c S1 S2 S3 tv sv mr 9, srvC_hi h c S1 S2 S3 tv sv mr 10⟩
set_option maxRecDepth 20000 in
theorem own_s0 {w : World} {b T s : Nat} {v : Value} {xs : List Value} (h : w.ownsRow b T s v 0 xs) : ∃ A c, v = .slice A 0 c := own_slS h
set_option maxRecDepth 20000 in
instance sz_srv {a : Array Value} [h : SzA a 17] (c : Nat → Int) (S1 S2 S3 : St) (tv sv : Value) (mr : Nat) : SzA (srvC a c S1 S2 S3 tv sv mr) 47 := ⟨srvC_size h.out c S1 S2 S3 tv sv mr⟩
set_option maxRecDepth 20000 in
theorem srvAt_one {b : Nat} {w : World} {E : Ent} {K : List Tau} {v : Value} (h : SrvAt b w E K v) (ha : AdrS E.a) : ∃ X : Array Value, v = .agg X ∧ X.size = 47 ∧ OneA X := by
  obtain ⟨tv, sv, rfl, o1, o2⟩ := h
  exact ⟨_, rfl, srvC_size ha.z .., srvC_one (one_of_fits ha.p) _ _ _ _ (own_one o1) (own_one o2) _⟩
attribute [local go_sem] blk_cell' blk_frozen'
attribute [local go_sem ↓] loadF_addr loadF_srv storeF_srv buildF_adr neqF_adr
attribute [local go_sem] run_loadF0 run_storeF0 run_build_adr0F
set_option maxRecDepth 20000 in
set_option maxHeartbeats 16000000 in
theorem works36_any (W : World) : Calls Try.prog 8 #[] W fun e w' => e = .returned (.bool true) ∧ Mo W w' := by
  have SM := Lib.hid small_any
  have NW := Lib.hid (fun w => new_ses smlC 1 1 smlOk w)
  have A1 := Lib.hid (fun w => addr_any 1 w)
  have S2 := Lib.hid (fun w => sample_any 2 0 5 ⟨by decide, by decide⟩ w)
  have ad1 := adrN_ok 1 (by omega)
  have ok2 := Lib.hid (smN_ok 2 0 5 (by omega) ⟨by decide, by decide⟩ ⟨by decide, by decide⟩)
  go_enter Try.func8, Try.ntmps8
  --@@ small
  go_wp2_with fail
  refine (SM.out _).mono ?_
  rintro e w1 ⟨rfl, M1⟩
  go_wp2_with fail
  refine (NW.out _).mono ?_
  rintro e w2 ⟨T, D, rfl, H2⟩
  have N1 : Mo W w1 := (Mor.out : Mo W _).trans M1
  generalize w1.heap.size = b at H2
  have H := Lib.hid H2
  clear H2 M1 SM NW
  --@@ count
  go_wp2_with fail
  refine (A1.out _).mono ?_
  rintro e w3 ⟨rfl, M3⟩
  have H3 := Lib.hid (H.out.mo ((Mor.out : Mo w2 _).trans M3))
  clear M3 H
  go_wp2_with fail
  refine (count_ses (H3.out.mo Mor.out) (adrN 1) ad1 4 (by omega)).mono ?_
  rintro e w4 ⟨es1, q, rfl, P, H4⟩
  obtain ⟨rfl, rfl⟩ := sml_first P
  rw [chg_one] at H4
  have H := Lib.hid (show Ses w1 w4 T b smlC 1 1 [wE1] (ent0 adr0 D) 1 from H4)
  have e0 : numO (some 0) = 0 := rfl
  rw [e0]
  clear H4 P H3
  --@@ put
  go_wp2_with fail
  refine (S2.out _).mono ?_
  rintro e w5 ⟨rfl, M5⟩
  have H5 := Lib.hid (H.out.mo ((Mor.out : Mo w4 _).trans M5))
  clear M5 H S2
  go_wp2_with fail
  refine (put_ses (H5.out.mo Mor.out) (smN 2 0 5) ok2.out (by omega)).mono ?_
  rintro e w6 ⟨es1, q, rfl, P, H6⟩
  rw [smN_adr] at P
  obtain ⟨rfl, rfl⟩ := sml_other (adr_ne (m := 1) (n := 2) (by decide)) P
  rw [chg_oth] at H6
  have H := Lib.hid (show Ses w1 w6 T b smlC 1 1 [wE1] (sumE (ent0 adr0 D) (smN 2 0 5)) 2 from H6)
  have e1 : numO none = -1 := rfl
  rw [e1]
  clear H6 P H5 ok2
  --@@ count2
  go_wp2_with fail
  refine (A1.out _).mono ?_
  rintro e w7 ⟨rfl, M7⟩
  have H7 := Lib.hid (H.out.mo ((Mor.out : Mo w6 _).trans M7))
  clear M7 H
  go_wp2_with fail
  refine (count_ses (H7.out.mo Mor.out) (adrN 1) ad1 0 (by omega)).mono ?_
  rintro e w8 ⟨es1, q, rfl, P, H8⟩
  obtain ⟨rfl, rfl⟩ := sml_same (E := wE1) rfl P
  rw [chg_one] at H8
  have H := Lib.hid (show Ses w1 w8 T b smlC 1 1 [wE2] (sumE (ent0 adr0 D) (smN 2 0 5)) 3 from H8)
  rw [e0]
  clear H8 P H7
  --@@ told
  go_wp2_with fail
  refine (told_ses (H.out.mo Mor.out) (by omega) 0 wE2 rfl).mono ?_
  rintro e w9 ⟨v, rfl, R9, M9⟩
  have M89 : Mo w8 w9 := (Mor.out : Mo w8 _).trans M9
  obtain ⟨S, t9, qS, m9⟩ := H.out.mo M89
  have H9 := Lib.hid t9
  have HQ := Lib.hid qS
  have HG6 := Lib.hid m9.size
  have nS : ¬ S w9.heap.size := fun h => by have := t9.lt _ h; omega
  obtain ⟨X, rfl, zX, oX⟩ := srvAt_one R9 (show AdrS wE2.a from ad1)
  have iz : SzA X 47 := ⟨zX⟩
  clear zX
  have HR9 := Lib.hid R9
  clear M9 M89 R9 H t9 qS
  --@@ told1
  go_upto_region 6 with (fail)
  refine wp_name ?_
  intro wa hwa
  have bX : Blk wa w9.heap.size 62 X := by rw [hwa]; infer_instance
  have Ma : Mo w9 wa := by rw [hwa]; exact Mor.out
  have HA := Lib.hid (H9.out.mo Ma)
  have ma := m9.trans Ma
  generalize hg6 : w9.heap.size = g6 at *
  clear hwa H9 m9
  go_wp2_with fail
  refine (ttold_oth (HA.out.mo Mor.out) (by omega)).mono ?_
  rintro e wb ⟨v, rfl, Rb, Mb⟩
  have Mab : Mo wa wb := (Mor.out : Mo wa _).trans Mb
  have HB := Lib.hid (HA.out.mo Mab)
  have bXb := Mab.blk bX
  have mb := ma.trans Mab
  obtain ⟨Y, rfl, zY, oY⟩ := srvAt_one Rb (show AdrS adr0 from ⟨adr0_p, rfl⟩)
  have iy : SzA Y 47 := ⟨zY⟩
  clear zY
  have HRb := Lib.hid Rb
  clear Mb Mab Rb HA bX Ma ma
  --@@ r7
  go_upto_region 7 with (fail)
  refine wp_name ?_
  intro wc hwc
  have bY : Blk wc wb.heap.size 62 Y := by rw [hwc]; infer_instance
  have Mc : Mo wb wc := by rw [hwc]; exact Mor.out
  have bXc := Mc.blk bXb
  have HC := Lib.hid (HB.out.mo Mc)
  have mc := mb.trans Mc
  generalize wb.heap.size = g8 at *
  clear hwc HB bXb mb Mc
  obtain ⟨tv, sv, eX, o1, o2⟩ := HR9.out
  obtain ⟨tv', sv', eY, o1', o2'⟩ := HRb.out
  have eX' : X = srvC (adrN 1) wE2.c wE2.s1 wE2.s2 wE2.s3 tv sv wE2.more := by injection eX
  have eY' : Y = srvC adr0 (fun _ => 0) (sumE (ent0 adr0 D) (smN 2 0 5)).s1 (sumE (ent0 adr0 D) (smN 2 0 5)).s2 (sumE (ent0 adr0 D) (smN 2 0 5)).s3 tv' sv' 0 := by injection eY
  have x21 : X[21]? = some (.int .i64 1) := by rw [eX']; exact srv_cnt rfl _ _ _ _ _ _ _ 4 (by omega)
  have x17 : X[17]? = some (.int .i64 1) := by rw [eX']; exact srv_cnt rfl _ _ _ _ _ _ _ 0 (by omega)
  have y26 : Y[26]? = some (.int .i64 1) := by rw [eY']; exact (srv_c1 rfl _ _ _ _ _ _ _).1
  obtain ⟨A9, c9', rfl⟩ := own_s0 o1'
  have y44 : Y[44]? = some (.slice A9 0 c9') := by rw [eY']; exact srvC_hi rfl _ _ _ _ _ _ _ 27
  have lX := fun J d => srv_adr (by rw [eX']; exact srvL (adrN 1) rfl _ _ _ _ _ _ _) (more wc J d) g6 ((Mor.out : Mo wc (more wc J d)).blk bXc)
  have lY := fun J d => srv_adr (by rw [eY']; exact srvL adr0 rfl _ _ _ _ _ _ _) (more wc J d) g8 ((Mor.out : Mo wc (more wc J d)).blk bY)
  have n1 := fun w => run_neq_adr w ad1
  have n0 := fun w => run_neq_adr w (show AdrS adr0 from ⟨adr0_p, rfl⟩)
  clear eX eY eX' eY' o1 o2 o1' o2' HR9 HRb
  first | (refine wp_region_mo (by kernel_rfl) (by kernel_rfl) ?_) | (refine wp_region_mo' (by kernel_rfl) (by kernel_rfl) ?_)
  repeat (go_big_quiet_step (first | (with_reducible exact quiet_mo (A1.out _))))
  refine wpQuiet_nil ?_
  intro _ hw'
  obtain ⟨⟨J9, d9⟩, hw''⟩ := hw'
  subst hw''
  have lg : g6 < wc.heap.size := bXc.lt
  clear lX lY n1 n0 x21 x17 y26 y44 bY A1
  have S3 := Lib.hid (fun w => sample_any 1 0 3 ⟨by decide, by decide⟩ w)
  have S4 := Lib.hid (fun w => sample_any 1 1 9 ⟨by decide, by decide⟩ w)
  have ok3 := Lib.hid (smN_ok 1 0 3 (by omega) ⟨by decide, by decide⟩ ⟨by decide, by decide⟩)
  have ok4 := Lib.hid (smN_ok 1 1 9 (by omega) ⟨by decide, by decide⟩ ⟨by decide, by decide⟩)
  --@@ put3
  go_wp2_with fail
  refine (S3.out _).mono ?_
  rintro e wd ⟨rfl, Md⟩
  have Mcd : Mo wc wd := (Mor.out : Mo wc _).trans Md
  have HD := Lib.hid (HC.out.mo Mcd)
  have bXd := Mcd.blk bXc
  have md := mc.trans Mcd
  clear Md Mcd HC bXc mc S3
  go_wp2_with fail
  refine (tput_any (HD.out.mo Mor.out) (smN 1 0 3) ok3.out (by omega)).mono ?_
  rintro e we ⟨es1, q, S', rfl, P, t', K, fr⟩
  rw [smN_adr] at P
  obtain ⟨rfl, rfl⟩ := sml_same (E := wE2) rfl P
  have HE : Hid (TabW we T b S' smlC 1 1 [wE3] (sumE (ent0 adr0 D) (smN 2 0 5)) 4) := Lib.hid t'
  rw [e0]
  have bXe := K.blk ((Mor.out : Mo wd _).blk bXd) nS
  have nS' : ¬ S' g6 := fun h => (fr _ h).elim nS (fun z => Nat.lt_irrefl _ (Nat.lt_of_lt_of_le bXd.lt (Nat.le_trans (Mo.size Mor.out) z)))
  have qS' : ∀ k, S' k → w1.heap.size ≤ k := fun k h => (fr k h).elim (HQ.out k) (Nat.le_trans (md.trans Mor.out).size)
  have me : Mo w1 we := K.mo (md.trans Mor.out) fun k _ => HQ.out k
  have HQ' := Lib.hid qS'
  clear t' P K fr HD bXd nS qS' md HQ ok3
  --@@ put4
  go_wp2_with fail
  refine (S4.out _).mono ?_
  rintro e wf ⟨rfl, Mf⟩
  have Mef : Mo we wf := (Mor.out : Mo we _).trans Mf
  have HF := Lib.hid (HE.out.mo Mef)
  have bXf := Mef.blk bXe
  have mf := me.trans Mef
  clear Mf Mef HE bXe me S4
  go_wp2_with fail
  refine (tput_any (HF.out.mo Mor.out) (smN 1 1 9) ok4.out (by omega)).mono ?_
  rintro e wg ⟨es1, q, S'', rfl, P, t', K, fr⟩
  rw [smN_adr] at P
  obtain ⟨rfl, rfl⟩ := sml_same (E := wE3) rfl P
  have HG : Hid (TabW wg T b S'' smlC 1 1 [wE4] (sumE (ent0 adr0 D) (smN 2 0 5)) 5) := Lib.hid t'
  rw [e0]
  have bXg := K.blk ((Mor.out : Mo wf _).blk bXf) nS'
  have nS'' : ¬ S'' g6 := fun h => (fr _ h).elim nS' (fun z => Nat.lt_irrefl _ (Nat.lt_of_lt_of_le bXf.lt (Nat.le_trans (Mo.size Mor.out) z)))
  have mg : Mo w1 wg := K.mo (mf.trans Mor.out) fun k _ => HQ'.out k
  clear t' P K fr HF bXf nS' mf HQ' ok4
  --@@ told3
  go_wp2_with fail
  refine (ttold_ent (HG.out.mo Mor.out) (by omega) 0 wE4 rfl).mono ?_
  rintro e wh ⟨v, rfl, Rh, Mh⟩
  have Mgh : Mo wg wh := (Mor.out : Mo wg _).trans Mh
  have HH := Lib.hid (HG.out.mo Mgh)
  have bXh := Mgh.blk bXg
  have mh := mg.trans Mgh
  obtain ⟨Z, rfl, zZ, oZ⟩ := srvAt_one Rh (show AdrS wE4.a from ad1)
  have i3 : SzA Z 47 := ⟨zZ⟩
  clear zZ
  have HRh := Lib.hid Rh
  clear Mh Mgh Rh HG bXg mg
  --@@ r12
  go_upto_region 12 with (fail)
  refine wp_name ?_
  intro wi hwi
  have KI : KpS (fun i => i = g6) wh wi := by rw [hwi]; exact kpS_setRow wh g6 Z rfl
  have bZ : Blk wi g6 62 Z := by rw [hwi]; exact blk_setRow bXh
  have HI := Lib.hid (HH.out.kp KI fun i hi e => nS'' (e ▸ hi))
  have l6 : w1.heap.size ≤ g6 := HG6.out
  have mi : Mo w1 wi := KI.mo mh fun k _ e => by rw [e]; exact l6
  obtain ⟨tv, sv, eZ, o1, o2⟩ := HRh.out
  have eZ' : Z = srvC (adrN 1) wE4.c wE4.s1 wE4.s2 wE4.s3 tv sv wE4.more := by injection eZ
  rw [wE4_st] at o2
  replace o2 : wh.ownsRow (wg.heap.size + 1) 85 3 sv 1 (stpL [(1, 3, 9)]) := o2
  obtain ⟨B9, d9', rfl⟩ := own_slS o2
  have o3 := own_kpS o2 KI fun g hg e => own_noTS o2 bXh (by decide) (e ▸ hg)
  obtain ⟨gS, rfl, rS⟩ := own_at0 o3 (by omega)
  obtain ⟨c0, c1, c2⟩ := rS.cS 0 (by decide)
  simp only [List.getElem_cons_zero, Nat.zero_mul, Nat.zero_add] at c0 c1 c2
  have zS : LtW gS wi := LtW.of_cell c0
  have z45 : Z[45]? = some (.slice (some ⟨gS, 0, none⟩) 1 d9') := by rw [eZ']; exact srvC_hi rfl _ _ _ _ _ _ _ 28
  have LV : Hid (∀ w, Mo wi w → Calls Try.prog 19 #[ptrS T] w fun e w' => e = .returned (.int .i64 6) ∧ Mo w w') := Lib.hid (fun w m => by
    have := tlive_any (HI.out.mo m) (by omega)
    rwa [show ([wE4].length + liveSum 1 [wE4] : Nat) = 6 by simp [liveSum, wE4_live]] at this)
  have LN : Hid (∀ w, Mo wi w → Calls Try.prog 15 #[ptrS T] w fun e w' => e = .returned (.int .i64 1) ∧ Mo w w') := Lib.hid (fun w m => tlen_w (HI.out.mo m))
  clear hwi KI bXh HH nS'' mh eZ eZ' o1 o2 o3 rS HRh lg
  go_wp2_with fail
  refine (LV.out _ Mor.out).mono ?_
  rintro e wj ⟨rfl, Mj⟩
  have Mij : Mo wi wj := (Mor.out : Mo wi _).trans Mj
  go_wp2_with fail
  refine (LN.out _ (Mij.trans Mor.out)).mono ?_
  rintro e wk ⟨rfl, Mk⟩
  have Mik : Mo wi wk := Mij.trans ((Mor.out : Mo wj _).trans Mk)
  clear Mj Mk Mij LV LN
  --@@ ret
  go_wp2_with fail
  first | go_ret | skip
  exact ⟨rfl, (N1.trans mi).trans (Mik.trans Mor.out)⟩
end Go.Proofs.Ythgkhllkhhnlpaa
