/- horologelaw36.same. -/
import Derived.Test.YthgkhllkhhnlpaaPlO
import Derived.Test.YthgkhllkhhnlpaaSvW2
namespace Go.Proofs.Ythgkhllkhhnlpaa
open Go.RowKit Go.Maps

/-- loads of the parts of what is told -/
structure TdL (c : Nat → Int) (S1 S2 S3 : St) (tv sv : Value) (lv : Int) (X : Array Value) : Prop where
  sz : X.size = 30
  cn : X.extract 0 9 = c9 c
  t1 : X.extract 9 15 = totV S1
  t2 : X.extract 15 21 = totV S2
  t3 : X.extract 21 27 = totV S3
  tv : X[27]? = some tv
  sv : X[28]? = some sv
  lv : X[29]? = some (.int .i64 lv)
set_option maxRecDepth 20000 in
theorem td_ext (c : Nat → Int) (S1 S2 S3 : St) (tv sv : Value) (lv : Int) (i j : Nat) (l : List Value) (hj : i + l.length = j) (hl : ((tdL c (totS6 S1) (totS6 S2) (totS6 S3) tv sv lv).drop i).take l.length = l) : (tdC c (totS6 S1) (totS6 S2) (totS6 S3) tv sv lv).extract i j = l.toArray := by
  apply Array.toList_inj.1
  rw [Array.toList_extract, List.extract_eq_take_drop]
  unfold tdC
  rw [List.toList_toArray, show j - i = l.length by omega, hl]
set_option maxRecDepth 20000 in
theorem tdL_of (c : Nat → Int) (S1 S2 S3 : St) (tv sv : Value) (lv : Int) : TdL c S1 S2 S3 tv sv lv (tdC c (totS6 S1) (totS6 S2) (totS6 S3) tv sv lv) :=
  ⟨td_size rfl rfl rfl, td_ext c S1 S2 S3 tv sv lv 0 9 (c9 c).toList rfl rfl, td_ext c S1 S2 S3 tv sv lv 9 15 (totV S1).toList rfl rfl, td_ext c S1 S2 S3 tv sv lv 15 21 (totV S2).toList rfl rfl, td_ext c S1 S2 S3 tv sv lv 21 27 (totV S3).toList rfl rfl, td_27 rfl rfl rfl, td_28 rfl rfl rfl, td_29 rfl rfl rfl⟩
set_option maxRecDepth 20000 in
theorem RowAt.mo' {W w : World} {g : Nat} {xs : List Value} (h : RowAt W g xs) (m : Mo W w) : RowAt w g xs := h.mo m
attribute [local go_sem] blk_cell' blk_frozen'
attribute [local go_sem ↓] loadF_addr loadF_cnt loadF_tot loadF_tauS neqF_tot neqF_cnt neqF_tau
attribute [local go_sem] run_neq_tot run_neq_tau
set_option maxRecDepth 20000 in
set_option maxHeartbeats 8000000 in
theorem same_core (a : Array Value) (c : Nat → Int) (hc : ∀ k, 0 ≤ c k ∧ c k ≤ 1000000) (S1 S2 S3 : St) (n cp1 cp2 m cq1 sn cq2 mr : Nat) (lv : Int) (A1 A2 B1 B2 : Option Addr) (K : List Tau) (L : List (Nat × Int × Int)) (hK : K.length = n) (hL : L.length = sn) (hmm : m = min sn 16) (hmr : mr = sn - 16) (hn : n ≤ 1000) (hs : sn ≤ 1000) (X Y : Array Value) (W : World)
    (hX : SrvL a c S1 S2 S3 (.slice A1 n cp1) (.slice B1 m cq1) mr X) (hY : TdL c S1 S2 S3 (.slice A2 n cp2) (.slice B2 sn cq2) lv Y)
    (r1 : 0 < n → ∃ g, A1 = some ⟨g, 0, none⟩ ∧ RowAt W g (tauRow K)) (r2 : 0 < n → ∃ g, A2 = some ⟨g, 0, none⟩ ∧ RowAt W g (tauRow K))
    (s1 : 0 < m → ∃ g, B1 = some ⟨g, 0, none⟩ ∧ RowAt W g (stpL (L.take 16))) (s2 : 0 < sn → ∃ g, B2 = some ⟨g, 0, none⟩ ∧ RowAt W g (stpL L)) :
    Calls Try.prog 18 #[.agg X, .agg Y] W fun e w' => e = .returned (.bool true) ∧ Mo W w' := by
  have HR1 := Lib.hid r1
  have HR2 := Lib.hid r2
  have HS1 := Lib.hid s1
  have HS2 := Lib.hid s2
  have HK := Lib.hid hK
  have HL := Lib.hid hL
  have HMM := Lib.hid hmm
  have nC := fun w => run_neq_cnt w c hc
  have lds : ∀ (w : World) (g : Nat), Blk w g 62 X → (loadF 56 (.pointer (some ⟨g, 17, none⟩))).run Try.prog w = .ok (.agg (c9 c)) w ∧ (loadF 58 (.pointer (some ⟨g, 26, none⟩))).run Try.prog w = .ok (.agg (totV S1)) w ∧ (loadF 58 (.pointer (some ⟨g, 32, none⟩))).run Try.prog w = .ok (.agg (totV S2)) w ∧ (loadF 58 (.pointer (some ⟨g, 38, none⟩))).run Try.prog w = .ok (.agg (totV S3)) w := fun w g b => by
    have iz : SzA X 47 := ⟨hX.sz⟩
    refine ⟨?_, ?_, ?_, ?_⟩
    · rw [run_loadFo 56 9 w g 17 62 X 47 (by omega) (by omega), hX.cn]
    · rw [run_loadFo 58 6 w g 26 62 X 47 (by omega) (by omega), hX.t1]
    · rw [run_loadFo 58 6 w g 32 62 X 47 (by omega) (by omega), hX.t2]
    · rw [run_loadFo 58 6 w g 38 62 X 47 (by omega) (by omega), hX.t3]
  have ldt : ∀ (w : World) (g : Nat), Blk w g 67 Y → (loadF 56 (.pointer (some ⟨g, 0, none⟩))).run Try.prog w = .ok (.agg (c9 c)) w ∧ (loadF 58 (.pointer (some ⟨g, 9, none⟩))).run Try.prog w = .ok (.agg (totV S1)) w ∧ (loadF 58 (.pointer (some ⟨g, 15, none⟩))).run Try.prog w = .ok (.agg (totV S2)) w ∧ (loadF 58 (.pointer (some ⟨g, 21, none⟩))).run Try.prog w = .ok (.agg (totV S3)) w := fun w g b => by
    have iz : SzA Y 30 := ⟨hY.sz⟩
    refine ⟨?_, ?_, ?_, ?_⟩
    · rw [run_loadFz 56 9 w g 67 Y 30 (by omega), hY.cn]
    · rw [run_loadFo 58 6 w g 9 67 Y 30 (by omega) (by omega), hY.t1]
    · rw [run_loadFo 58 6 w g 15 67 Y 30 (by omega) (by omega), hY.t2]
    · rw [run_loadFo 58 6 w g 21 67 Y 30 (by omega) (by omega), hY.t3]
  have LX := Lib.hid lds
  have LY := Lib.hid ldt
  have x1 := hX.tv
  have x2 := hX.sv
  have x3 := hX.mo
  have y1 := hY.tv
  have y2 := hY.sv
  have y3 := hY.lv
  have b1 : (((n : Nat) : Int) != (n : Nat)) = false := by simp
  have b2 : (((m : Nat) : Int) != (m : Nat)) = false := by simp
  have b3 : (((mr : Nat) : Int) != (mr : Nat)) = false := by simp
  have mn : min (sn : Int) 16 = m := by omega
  have sb : (sn : Int) - m = mr := by omega
  have sw : IntKind.i64.wrap ((sn : Int) - m) = mr := by rw [IntKind.wrap_i64]; omega
  have ml : m ≤ 16 := by omega
  have hms := Lib.hid (show m ≤ sn by omega)
  clear r1 r2 s1 s2 hK hL hc hX hY lds ldt hmm hmr
  go_enter Try.func18, Try.ntmps18
  go_upto_region 1 with (fail)
  refine wp_name ?_
  intro w1 hw1
  have bX : Blk w1 W.heap.size 62 X := by rw [hw1]; infer_instance
  have bY : Blk w1 (W.heap.size + 1) 67 Y := by
    rw [hw1]
    have : Blk ((W.alloc (.cells X 62)).alloc (.cells Y 67)) (W.alloc (.cells X 62)).heap.size 67 Y := inferInstance
    simpa using this
  have M1 : Mo W w1 := by rw [hw1]; exact Mor.out
  generalize W.heap.size = g1 at *
  obtain ⟨lx2, lx3, lx4, lx5⟩ := LX.out w1 g1 bX
  obtain ⟨ly2, ly3, ly4, ly5⟩ := LY.out w1 (g1 + 1) bY
  clear hw1 LX LY
  --@@ r1
  go_wp2_with fail
  go_loopw [68] (fun i wr => ∃ j : Nat, j ≤ n ∧ i = .int .i64 j ∧ Mo w1 wr) (fun i _ => n - (intOf i).toNat)
  case atStart => exact ⟨0, by omega, rfl, Mor.out⟩
  case round =>
    obtain ⟨j, hj, rfl, hM⟩ := hrel
    have bX2 := hM.blk bX
    have bY2 := hM.blk bY
    have zX : LtW g1 wr := ⟨bX2.lt⟩
    have zY : LtW (g1 + 1) wr := ⟨bY2.lt⟩
    by_cases cj : j < n
    · have hjl : j < K.length := by rw [HK.out]; exact cj
      obtain ⟨gA, eA, rA⟩ := HR1.out (by omega)
      obtain ⟨gB, eB, rB⟩ := HR2.out (by omega)
      subst eA eB
      have qA := fun J d => ((rA.mo ((M1.trans hM).trans Mor.out) : RowAt (more wr J d) gA (tauRow K)).ldT j hjl)
      have qB := fun J d => ((rB.mo ((M1.trans hM).trans Mor.out) : RowAt (more wr J d) gB (tauRow K)).ldT j hjl)
      have e0 : (0 : Int) ≤ j := by omega
      have e1 : (j : Int) < n := by omega
      have hw : IntKind.i64.wrap ((j : Int) + 1) = j + 1 := by rw [IntKind.wrap_i64]; omega
      generalize K[j] = t at *
      clear rA rB bX bY hjl cj lx2 lx3 lx4 lx5 ly2 ly3 ly4 ly5 nC
      --@@ r7
      go_upto_region 7 with (fail)
      first | (refine wp_region_mo (by kernel_rfl) (by kernel_rfl) ?_) | (refine wp_region_mo' (by kernel_rfl) (by kernel_rfl) ?_)
      repeat (go_big_quiet_step (fail))
      refine wpQuiet_nil ?_
      intro _ hw'
      obtain ⟨⟨J9, d9⟩, hw''⟩ := hw'
      subst hw''
      go_wp2_with fail
      go_roundw
      case rel => exact ⟨j + 1, by omega, by go_num, hM.trans Mor.out⟩
      case measure => simp [intOf]; omega
    · obtain rfl : j = n := by omega
      clear lx2 lx3 lx4 lx5 ly2 ly3 ly4 ly5 nC HR1 HR2 cj hj HK
      have N1 := M1.trans hM
      obtain ⟨wo, hwo⟩ : ∃ w, w = wr := ⟨_, rfl⟩
      subst hwo
      --@@ steps
      go_wp2_with fail
      go_loopw [86] (fun i wq => ∃ k : Nat, k ≤ m ∧ i = .int .i64 k ∧ Mo wo wq) (fun i _ => m - (intOf i).toNat)
      case atStart => exact ⟨0, by omega, rfl, Mor.out⟩
      case round =>
        obtain ⟨k, hk, rfl, hQ⟩ := hrel
        obtain ⟨wq, hwq⟩ : ∃ w, w = wr := ⟨_, rfl⟩
        subst hwq
        have bX3 := hQ.blk bX2
        have bY3 := hQ.blk bY2
        have zX3 : LtW g1 wq := ⟨bX3.lt⟩
        have zY3 : LtW (g1 + 1) wq := ⟨bY3.lt⟩
        by_cases ck : k < m
        · have hkl : k < L.length := by rw [HL.out]; have := hms.out; omega
          have hkt : k < (L.take 16).length := by rw [List.length_take, HL.out]; have := HMM.out; omega
          obtain ⟨gA, eA, rA⟩ := HS1.out (by omega)
          obtain ⟨gB, eB, rB⟩ := HS2.out (by have := hms.out; omega)
          subst eA eB
          obtain ⟨a0, a1, a2⟩ := (rA.mo (N1.trans hQ) : RowAt wq gA (stpL (L.take 16))).cS k hkt
          obtain ⟨c0, c1, c2⟩ := (rB.mo (N1.trans hQ) : RowAt wq gB (stpL L)).cS k hkl
          have zA : LtW gA wq := LtW.of_cell a0
          have zB : LtW gB wq := LtW.of_cell c0
          have e0 : (0 : Int) ≤ k := by omega
          have e1 : (k : Int) < m := by omega
          have e2 : (k : Int) < sn := by have := hms.out; omega
          have hw : IntKind.i64.wrap ((k : Int) + 1) = k + 1 := by rw [IntKind.wrap_i64]; omega
          rw [List.getElem_take] at a0 a1 a2
          generalize L[k] = t at *
          obtain ⟨ta, tb, tc⟩ := t
          simp only at a0 a1 a2 c0 c1 c2
          clear rA rB bX bY bX2 bY2 hkl hkt ck
          --@@ r14
          go_upto_region 14 with (fail)
          refine wp_name ?_
          intro wn hwn
          have b8 : Blk wn wq.heap.size 115 #[.int .u64 (ta : Nat), .int .i64 tb, .int .i64 tc] := by rw [hwn]; infer_instance
          have Mn : Mo wq wn := by rw [hwn]; exact Mor.out
          have bX4 := Mn.blk bX3
          have a0 : wn.cell? ⟨gA, k * 3, none⟩ = some (.int .u64 (ta : Nat)) := by rw [Mn.cell]; exact a0
          have a1 : wn.cell? ⟨gA, k * 3 + 1, none⟩ = some (.int .i64 tb) := by rw [Mn.cell]; exact a1
          have a2 : wn.cell? ⟨gA, k * 3 + 2, none⟩ = some (.int .i64 tc) := by rw [Mn.cell]; exact a2
          have zA4 : LtW gA wn := LtW.of_cell a0
          generalize wq.heap.size = g8 at *
          clear hwn
          --@@ r14b
          first | (refine wp_region_mo (by kernel_rfl) (by kernel_rfl) ?_) | (refine wp_region_mo' (by kernel_rfl) (by kernel_rfl) ?_)
          repeat (go_big_quiet_step (fail))
          refine wpQuiet_nil ?_
          intro _ hw'
          obtain ⟨⟨J9, d9⟩, hw''⟩ := hw'
          subst hw''
          go_wp2_with fail
          go_roundw
          case rel => exact ⟨k + 1, by omega, by go_num, (hQ.trans Mn).trans Mor.out⟩
          case measure => simp [intOf]; omega
        · obtain rfl : k = m := by omega
          go_wp2_with fail
          go_ret
          exact ⟨rfl, (N1.trans hQ).trans Mor.out⟩
set_option maxRecDepth 20000 in
theorem same_any {b1 b2 o wd : Nat} {x bd : Int} {W : World} {E : Ent} {K : List Tau} {v1 v2 : Value} {L : List Deed} {num : Int} (h1 : SrvAt b1 W E K v1) (h2 : OfIs b2 W o wd x bd L num v2) (hc : ∀ k, 0 ≤ E.c k ∧ E.c k ≤ 1000000) (ha : AdrS E.a) (hK : K.length ≤ 1000)
    (e1 : E.c = cntD L) (e2 : E.s1 = sumL ((smpD L).map (·.o))) (e3 : E.s2 = sumL ((smpD L).map (·.d))) (e4 : E.s3 = sumL ((smpD L).map (·.s))) (e5 : K = ofK o x L num) (e6 : E.st = (ofS wd bd L num).take 16) (e7 : E.more = (ofS wd bd L num).length - 16) (hs : (ofS wd bd L num).length ≤ 1000) :
    Calls Try.prog 18 #[v1, v2] W fun e w' => e = .returned (.bool true) ∧ Mo W w' := by
  obtain ⟨t1, s1, rfl, o1, q1⟩ := h1
  obtain ⟨t2, s2, rfl, o2, q2⟩ := h2.ex
  obtain ⟨A1, c1, rfl⟩ := own_slS o1
  obtain ⟨A2, c2, rfl⟩ := own_slS o2
  obtain ⟨B1, d1, rfl⟩ := own_slS q1
  obtain ⟨B2, d2, rfl⟩ := own_slS q2
  have lm : E.st.length = min (ofS wd bd L num).length 16 := by rw [e6, List.length_take]; omega
  rw [← e1, ← e2, ← e3, ← e4]
  subst e5
  have q1' : W.ownsRow b1 85 3 (.slice B1 E.st.length d1) E.st.length (stpL ((ofS wd bd L num).take 16)) := by rw [← e6]; exact q1
  exact same_core E.a E.c hc E.s1 E.s2 E.s3 _ c1 c2 E.st.length d1 _ d2 E.more _ A1 A2 B1 B2 _ (ofS wd bd L num) rfl rfl lm e7 hK hs _ _ W (srvL _ ha.z ..) (tdL_of ..) (own_at0 o1) (own_at0 o2) (own_at0 q1') (own_at0 q2)
end Go.Proofs.Ythgkhllkhhnlpaa
