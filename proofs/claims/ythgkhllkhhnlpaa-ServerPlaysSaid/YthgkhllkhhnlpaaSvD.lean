/- server: the table in memory; New. -/
import Derived.Test.YthgkhllkhhnlpaaSvC
namespace Go.Proofs.Ythgkhllkhhnlpaa
open Go.RowKit Go.Maps

structure CfgS where
  w : Int
  k : Int
  sv : Int
  sl : Int
  oc : Int
  ep : Int
  sh : Int
  st : Int
  ln : Int
  bl : Int
  fr : Int
  fb : Int
abbrev cfC (C : CfgS) : Array Value := #[.int .i64 C.w, .int .i64 C.k, .int .i64 C.sv, .int .i64 C.sl, .int .i64 C.oc, .int .i64 C.ep, .int .i64 C.sh, .int .i64 C.st, .int .i64 C.ln, .int .i64 C.bl, .int .i64 C.fr, .int .i64 C.fb]
abbrev tabC (C : CfgS) (lv : Value) (B go : Nat) : Array Value := #[.int .i64 C.w, .int .i64 C.k, .int .i64 C.sv, .int .i64 C.sl, .int .i64 C.oc, .int .i64 C.ep, .int .i64 C.sh, .int .i64 C.st, .int .i64 C.ln, .int .i64 C.bl, .int .i64 C.fr, .int .i64 C.fb, lv, .map (some B), ptrS go]
structure CfgOk (C : CfgS) (o w : Nat) : Prop where
  s1 : 1 ≤ C.sv
  s2 : C.sv ≤ 256
  x1 : 1 ≤ C.sl
  x2 : C.sl ≤ 1152921504606846976
  eo : C.oc = o
  o1 : 1 ≤ o
  o2 : o ≤ 10
  ew : C.sh = w
  w1 : 1 ≤ w
  w2 : w ≤ 64
  t1 : 0 ≤ C.st
  t2 : C.st ≤ 9223372036854775807
structure TabIs (W : World) (T B b : Nat) (C : CfgS) (o w : Nat) (lv : Value) (gs : List Nat) (Fs : List (List Nat)) (go : Nat) (Fo : List Nat) (es : List Ent) (ot : Ent) (n : Nat) : Prop where
  t : Blk W T 83 (tabC C lv B go)
  row : W.ownsRow b 81 1 lv gs.length (gs.map ptrS)
  num : NumIs W B (es.map (·.a))
  nd : (es.map (·.a)).Nodup
  lg : gs.length = es.length
  lF : Fs.length = es.length
  ent : ∀ (i g : Nat) (F : List Nat) (E : Ent), gs[i]? = some g → Fs[i]? = some F → es[i]? = some E → ∃ p1 p2 p3 gv sv stv, EntIs W b g F o C.sl true n E p1 p2 p3 gv sv stv
  oth : ∃ p1 p2 p3 gv sv stv, EntIs W b go Fo o C.sl false n ot p1 p2 p3 gv sv stv
  dis : ∀ (i j : Nat) (F F' : List Nat), i < j → Fs[i]? = some F → Fs[j]? = some F' → ∀ k ∈ F, k ∉ F'
  diso : ∀ (i : Nat) (F : List Nat), Fs[i]? = some F → ∀ k ∈ F, k ∉ Fo
  ok : CfgOk C o w
  le : (es.length : Int) ≤ C.sv
abbrev adr0 : Array Value := #[.bool false, .int .u8 0, .int .u8 0, .int .u8 0, .int .u8 0, .int .u8 0, .int .u8 0, .int .u8 0, .int .u8 0, .int .u8 0, .int .u8 0, .int .u8 0, .int .u8 0, .int .u8 0, .int .u8 0, .int .u8 0, .int .u8 0]
set_option maxRecDepth 20000 in
theorem adr0_p : AdrP adr0 := by
  show Fits (ksOf 35) _
  rw [show ksOf 35 = [.b, .i .u8, .i .u8, .i .u8, .i .u8, .i .u8, .i .u8, .i .u8, .i .u8, .i .u8, .i .u8, .i .u8, .i .u8, .i .u8, .i .u8, .i .u8, .i .u8] from by kernel_rfl]
  simp only [Fits, and_true]
  refine ⟨by first | rfl | trivial, ?_⟩
  have q : (CK.i IntKind.u8).fits (Value.int IntKind.u8 0) := ⟨rfl, by simp [Lit.wf, IntKind.min, IntKind.max, IntKind.signed, IntKind.bits]⟩
  exact ⟨q, q, q, q, q, q, q, q, q, q, q, q, q, q, q, q⟩
set_option maxRecDepth 20000 in
theorem ent0_ok {a : Array Value} (h : AdrP a) (hz : a.size = 17) (D : Sd) (hD : D.c = 0) (n : Nat) : EntOk n (ent0 a D) :=
  ⟨h, hz, fun k => ⟨Int.le_refl _, by show (0 : Int) ≤ n; omega⟩, ⟨0, Nat.zero_le _, good_0, good_0, good_0⟩, mok_nil n, by show D.c ≤ n; omega, Nat.zero_le _, Nat.zero_le _⟩
set_option maxRecDepth 20000 in
theorem tyIn4 {W : World} {g p1 p2 p3 : Nat} {c : Array Value} {x y z : Array Value} (h : Blk W g 99 c) (h1 : Blk W p1 136 x) (h2 : Blk W p2 136 y) (h3 : Blk W p3 136 z) : TyIn W [g, p1, p2, p3] := fun k hk => by
  simp only [List.mem_cons, List.not_mem_nil, or_false] at hk
  rcases hk with rfl | rfl | rfl | rfl
  · exact ⟨_, _, _, h.out, by decide⟩
  · exact ⟨_, _, _, h1.out, by decide⟩
  · exact ⟨_, _, _, h2.out, by decide⟩
  · exact ⟨_, _, _, h3.out, by decide⟩
set_option maxRecDepth 20000 in
instance row_cfg : RowT 26 12 := ⟨by kernel_rfl, by kernel_rfl⟩
set_option maxRecDepth 20000 in
theorem loadF_cfg (v : Value) : Instr.loadAt 26 v = loadF 26 v := rfl
set_option maxRecDepth 20000 in
theorem run_build_tab (C : CfgS) (B go : Nat) (w : World) : (Instr.build 83 #[(0, .agg (cfC C)), (2, .map (some B)), (3, ptrS go)]).run Try.prog w = .ok (.agg (tabC C (.slice none 0 0) B go)) w := run_build w _ _ _ (by kernel_rfl)
set_option maxRecDepth 20000 in
theorem run_build_adr0 (w : World) : (Instr.build 35 #[]).run Try.prog w = .ok (.agg adr0) w := run_build w _ _ _ (by kernel_rfl)
attribute [local go_sem] blk_cell' blk_frozen' run_build_tab run_build_adr0
attribute [local go_sem ↓] loadF_cfg
attribute [local go_sem] run_loadF0 run_storeF0
set_option maxRecDepth 20000 in
set_option maxHeartbeats 8000000 in
theorem tnew_in (C : CfgS) (o w : Nat) (ok : CfgOk C o w) (W : World) :
    Calls Try.prog 9 #[.agg (cfC C)] W fun e w' => ∃ T B go Fo D, e = .returned (.tuple #[ptrS T, .int .i64 0]) ∧ TabIs w' T B W.heap.size C o w (.slice none 0 0) [] [] go Fo [] (ent0 adr0 D) 0 ∧ W.heap.size ≤ T ∧ W.heap.size ≤ B ∧ (∀ k ∈ Fo, W.heap.size ≤ k) ∧ Mo W w' := by
  have HOK := Lib.hid ok
  obtain ⟨s1, s2, x1, x2, eo, o1, o2, ew, w1, w2, t1, t2⟩ := ok
  obtain ⟨cw, ck, csv, csl, coc, cep, csh, cst, cln, cbl, cfr, cfb⟩ := C
  simp only at *
  subst eo ew
  have d1 : decide (csv < 1) = false := decide_eq_false (by omega)
  have d2 : decide (256 < csv) = false := decide_eq_false (by omega)
  have AN := Lib.hid (fun W => new_any csl o W x1 x2 o1 o2)
  have SN := Lib.hid (fun W => snew_in w cst W w1 w2 t1 t2 0)
  have MD := Lib.hid (fun W => made_any adr0 W rfl)
  have mk : ∀ w : World, (Instr.makeMap 80 none).run Try.prog w = .ok (.map (some w.heap.size)) (w.alloc (.map #[] 0)) := run_makeMap _
  have s0 : ((0 : Nat) : Int) ≤ csv := by omega
  clear s1 s2 x1 x2 o1 o2 w1 w2 t1 t2
  go_enter Try.func9, Try.ntmps9
  --@@ grid
  go_wp2_with fail
  refine (AN.out _).mono ?_
  rintro e w1' ⟨r0, p0, rfl, -, -, -, -, -, M1⟩
  have N1 : Mo W w1' := (Mor.out : Mo W _).trans M1
  have b1 : Blk w1' W.heap.size 26 (cfC ⟨cw, ck, csv, csl, o, cep, w, cst, cln, cbl, cfr, cfb⟩) := M1.blk inferInstance
  generalize hg1 : W.heap.size = g1 at *
  clear M1 AN
  --@@ shift
  go_wp2_with fail
  refine (SN.out _).mono ?_
  rintro e w2' ⟨p1, rfl, -, -, M2⟩
  have M12 : Mo w1' w2' := (Mor.out : Mo w1' _).trans M2
  have N2 := N1.trans M12
  have b2 := M12.blk b1
  clear M2 M12 N1 b1 SN
  --@@ r5
  go_upto_region 5 with (fail)
  refine wp_name ?_
  intro wA hwA
  have MA : Mo w2' wA := by rw [hwA]; exact Mor.out
  have NA := N2.trans MA
  have bA := MA.blk b2
  have szA : g1 < wA.heap.size := bA.lt
  clear hwA MA N2 b2
  go_region_held3 (fun w' => MoC wA w') (exact ⟨Mor.out⟩)
    (first
      | ((with_reducible refine (MD.out _).mono ?_)
         rintro e wz ⟨g, q1, q2, q3, rfl, B0, B1, B2, B3, n12, n13, n23, lg, l1, l2, l3, Mz⟩
         have Mz0 := (Mor.out : Mo wA _).trans Mz
         have iMz : MoC _ wz := ⟨Mz⟩
         have iRz : Mor wA wz := ⟨Mz0⟩
         have sz0 : wA.heap.size ≤ g ∧ wA.heap.size ≤ q1 ∧ wA.heap.size ≤ q2 ∧ wA.heap.size ≤ q3 := ⟨Nat.le_trans (Mo.size Mor.out) lg, Nat.le_trans (Mo.size Mor.out) l1, Nat.le_trans (Mo.size Mor.out) l2, Nat.le_trans (Mo.size Mor.out) l3⟩))
  all_goals (
    go_wp2_with fail
    go_ret2
    rw [hg1]
    refine ⟨_, _, g, [g, q1, q2, q3], sd0 0 0, rfl, ⟨inferInstance, ⟨rfl, .inl ⟨rfl, rfl⟩⟩, (by first | exact (NumIs.made _).mo Mor.out | exact (((NumIs.made wA).mo Mor.out).mo Mz).mo Mor.out), List.nodup_nil, rfl, rfl, (fun i g F E h => by simp at h), ⟨q1, q2, q3, nilS, nilS, .slice none 0 0, ⟨inferInstance, inferInstance, inferInstance, inferInstance, n12, n13, n23, (fun h => by cases h), (fun _ => ⟨rfl, rfl⟩), ⟨rfl, .inl ⟨rfl, rfl⟩⟩, by simp, by simp, by simp, by simp, (fun k h => by simp [Value.ownBlock] at h), tyIn4 (c := entC adr0 (fun _ => 0) (ptrS q1) (ptrS q2) (ptrS q3) nilS nilS (.slice none 0 0) 0) (x := accC true (sumL [])) (y := accC true (sumL [])) (z := accC true (sumL [])) inferInstance inferInstance inferInstance inferInstance, ent0_ok adr0_p rfl _ rfl 0⟩⟩, (fun i j F F' _ h => by simp at h), (fun i F h => by simp at h), HOK.out, s0⟩, ?_, ?_, ?_, ?_⟩
    · have := Mz0.size; first | omega | (simp; omega)
    · have := Mz0.size; first | omega | (simp; omega)
    · intro k hk
      simp only [List.mem_cons, List.not_mem_nil, or_false] at hk
      rcases hk with rfl | rfl | rfl | rfl <;> omega
    · exact NA.trans Mor.out)
end Go.Proofs.Ythgkhllkhhnlpaa
