/- horologeref30.kind: what a datagram is, and its key, by the document. -/
import Derived.Test.YtcflebggepmmcaaMatE
import Derived.Test.YtcflebggepmmcaaPackS
namespace Go.Proofs.Ytcflebggepmmcaa
open Go.RowKit

set_option maxRecDepth 20000 in
theorem results_tcc {fn : Func} {s p q : Tmp} {ty ty' : TypeId} (h : fn.results = #[.tmp s, .cell p ty, .cell q ty']) (tmps : Array Value) (P : Program) (w : World) :
    (results fn tmps).run P w =
      ((asAddr (tmps.getD p undef)).run P w).andThen fun a w₁ => ((loadVar ty a).run P w₁).andThen fun v w₂ => ((asAddr (tmps.getD q undef)).run P w₂).andThen fun b w₃ => ((loadVar ty' b).run P w₃).andThen fun u w₄ => .ok (.tuple #[tmps.getD s undef, v, u]) w₄ := by
  simp only [results, h]
  simp [Sem.run_bind, Result.andThen]
set_option maxRecDepth 20000 in
theorem ret_tcc {fn : Func} {s p q : Tmp} {T T' : TypeId} {R : Ending → World → Prop} {a : Act} {w : World} (hr : fn.results = #[.tmp s, .cell p T, .cell q T']) (g g' : Nat) (v v' : Value) (hp : a.tmps.getD p undef = .pointer (some ⟨g, 0, none⟩)) (hq : a.tmps.getD q undef = .pointer (some ⟨g', 0, none⟩)) (hd : a.defers = [])
    (l1 : (loadVar T ⟨g, 0, none⟩).run Try.prog w = .ok v w) (l2 : (loadVar T' ⟨g', 0, none⟩).run Try.prog w = .ok v' w) (hR : R (.returned (.tuple #[a.tmps.getD s undef, v, v'])) w) : bodyPost Try.prog fn R .ret a w :=
  bodyPost_ret (v := .tuple #[a.tmps.getD s undef, v, v']) (by
    rw [results_tcc hr, hp, hq]
    have e : ∀ g, (asAddr (.pointer (some ⟨g, 0, none⟩))).run Try.prog w = .ok (⟨g, 0, none⟩ : Addr) w := fun _ => rfl
    rw [e, Result.andThen_ok, l1, Result.andThen_ok, e, Result.andThen_ok, l2, Result.andThen_ok]) hd hR
set_option maxRecDepth 20000 in
theorem r_hold {w : World} {g1 g2 g3 : Nat} {C Q K : Array Value} [z1 : SzA C 39] [z2 : SzA Q 18] [z3 : SzA K 37] (b1 : Blk w g1 41 C) (b2 : Blk w g2 66 Q) (b3 : Blk w g3 72 K) :
    (loadF 41 (.pointer (some ⟨g1, 0, none⟩))).run Try.prog w = .ok (.agg C) w ∧ (loadF 66 (.pointer (some ⟨g2, 0, none⟩))).run Try.prog w = .ok (.agg Q) w ∧ (loadF 72 (.pointer (some ⟨g3, 0, none⟩))).run Try.prog w = .ok (.agg K) w :=
  ⟨run_loadF0 41 39 w g1 41 C, run_loadF0 66 18 w g2 66 Q, run_loadF0 72 37 w g3 72 K⟩
attribute [local go_sem] blk_cell' blk_frozen' dg_at dg_b dg_src dg_dst
attribute [local go_sem ↓] loadF_dg loadF_pk storeAt_pk loadF_keyH storeF_key
attribute [local go_sem] run_loadF0 run_storePk run_storeF0 run_loadFo run_loadFz
set_option maxRecDepth 20000 in
set_option maxHeartbeats 8000000 in
theorem kind_any (d : Dg) (v : Value) (W : World) (hv : DgV W d v) (kd : DgOk d) (hl : d.bs.length ≤ 200000) :
    Calls Try.prog 32 #[v] W fun e w' => ∃ u, e = .returned (.tuple #[.int .u8 (classP d.bs).2, u, .agg (keyC d (classP d.bs).1.h)]) ∧ (∃ a1 c1 a2 c2, u = pkV (classP d.bs).1.h (.slice a1 (classP d.bs).1.e.length c1) (.slice a2 (classP d.bs).1.m.length c2)) ∧ Mo W w' := by
  obtain ⟨A, cap, rfl, hb⟩ := hv
  have za := sz_wide kd.at_
  have zs := sz_ends kd.src
  have zt := sz_ends kd.dst
  have oa := one_of_fits kd.at_
  have os := one_of_fits kd.src
  have ot := one_of_fits kd.dst
  have ok : HdOk (classP d.bs).1.h := by rw [classP_fst]; exact takeP_ok d.bs hb.byte
  have kf := fits_key kd ok
  have TK := Lib.hid (fun w (m : Mo W w) => rtake_any d.bs.length cap A d.bs W w m rfl hb hl)
  rw [show takeP d.bs = ((classP d.bs).1, (takeP d.bs).2) by rw [classP_fst]] at TK
  have CL := Lib.hid (fun w (m : Mo W w) => rclass_any d _ w ⟨A, cap, rfl, hb.mo m⟩ kd hl)
  obtain ⟨p, hp⟩ : ∃ p, (classP d.bs).1 = p := ⟨_, rfl⟩
  obtain ⟨q, hq⟩ : ∃ q, (classP d.bs).2 = q := ⟨_, rfl⟩
  obtain ⟨K, hK⟩ : ∃ K, keyC d p.h = K := ⟨_, rfl⟩
  rw [hp] at TK kf ⊢
  rw [hq] at CL ⊢
  have KY := Lib.hid (fun w (m : Mo W w) u (hu : PkV w p u) => rkey_any d p _ u w ⟨A, cap, rfl, hb.mo m⟩ kd hu)
  rw [hK] at KY kf ⊢
  have zk := key_sz kf
  have ok1 := one_of_fits kf
  generalize (takeP d.bs).2 = tc at *
  clear hp hq hK ok kf kd
  generalize d.bs.length = n at *
  go_enter Try.func32, Try.ntmps32
  go_wp2_with fail
  --@@ take
  refine (TK.out _ Mor.out).mono ?_
  rintro e w1 ⟨u, rfl, hu, M1⟩
  have V1 : PkV w1 p u := hu.at (Mo.trans Mor.out M1)
  obtain ⟨a1, c1, a2, c2, rfl, -⟩ := hu
  have bd1 : Blk w1 W.heap.size 41 (dgC d.at_ d.src d.dst (.slice A n cap)) := M1.blk inferInstance
  have br1 : Blk w1 (W.heap.size + 1) 66 (pkL hd0 (.slice none 0 0) (.slice none 0 0)).toArray := M1.blk inferInstance
  have bk1 : Blk w1 (W.heap.size + 1 + 1) 72 key0 := M1.blk inferInstance
  have N1 : Mo W w1 := Mo.trans Mor.out M1
  have l1 := bk1.lt
  clear M1 TK
  go_upto_region 2 with (fail)
  refine wp_name ?_
  intro w2 hw2
  have V2 : PkV w2 p (pkV p.h (.slice a1 p.e.length c1) (.slice a2 p.m.length c2)) := by rw [hw2]; exact V1.mo Mor.out
  have bd2 : Blk w2 W.heap.size 41 (dgC d.at_ d.src d.dst (.slice A n cap)) := by rw [hw2]; infer_instance
  have br2 : Blk w2 (W.heap.size + 1) 66 (pkL hd0 (.slice none 0 0) (.slice none 0 0)).toArray := by rw [hw2]; infer_instance
  have bk2 : Blk w2 (W.heap.size + 1 + 1) 72 key0 := by rw [hw2]; infer_instance
  have bp2 : Blk w2 w1.heap.size 66 (pkL p.h (.slice a1 p.e.length c1) (.slice a2 p.m.length c2)).toArray := by rw [hw2]; infer_instance
  have N2 : Mo W w2 := by rw [hw2]; exact N1.trans Mor.out
  clear hw2 bd1 br1 bk1 V1 N1
  go_wp2_with fail
  refine (KY.out _ N2 _ V2).mono ?_
  rintro e w3 ⟨rfl, M3⟩
  have bd3 := M3.blk bd2
  have br3 := M3.blk br2
  have bk3 := M3.blk bk2
  have bp3 := M3.blk bp2
  have N3 := N2.trans M3
  have l3 := bp3.lt
  clear M3 bd2 br2 bk2 bp2 V2 N2 KY
  go_upto_region 3 with (fail)
  refine wp_name ?_
  intro w4 hw4
  have bd4 : Blk w4 W.heap.size 41 (dgC d.at_ d.src d.dst (.slice A n cap)) := by rw [hw4]; infer_instance
  have br4 : Blk w4 (W.heap.size + 1) 66 (pkL hd0 (.slice none 0 0) (.slice none 0 0)).toArray := by rw [hw4]; infer_instance
  have bk4 : Blk w4 (W.heap.size + 1 + 1) 72 key0 := by rw [hw4]; infer_instance
  have bp4 : Blk w4 w1.heap.size 66 (pkL p.h (.slice a1 p.e.length c1) (.slice a2 p.m.length c2)).toArray := by rw [hw4]; infer_instance
  have bq4 : Blk w4 w3.heap.size 72 K := by rw [hw4]; infer_instance
  have N4 : Mo W w4 := by rw [hw4]; exact N3.trans Mor.out
  clear hw4 bd3 br3 bk3 bp3 N3
  --@@ cut
  go_cut [2] (fun s2 wx => s2 = .int .u8 q ∧ Blk wx (W.heap.size + 1) 66 (pkL p.h (.slice a1 p.e.length c1) (.slice a2 p.m.length c2)).toArray ∧ Blk wx (W.heap.size + 1 + 1) 72 K ∧ Mo W wx)
  case first =>
    have iR4 : Mor W w4 := ⟨N4⟩
    go_region_held3 (fun w' => (loadF 41 (.pointer (some ⟨W.heap.size, 0, none⟩))).run Try.prog w' = .ok (.agg (dgC d.at_ d.src d.dst (.slice A n cap))) w' ∧ (loadF 66 (.pointer (some ⟨w1.heap.size, 0, none⟩))).run Try.prog w' = .ok (.agg (pkL p.h (.slice a1 p.e.length c1) (.slice a2 p.m.length c2)).toArray) w' ∧ (loadF 72 (.pointer (some ⟨w3.heap.size, 0, none⟩))).run Try.prog w' = .ok (.agg K) w') (first | exact r_hold inferInstance inferInstance inferInstance | exact r_hold (blk_setRow_ne inferInstance (by omega)) (blk_setRow_ne inferInstance (by omega)) (blk_setRow_ne inferInstance (by omega)) | exact r_hold (blk_setRow_ne (blk_setRow_ne inferInstance (by omega)) (by omega)) (blk_setRow_ne (blk_setRow_ne inferInstance (by omega)) (by omega)) (blk_setRow_ne (blk_setRow_ne inferInstance (by omega)) (by omega)))
      (first
        | ((with_reducible refine (CL.out _ (Mor.out : Mo W _)).mono ?_)
           rintro e w9 ⟨rfl, M9⟩
           have iM9 : MoC _ w9 := ⟨M9⟩
           have iR9 : Mor W w9 := ⟨(Mor.out : Mo W _).trans M9⟩
           have iK : ∀ x, Blk (w9.setRow (W.heap.size + 1) x) (W.heap.size + 1 + 1) 72 key0 := fun x => blk_setRow_ne inferInstance (by omega)))
    --@@ held
    all_goals (
      go_wp2_with fail
      go_meet
      refine ⟨rfl, ?_, blk_setRow inferInstance, mo_setRow (mo_setRow Mor.out (by omega) _) (by omega) _⟩
      exact blk_setRow_ne (blk_setRow inferInstance) (by omega))
  obtain ⟨rfl, q1, q2, N9⟩ := hcut
  go_wp2_with fail
  refine ret_tcc rfl (W.heap.size + 1) (W.heap.size + 1 + 1) _ _ rfl rfl rfl (loadVar_flat 66 q1 rfl) (loadVar_flat 72 q2 zk.out) ⟨_, rfl, ⟨a1, c1, a2, c2, rfl⟩, N9⟩
end Go.Proofs.Ytcflebggepmmcaa
