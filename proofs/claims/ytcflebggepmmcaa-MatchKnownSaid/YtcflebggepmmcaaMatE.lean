/- match.Take, walked. -/
import Derived.Test.YtcflebggepmmcaaMatZ
import Derived.Deep.CutBlock
namespace Go.Proofs.Ytcflebggepmmcaa
open Go.RowKit

set_option maxRecDepth 20000 in
theorem results_tc {fn : Func} {s p : Tmp} {ty : TypeId} (h : fn.results = #[.tmp s, .cell p ty]) (tmps : Array Value) (P : Program) (w : World) :
    (results fn tmps).run P w = ((asAddr (tmps.getD p undef)).run P w).andThen fun a w₁ => ((loadVar ty a).run P w₁).andThen fun v w₂ => .ok (.tuple #[tmps.getD s undef, v]) w₂ := by
  simp only [results, h]
  simp [Sem.run_bind, Result.andThen]
set_option maxRecDepth 20000 in
theorem ret_tc {fn : Func} {s p : Tmp} {T : TypeId} {R : Ending → World → Prop} {a : Act} {w : World} (hr : fn.results = #[.tmp s, .cell p T]) (g : Nat) (cs : Array Value) (hp : a.tmps.getD p undef = .pointer (some ⟨g, 0, none⟩)) (hd : a.defers = []) {n : Nat} [h : RowT T n] [z : SzA cs n] (b : Blk w g T cs)
    (hR : R (.returned (.tuple #[a.tmps.getD s undef, .agg cs])) w) : bodyPost Try.prog fn R .ret a w :=
  bodyPost_ret (v := .tuple #[a.tmps.getD s undef, .agg cs]) (by
    rw [results_tc hr, hp]
    have e : (asAddr (.pointer (some ⟨g, 0, none⟩))).run Try.prog w = .ok (⟨g, 0, none⟩ : Addr) w := rfl
    rw [e, Result.andThen_ok, loadVar_flat T b z.out, Result.andThen_ok]) hd hR
set_option maxRecDepth 20000 in
theorem en_at2 (k a : Array Value) (d : Bool) [hk : SzA k 37] [ha : SzA a 2] : (enC k a d).extract 37 39 = a := ext_mid k a #[.bool d] 37 39 hk.out (by rw [ha.out])
set_option maxRecDepth 20000 in
theorem ask_ok' {room : Int} {E : List En} {k a : Array Value} {e : En} (h : ∀ e ∈ E, EnOk e) (n : EnOk ⟨k, a, false⟩) (he : (askE room E k a).2.1 = some e) : EnOk e := by
  unfold askE at he
  split at he
  · cases he
  · have hm := List.mem_of_mem_head? he
    rcases List.mem_append.1 hm with q | q
    · exact h e (strike_mem.1 q).1
    · rw [List.mem_singleton] at q; rw [q]; exact n
set_option maxRecDepth 20000 in
theorem out_form' (o : Option En) (h : ∀ e, o = some e → EnOk e) : ∃ cs, outV o = .agg cs ∧ SzA cs 40 ∧ OneA cs := by
  cases o with
  | none => exact ⟨_, rfl, inferInstance, inferInstance⟩
  | some e =>
    have ok := h e rfl
    have z1 := key_sz ok.k
    have z2 := at_sz ok.a
    have y1 := one_of_fits ok.k
    have y2 := one_of_fits ok.a
    exact ⟨_, rfl, inferInstance, inferInstance⟩
set_option maxRecDepth 20000 in
theorem askE_1 (room : Int) (E : List En) (k a : Array Value) : (askE room E k a).1 = hasE E k := by
  unfold askE
  split <;> rfl
set_option maxRecDepth 20000 in
/-- Ask, told of what is looked at behind it -/
theorem ask_k (T B : Nat) (room : Int) (E : List En) (P : Nat → Prop) (k a : Array Value) (W : World) (h : TabE W T B room E P) (hk : KeyP k) (ha : Fits (ksOf 32) a.toList) (hl : E.length ≤ 65536) :
    Calls Try.prog 28 #[ptr T, .agg k, .agg a] W fun e w' => ∃ cs gb, SzA cs 40 ∧ OneA cs ∧ e = .returned (.tuple #[.bool (hasE E k), .agg cs, .bool gb]) ∧ TabE w' T B room (askE room E k a).2.2 (fun i => P i ∨ W.heap.size ≤ i) ∧ KpS P W w' := by
  refine (ask_e T B room E P k a W h hk ha hl).mono ?_
  rintro e w' ⟨r, rfl, rfl, t, kp⟩
  obtain ⟨cs, e1, e2, e3⟩ := out_form' (askE room E k a).2.1 fun e he => ask_ok' h.ok ⟨hk, ha⟩ he
  exact ⟨cs, _, e2, e3, by rw [e1, askE_1], t, kp⟩
set_option maxRecDepth 20000 in
theorem findE_mem {E : List En} {k : Array Value} {e : En} (h : findE E k = some e) : e ∈ E ∧ e.k = k := by
  unfold findE at h
  have h1 := List.mem_of_find?_eq_some h
  have h2 := List.find?_some h
  exact ⟨h1, eqA_iff.1 h2⟩
set_option maxRecDepth 20000 in
theorem ansE_none {E : List En} {k : Array Value} (h : findE E k = none) : ansE E k = E := by
  unfold findE at h
  rw [List.find?_eq_none] at h
  unfold ansE
  have : ∀ e ∈ E, (if eqA e.k k = true then (⟨e.k, e.a, true⟩ : En) else e) = e := fun e he => if_neg (h e he)
  exact (List.map_congr_left this).trans (by simp)
set_option maxRecDepth 20000 in
/-- Answer, told of what is looked at behind it -/
theorem ans_k (T B : Nat) (room : Int) (E : List En) (P : Nat → Prop) (k : Array Value) (W : World) (h : TabE W T B room E P) (hk : KeyP k) :
    Calls Try.prog 29 #[ptr T, .agg k] W fun e w' => ∃ x b q, InW x ∧ e = .returned (.tuple #[.agg (enC k (wdC x) b), .int .u8 q]) ∧ TabE w' T B room (ansE E k) P ∧ KpS P W w' ∧
      ((findE E k = none ∧ q = 7) ∨ ∃ y, findE E k = some y ∧ x = wI y.a ∧ q = if y.d = true then 6 else 4) := by
  refine (answer_e T B room E P k W h hk).mono ?_
  rintro e w' ⟨r, rfl, rfl, t, kp⟩
  unfold ansV
  cases hf : findE E k with
  | none => exact ⟨0, false, 7, inW_0, rfl, t, kp, .inl ⟨rfl, rfl⟩⟩
  | some y =>
    obtain ⟨m, rfl⟩ := findE_mem hf
    obtain ⟨e1, e2⟩ := wd_fits (h.ok y m).a
    exact ⟨wI y.a, y.d, _, e2, by rw [← e1], t, kp, .inr ⟨y, rfl, rfl, rfl⟩⟩
set_option maxRecDepth 20000 in
theorem k_hold {w : World} {M T gk gd : Nat} {win : Int} {c : Nat → Int} {K a s u : Array Value} {x : Value} [zk : SzA K 37] [za : SzA a 2] [zs : SzA s 18] [zu : SzA u 18] (b1 : Blk w M 86 (mtC T win c)) (b2 : Blk w gk 72 K) (b3 : Blk w gd 41 (dgC a s u x)) :
    w.cell? ⟨M, 0, none⟩ = some (ptr T) ∧ (loadF 72 (.pointer (some ⟨gk, 0, none⟩))).run Try.prog w = .ok (.agg K) w ∧ (loadF 32 (.pointer (some ⟨gd, 0, none⟩))).run Try.prog w = .ok (.agg a) w := by
  refine ⟨by rw [blk_cell b1]; rfl, run_loadF0 72 37 w gk 72 K, ?_⟩
  have := run_loadFz 32 2 w gd 41 (dgC a s u x) 39 (by omega)
  rwa [dg_at] at this
set_option maxRecDepth 20000 in
theorem kp_row {S : Nat → Prop} {w w' : World} (h : KpS S w w') {g : Nat} (s : w.heap.size ≤ g) (cs : Array Value) : KpS S w (w'.setRow g cs) :=
  ⟨h.os, h.tape, h.output, by rw [setRow_size']; exact h.size, fun k h1 h2 => (setRow_get_ne w' g k cs (by omega)).trans (h.block k h1 h2)⟩
attribute [local go_sem] blk_cell' blk_frozen' dg_at dg_b en_at2
attribute [local go_sem ↓] loadF_samp storeF_samp buildF_samp loadF_wide' loadF_dg loadF_pk storeAt_pk loadF_key storeF_key loadF_entry storeF_entry
attribute [local go_sem] run_loadFo run_loadFz run_loadF0 run_storeF0 run_storePk run_build_samp0
set_option maxRecDepth 20000 in
set_option maxHeartbeats 16000000 in
theorem mtake_any (M T B : Nat) (room win : Int) (c : Nat → Int) (E : List En) (P : Nat → Prop) (d : Dg) (v : Value) (W : World) (h : MatV W M T B room win c E P) (hv : DgV W d v) (kd : DgOk d) (hE : E.length ≤ 65536) (hc : ∀ i, -1000000 ≤ c i ∧ c i ≤ 4611686018427387904) (w0 : 0 ≤ win) (w1 : win ≤ 9223372036854775807) :
    Calls Try.prog 12 #[ptr M, v] W fun e w' => e = .returned (.tuple #[.int .u8 (clsM win E d), .agg (smM win E d)]) ∧
      MatV w' M T B room win (upC c (clsM win E d)) (entM room E d) (fun i => P i ∨ W.heap.size ≤ i) ∧ KpS (fun i => P i ∨ i = M) W w' := by
  obtain ⟨A, cap, rfl, hb⟩ := hv
  have za := sz_wide kd.at_
  have zs := sz_ends kd.src
  have zt := sz_ends kd.dst
  have oa := one_of_fits kd.at_
  have os := one_of_fits kd.src
  have ot := one_of_fits kd.dst
  have EAT := Lib.hid (wd_fits kd.at_)
  have ok : HdOk (classP d.bs).1.h := by rw [classP_fst]; exact takeP_ok d.bs hb.byte
  obtain ⟨p, hp⟩ : ∃ p, (classP d.bs).1 = p := ⟨_, rfl⟩
  have HP := Lib.hid hp
  have CL := Lib.hid (fun w (m : Mo W w) => class_any d _ w ⟨A, cap, rfl, hb.mo m⟩ kd)
  have KY := Lib.hid (fun w (m : Mo W w) u (hu : PkV w p u) => key_any d p _ u w ⟨A, cap, rfl, hb.mo m⟩ kd hu)
  have kf := fits_key kd ok
  obtain ⟨q0, hq0⟩ : ∃ q, (classP d.bs).2 = q := ⟨_, rfl⟩
  obtain ⟨K, hK⟩ : ∃ K, keyC d (classP d.bs).1.h = K := ⟨_, rfl⟩
  have HQ := Lib.hid hq0
  rw [hp] at hK kf ok
  rw [hK] at KY
  have HK := Lib.hid hK
  have kf' : Fits (ksOf 72) K.toList := by rw [← hK]; exact kf
  have zk := key_sz kf'
  have ok1 := one_of_fits kf'
  have KF := Lib.hid kf'
  rw [hq0, hp] at CL
  have OK := Lib.hid ok
  have rng := clsM_rng win E d
  obtain ⟨R, hR⟩ : ∃ R, (fun (e : Ending) (w' : World) => e = .returned (.tuple #[.int .u8 (clsM win E d), .agg (smM win E d)]) ∧
      MatV w' M T B room win (upC c (clsM win E d)) (entM room E d) (fun i => P i ∨ W.heap.size ≤ i) ∧ KpS (fun i => P i ∨ i = M) W w') = R := ⟨_, rfl⟩
  rw [hR]
  have RR := Lib.hid hR
  have hm := h.m
  have HM := Lib.hid h
  clear hR hq0 hK ok kf kf' h hp

  go_enter Try.func12, Try.ntmps12
  go_wp2_with fail

  refine (CL.out _ Mor.out).mono ?_
  rintro e w3 ⟨u, rfl, X3, M3⟩
  have V3 := X3.at
  obtain ⟨a1, c1, a2, c2, rfl, -, -⟩ := X3
  have br3 : Blk w3 (W.heap.size + 1) 45 sm0 := M3.blk (blk_sm0 inferInstance rfl)
  have bd3 : Blk w3 W.heap.size 41 (dgC d.at_ d.src d.dst (.slice A d.bs.length cap)) := M3.blk inferInstance
  have N3 : Mo W w3 := Mo.trans Mor.out M3
  have lr3 := br3.lt
  clear M3 CL
  go_upto_region 4 with (fail)
  refine wp_name ?_
  intro w4 hw4
  have V4 : PkV w4 p (pkV p.h (.slice a1 p.e.length c1) (.slice a2 p.m.length c2)) := by rw [hw4]; exact V3.mo Mor.out
  have br4 : Blk w4 (W.heap.size + 1) 45 sm0 := by rw [hw4]; infer_instance
  have bd4 : Blk w4 W.heap.size 41 (dgC d.at_ d.src d.dst (.slice A d.bs.length cap)) := by rw [hw4]; infer_instance
  have bp4 : Blk w4 w3.heap.size 66 (pkL p.h (.slice a1 p.e.length c1) (.slice a2 p.m.length c2)).toArray := by rw [hw4]; infer_instance
  have N4 : Mo W w4 := by rw [hw4]; exact N3.trans Mor.out
  clear hw4 br3 bd3 V3
  go_wp2_with fail

  refine (KY.out _ N4 _ V4).mono ?_
  rintro e w5 ⟨rfl, M5⟩
  have V5 := V4.mo M5
  have br5 := M5.blk br4
  have bd5 := M5.blk bd4
  have bp5 := M5.blk bp4
  have N5 := N4.trans M5
  have lp5 := bp5.lt
  generalize keyB p.h = kb
  clear br4 bd4 bp4 M5 KY V4
  go_upto_block 0 with (fail)

  refine wp_name ?_
  intro w6 hw6
  have V6 : PkV w6 p (pkV p.h (.slice a1 p.e.length c1) (.slice a2 p.m.length c2)) := by rw [hw6]; exact V5.mo Mor.out
  have br6 : Blk w6 (W.heap.size + 1) 45 sm0 := by rw [hw6]; infer_instance
  have bd6 : Blk w6 W.heap.size 41 (dgC d.at_ d.src d.dst (.slice A d.bs.length cap)) := by rw [hw6]; infer_instance
  have bp6 : Blk w6 w3.heap.size 66 (pkL p.h (.slice a1 p.e.length c1) (.slice a2 p.m.length c2)).toArray := by rw [hw6]; infer_instance
  have bk6 : Blk w6 w5.heap.size 72 K := by rw [hw6]; infer_instance
  have bs6 : Blk w6 (w5.heap.size + 1) 45 sm0 := by rw [hw6]; exact blk_sm0 inferInstance rfl
  have N6 : Mo W w6 := by rw [hw6]; exact N5.trans Mor.out
  clear hw6 br5 bd5 bp5 V5
  have bm6 : Blk w6 M 86 (mtC T win c) := N6.blk hm
  have T6 : TabE w6 T B room E (fun i => P i ∧ i < W.heap.size) := (HM.out.t.weak (Q := (fun i => P i ∧ i < W.heap.size)) fun i hi q => ⟨q, hi⟩).mo N6
  have lM := hm.lt
  have lW := N6.size
  have l3 := bp6.lt
  have l5 := bs6.lt
  have lW3 := N3.size
  have lW5 := N5.size
  have lR6 := br6.lt
  have nM : w6.heap.size ≠ M := by omega
  have nK : w6.heap.size ≠ w5.heap.size := by omega
  have nD : w6.heap.size ≠ W.heap.size := by have := bd6.lt; omega
  have nR : w6.heap.size ≠ W.heap.size + 1 := by have := br6.lt; omega
  have nS : w6.heap.size ≠ w5.heap.size + 1 := by omega
  have nPM : ¬ (P M ∧ M < W.heap.size) := fun q => HM.out.np q.1
  have nPK : ¬ (P w5.heap.size ∧ w5.heap.size < W.heap.size) := fun q => by have := q.2; omega
  have nPD : ¬ (P W.heap.size ∧ W.heap.size < W.heap.size) := fun q => by have := q.2; omega
  have nPR : ¬ (P (W.heap.size + 1) ∧ W.heap.size + 1 < W.heap.size) := fun q => by have := q.2; omega
  have nPS : ¬ (P (w5.heap.size + 1) ∧ w5.heap.size + 1 < W.heap.size) := fun q => by have := q.2; omega
  have nPP : ¬ (P w3.heap.size ∧ w3.heap.size < W.heap.size) := fun q => by have := q.2; omega
  have nP6 : ¬ (P w6.heap.size ∧ w6.heap.size < W.heap.size) := fun q => by have := q.2; omega
  obtain ⟨SM, hSM⟩ : ∃ s, smM win E d = s := ⟨_, rfl⟩
  obtain ⟨Q, hQ⟩ : ∃ q, clsM win E d = q := ⟨_, rfl⟩
  have HSM := Lib.hid hSM
  have HQQ := Lib.hid hQ
  clear hSM hQ
  go_cut [7] from 11 to 78 (fun s7 wx => s7 = .int .u8 Q ∧ Blk wx M 86 (mtC T win c) ∧ Blk wx (W.heap.size + 1) 45 sm0 ∧ Blk wx (w5.heap.size + 1) 45 SM ∧ TabE wx T B room (entM room E d) (fun i => (P i ∧ i < W.heap.size) ∨ w6.heap.size ≤ i) ∧ KpS (fun i => P i ∧ i < W.heap.size) W wx)
  case first =>
    rcases classP_rng d.bs with e | e | e | e | e
    · obtain rfl : q0 = 0 := by rw [← HQ.out, e]
      obtain rfl : Q = 0 := by rw [← HQQ.out]; unfold clsM; rw [e]; simp
      obtain rfl : SM = sm0 := by rw [← HSM.out]; unfold smM; rw [HQQ.out]; simp
      have e3 : entM room E d = E := by unfold entM; rw [e]; simp
      clear e
      go_wp2_with fail
      go_meet
      exact ⟨rfl, bm6, br6, bs6, by rw [e3]; exact T6.weak fun i _ q => .inl q, KpS.of_mo N6⟩
    · obtain rfl : q0 = 1 := by rw [← HQ.out, e]
      have AK := Lib.hid (fun w t => ask_k T B room E (fun i => P i ∧ i < W.heap.size) K d.at_ w t KF.out kd.at_ hE)
      have e3 : entM room E d = (askE room E K d.at_).2.2 := by unfold entM; rw [e, if_pos rfl, HP.out, HK.out]
      have e4 : clsM win E d = if hasE E K = true then 2 else 1 := by unfold clsM; rw [e, if_pos rfl, HP.out, HK.out]
      obtain rfl : SM = sm0 := by rw [← HSM.out]; unfold smM; rw [e4]; split <;> simp
      rw [HQQ.out] at e4
      clear e
      cases hh : hasE E K
      all_goals (
        rw [hh] at AK e4
        simp only [if_true, Bool.false_eq_true, if_false] at e4
        subst e4
        go_upto_region 8 with (fail)
        go_region_held3 (fun w' => w'.cell? ⟨M, 0, none⟩ = some (ptr T) ∧ (loadF 72 (.pointer (some ⟨w5.heap.size, 0, none⟩))).run Try.prog w' = .ok (.agg K) w' ∧ (loadF 32 (.pointer (some ⟨W.heap.size, 0, none⟩))).run Try.prog w' = .ok (.agg d.at_) w') (first | exact k_hold inferInstance inferInstance inferInstance | exact k_hold (blk_setRow_ne inferInstance nM) (blk_setRow_ne inferInstance nK) (blk_setRow_ne inferInstance nD))
          (first
            | ((with_reducible refine (AK.out _ (T6.mo Mor.out)).mono ?_)
               rintro e w9 ⟨cs, gb, z1, z2, rfl, T9, K9⟩
               have l9 := K9.size
               have K9' : KpS (fun i => P i ∧ i < W.heap.size) W w9 := (KpS.of_mo (N6.trans Mor.out)).trans K9 fun _ _ q => q
               have i1 := K9.blk (inferInstance : Blk _ M _ (mtC T win c)) nPM
               have i2 := K9.blk (inferInstance : Blk _ w5.heap.size _ K) nPK
               have i3 := K9.blk (inferInstance : Blk _ W.heap.size _ (dgC d.at_ d.src d.dst (.slice A d.bs.length cap))) nPD
               have i4 := K9.blk (inferInstance : Blk _ (W.heap.size + 1) _ sm0) nPR
               have i5 := K9.blk (inferInstance : Blk _ (w5.heap.size + 1) _ sm0) nPS
               have i6 := K9.blk (inferInstance : Blk _ w3.heap.size _ (pkL p.h (.slice a1 p.e.length c1) (.slice a2 p.m.length c2)).toArray) nPP
               try have i7 := K9.blk (inferInstance : Blk _ w6.heap.size _ _) nP6))
        all_goals (
          go_wp2_with fail
          go_meet
          refine ⟨rfl, ?_, ?_, ?_, ?_, ?_⟩
          · first | infer_instance | exact blk_setRow_ne inferInstance nM
          · first | infer_instance | exact blk_setRow_ne inferInstance nR
          · first | infer_instance | exact blk_setRow_ne inferInstance nS
          · rw [e3]
            first
              | exact (T9.mo Mor.out).weak fun i _ q => q.imp id fun h => Nat.le_trans (Mo.size Mor.out) h
              | exact (T9.keep fun i hi hp => setRow_get_ne _ _ _ _ (by
                  rcases hp with ⟨_, hp⟩ | hp
                  · omega
                  · have : w6.heap.size + 1 ≤ i := by simpa using hp
                    omega)).weak fun i _ q => q.imp id fun h => Nat.le_trans (Mo.size Mor.out) h
          · first
              | exact K9'.trans (KpS.of_mo Mor.out) fun _ _ q => q
              | exact kp_row K9' (by omega) _))
    · obtain rfl : q0 = 3 := by rw [← HQ.out, e]
      obtain rfl : Q = 3 := by rw [← HQQ.out]; unfold clsM; rw [e]; simp
      obtain rfl : SM = sm0 := by rw [← HSM.out]; unfold smM; rw [HQQ.out]; simp
      have e3 : entM room E d = E := by unfold entM; rw [e]; simp
      clear e
      go_wp2_with fail
      go_meet
      exact ⟨rfl, bm6, br6, bs6, by rw [e3]; exact T6.weak fun i _ q => .inl q, KpS.of_mo N6⟩
    · obtain rfl : q0 = 4 := by rw [← HQ.out, e]
      have AK := Lib.hid (fun w t => ans_k T B room E (fun i => P i ∧ i < W.heap.size) K w t KF.out)
      have e3 : entM room E d = ansE E K := by unfold entM; rw [e, if_neg (by decide), if_pos rfl, HP.out, HK.out]
      have hm4 : p.h.m = 4 := by have := classP_4 e; rwa [HP.out] at this
      have HM4 := Lib.hid hm4
      have E4 := Lib.hid e
      clear e hm4
      go_upto_region 12 with (fail)
      go_cut [14, 15] from 55 to 63 (fun s14 s15 wx => ∃ g14 x b q, s14 = .pointer (some ⟨g14, 0, none⟩) ∧ s15 = .int .u8 q ∧ InW x ∧ ((findE E K = none ∧ q = 7) ∨ ∃ y, findE E K = some y ∧ x = wI y.a ∧ q = if y.d = true then 6 else 4) ∧
        Blk wx g14 88 (enC K (wdC x) b) ∧ Blk wx M 86 (mtC T win c) ∧ Blk wx w5.heap.size 72 K ∧ Blk wx W.heap.size 41 (dgC d.at_ d.src d.dst (.slice A d.bs.length cap)) ∧ Blk wx (W.heap.size + 1) 45 sm0 ∧ Blk wx (w5.heap.size + 1) 45 sm0 ∧
        Blk wx w3.heap.size 66 (pkL p.h (.slice a1 p.e.length c1) (.slice a2 p.m.length c2)).toArray ∧ TabE wx T B room (ansE E K) (fun i => P i ∧ i < W.heap.size) ∧ KpS (fun i => P i ∧ i < W.heap.size) W wx ∧ w6.heap.size ≤ wx.heap.size)
      case first =>
        go_region_held3 (fun w' => w'.cell? ⟨M, 0, none⟩ = some (ptr T) ∧ (loadF 72 (.pointer (some ⟨w5.heap.size, 0, none⟩))).run Try.prog w' = .ok (.agg K) w' ∧ (loadF 32 (.pointer (some ⟨W.heap.size, 0, none⟩))).run Try.prog w' = .ok (.agg d.at_) w') (first | exact k_hold inferInstance inferInstance inferInstance | exact k_hold (blk_setRow_ne inferInstance nM) (blk_setRow_ne inferInstance nK) (blk_setRow_ne inferInstance nD))
          (first
            | ((with_reducible refine (AK.out _ (T6.mo Mor.out)).mono ?_)
               rintro e w9 ⟨x, b, q, ix, rfl, T9, K9, hq⟩
               have l9 := K9.size
               have K9' : KpS (fun i => P i ∧ i < W.heap.size) W w9 := (KpS.of_mo (N6.trans Mor.out)).trans K9 fun _ _ q => q
               have i1 := K9.blk (inferInstance : Blk _ M _ (mtC T win c)) nPM
               have i2 := K9.blk (inferInstance : Blk _ w5.heap.size _ K) nPK
               have i3 := K9.blk (inferInstance : Blk _ W.heap.size _ (dgC d.at_ d.src d.dst (.slice A d.bs.length cap))) nPD
               have i4 := K9.blk (inferInstance : Blk _ (W.heap.size + 1) _ sm0) nPR
               have i5 := K9.blk (inferInstance : Blk _ (w5.heap.size + 1) _ sm0) nPS
               have i6 := K9.blk (inferInstance : Blk _ w3.heap.size _ (pkL p.h (.slice a1 p.e.length c1) (.slice a2 p.m.length c2)).toArray) nPP
               try have i7 := K9.blk (inferInstance : Blk _ w6.heap.size _ _) nP6))
        all_goals (
          go_wp2_with fail
          go_meet
          refine ⟨_, x, b, q, rfl, rfl, ix, hq, ?_, ?_, ?_, ?_, ?_, ?_, ?_, ?_, ?_, ?_⟩
          · first | infer_instance | exact blk_setRow inferInstance
          · first | infer_instance | exact blk_setRow_ne inferInstance nM
          · first | infer_instance | exact blk_setRow_ne inferInstance nK
          · first | infer_instance | exact blk_setRow_ne inferInstance nD
          · first | infer_instance | exact blk_setRow_ne inferInstance nR
          · first | infer_instance | exact blk_setRow_ne inferInstance nS
          · first | infer_instance | exact blk_setRow_ne inferInstance (by omega)
          · first
              | exact T9.mo Mor.out
              | exact T9.keep fun i hi hp => setRow_get_ne _ _ _ _ (by have := hp.2; omega)
          · first
              | exact K9'.trans (KpS.of_mo Mor.out) fun _ _ q => q
              | exact kp_row K9' (by omega) _
          · have q1 : w6.heap.size ≤ w9.heap.size := Nat.le_trans (Mo.size Mor.out) l9
            first
              | exact Nat.le_trans q1 (Mo.size Mor.out)
              | (rw [setRow_size']; exact q1))
      obtain ⟨g14, x, b, q, rfl, rfl, ix, hq, j14, jm, jk, jd, jr, js, jp, TX, KX, lX⟩ := hcut
      rename World => w7
      clear AK bm6 br6 bs6 bd6 bp6 bk6 T6
      have IN := Lib.hid (fun w (m : Blk w M 86 (mtC T win c)) => inside_any M T win c x (wI d.at_) w m w0 w1 ix EAT.out.2)
      have eA : WV (wI d.at_) = .agg d.at_ := by rw [EAT.out.1, wI_wd]
      rw [eA] at IN
      have eK : K = kfC (d.dst ++ d.src) p.h.o := by rw [← HK.out]; unfold keyC; rw [HM4.out]; rfl
      have zf : SzA (d.dst ++ d.src) 36 := ⟨by rw [Array.size_append, zs.out, zt.out]⟩
      have of_ : OneA (d.dst ++ d.src) := inferInstance
      have o0 := OK.out.o
      have SA := Lib.hid (fun w => sample_any (d.dst ++ d.src) p.h.o (wI d.at_) p _ w o0.1 o0.2 OK.out EAT.out.2 ⟨a1, c1, a2, c2, rfl⟩)
      rw [eA, ← eK] at SA
      clear o0 eK eA
      have TE := Lib.hid TX
      rcases hq with ⟨hf, rfl⟩ | ⟨y, hf, hx, hqy⟩
      · obtain rfl : Q = 7 := by rw [← HQQ.out]; unfold clsM; rw [E4.out, if_neg (by decide), if_pos rfl, HP.out, HK.out, hf]
        obtain rfl : SM = sm0 := by rw [← HSM.out]; unfold smM; rw [HQQ.out]; simp
        clear hf
        go_wp2_with fail
        go_meet
        exact ⟨rfl, jm, jr, js, by rw [e3]; exact TE.out.weak fun i _ q => .inl q, KX⟩
      · cases hyd : y.d
        · rw [hyd] at hqy
          simp only [Bool.false_eq_true, if_false] at hqy
          subst hqy
          have e5 : clsM win E d = if insB win x (wI d.at_) = true then 4 else 5 := by unfold clsM; rw [E4.out, if_neg (by decide), if_pos rfl, HP.out, HK.out, hf, hx]; simp [hyd]
          rw [HQQ.out] at e5
          clear hf hx hyd
          cases hi : insB win x (wI d.at_)
          · rw [hi] at e5 IN
            simp only [Bool.false_eq_true, if_false] at e5
            subst e5
            obtain rfl : SM = sm0 := by rw [← HSM.out]; unfold smM; rw [HQQ.out]; simp
            clear hi
            go_wp2_with fail
            refine (IN.out _ inferInstance).mono ?_
            rintro e w8 ⟨rfl, M8⟩
            have MM := Mo.trans (Mor.out : Mo w7 _) M8
            have jm8 := MM.blk jm
            have jr8 := MM.blk jr
            have js8 := MM.blk js
            go_wp2_with fail
            go_meet
            exact ⟨rfl, jm8, jr8, js8, by rw [e3]; exact (TE.out.mo MM).weak fun i _ q => .inl q, KX.trans (KpS.of_mo MM) fun _ _ q => q⟩
          · rw [hi] at e5 IN
            simp only [if_true] at e5
            subst e5
            have e6 : smM win E d = smpC (d.dst ++ d.src) p.h.o p.h (wI d.at_) := by unfold smM; rw [HQQ.out, if_pos rfl, HP.out]
            obtain rfl : SM = smpC (d.dst ++ d.src) p.h.o p.h (wI d.at_) := by rw [← HSM.out]; exact e6
            have zq : SzA (smpC (d.dst ++ d.src) p.h.o p.h (wI d.at_)) 48 := by unfold smpC; infer_instance
            have oq : OneA (smpC (d.dst ++ d.src) p.h.o p.h (wI d.at_)) := by unfold smpC; infer_instance
            generalize smpC (d.dst ++ d.src) p.h.o p.h (wI d.at_) = SM at *
            clear hi e6
            go_wp2_with fail
            refine (IN.out _ inferInstance).mono ?_
            rintro e w8 ⟨rfl, M8⟩
            have MM := Mo.trans (Mor.out : Mo w7 _) M8
            have jm8 := MM.blk jm
            have jr8 := MM.blk jr
            have js8 := MM.blk js
            have jk8 := MM.blk jk
            have jd8 := MM.blk jd
            have jp8 := MM.blk jp
            clear M8
            go_wp2_with fail
            refine (SA.out _).mono ?_
            rintro e w9 ⟨rfl, M9⟩
            have MN := MM.trans (Mo.trans (Mor.out : Mo w8 _) M9)
            have jm9 := MN.blk jm
            have jr9 := MN.blk jr
            have js9 := MN.blk js
            clear M9
            go_wp2_with fail
            go_meet
            refine ⟨rfl, blk_setRow_ne jm9 (by omega), blk_setRow_ne jr9 (by omega), blk_setRow js9, by rw [e3]; exact ((TE.out.mo MN).keep fun i hi hp => setRow_get_ne _ _ _ _ (by have := hp.2; omega)).weak fun i _ q => .inl q, kp_row (KX.trans (KpS.of_mo MN) fun _ _ q => q) (by omega) _⟩
        · rw [hyd] at hqy
          simp only [if_true] at hqy
          subst hqy
          obtain rfl : Q = 6 := by rw [← HQQ.out]; unfold clsM; rw [E4.out, if_neg (by decide), if_pos rfl, HP.out, HK.out, hf]; simp [hyd]
          obtain rfl : SM = sm0 := by rw [← HSM.out]; unfold smM; rw [HQQ.out]; simp
          clear hf hx hyd
          go_wp2_with fail
          go_meet
          exact ⟨rfl, jm, jr, js, by rw [e3]; exact TE.out.weak fun i _ q => .inl q, KX⟩
    · obtain rfl : q0 = 8 := by rw [← HQ.out, e]
      obtain rfl : Q = 8 := by rw [← HQQ.out]; unfold clsM; rw [e]; simp
      obtain rfl : SM = sm0 := by rw [← HSM.out]; unfold smM; rw [HQQ.out]; simp
      have e3 : entM room E d = E := by unfold entM; rw [e]; simp
      clear e
      go_wp2_with fail
      go_meet
      exact ⟨rfl, bm6, br6, bs6, by rw [e3]; exact T6.weak fun i _ q => .inl q, KpS.of_mo N6⟩
  obtain ⟨rfl, jm, jr, js, TX, KX⟩ := hcut
  rename World => w7
  have rq : Q = 0 ∨ Q = 1 ∨ Q = 2 ∨ Q = 3 ∨ Q = 4 ∨ Q = 5 ∨ Q = 6 ∨ Q = 7 ∨ Q = 8 := by have := rng; rw [HQQ.out] at this; omega
  have zq : SzA SM 48 := by
    rw [← HSM.out]
    unfold smM
    have zf : SzA (d.dst ++ d.src) 36 := ⟨by rw [Array.size_append, zs.out, zt.out]⟩
    split
    · unfold smpC; infer_instance
    · infer_instance
  have oq : OneA SM := by
    rw [← HSM.out]
    unfold smM
    split
    · unfold smpC; infer_instance
    · infer_instance
  have FIN : ∀ (w : World) (q : Int), Q = q → Blk w M 86 (mtC T win (upC c q)) → TabE w T B room (entM room E d) (fun i => P i ∨ W.heap.size ≤ i) → KpS (fun i => P i ∨ i = M) W w → R (.returned (.tuple #[.int .u8 q, .agg SM])) w := fun w q e m t k => by
    rw [← RR.out]
    refine ⟨by rw [HQQ.out, HSM.out, e], ⟨by rw [HQQ.out, e]; exact m, t, fun q => ?_⟩, k⟩
    rcases q with q | q
    · exact HM.out.np q
    · omega
  clear bm6 br6 bs6 bd6 bp6 bk6 T6 KF OK HP HK HQ HSM RR

  rcases rq with rfl | rfl | rfl | rfl | rfl | rfl | rfl | rfl | rfl
  · have cw : IntKind.i64.wrap (c 0 + 1) = c 0 + 1 := by have := hc 0; rw [IntKind.wrap_i64]; omega
    go_upto_region 18 with (fail)
    go_region
    obtain ⟨wA, hwA⟩ : ∃ w, w7.setCell ⟨M, 2, none⟩ (.int .i64 (c 0 + 1)) = w := ⟨_, rfl⟩
    have mA : Blk wA M 86 (mtC T win (upC c 0)) := by rw [← hwA, ← mt_set T win c 0 (by decide) (by decide)]; exact blk_setCell jm 2 _
    have brA : Blk wA (W.heap.size + 1) 45 sm0 := by rw [← hwA]; exact blk_setCell_ne jr (by omega) _ _
    have bsA : Blk wA (w5.heap.size + 1) 45 SM := by rw [← hwA]; exact blk_setCell_ne js (by omega) _ _
    have KA : KpS (fun i => P i ∨ i = M) W wA := by rw [← hwA]; exact (KX.mono fun i _ q => .inl q.1).cell (.inr rfl) _ _
    have TA : TabE wA T B room (entM room E d) (fun i => (P i ∧ i < W.heap.size) ∨ w6.heap.size ≤ i) := by
      rw [← hwA]
      exact TX.keep fun i hi hp => heap_setCell_other _ _ _ _ (fun e => by
        subst e
        rcases hp with hp | hp
        · exact HM.out.np hp.1
        · omega)
    rw [hwA]
    clear hwA jm jr js TX KX
    go_upto_region 19 with (fail)
    go_region
    obtain ⟨wB, hwB⟩ : ∃ w, wA.setRow (W.heap.size + 1) SM = w := ⟨_, rfl⟩
    have mB : Blk wB M 86 (mtC T win (upC c 0)) := by rw [← hwB]; exact blk_setRow_ne mA (by omega)
    have rB : Blk wB (W.heap.size + 1) 45 SM := by rw [← hwB]; exact blk_setRow brA
    have KB : KpS (fun i => P i ∨ i = M) W wB := by rw [← hwB]; exact kp_row KA (by omega) _
    have TB : TabE wB T B room (entM room E d) (fun i => P i ∨ W.heap.size ≤ i) := by
      rw [← hwB]
      exact (TA.keep fun i hi hp => setRow_get_ne _ _ _ _ (by
        rcases hp with hp | hp
        · have := hp.2; omega
        · omega)).weak fun i _ q => q.imp (fun q => q.1) fun q => Nat.le_trans lW q
    first | rw [hwB] | skip
    clear mA brA bsA KA TA
    go_wp2_with fail
    refine ret_tc rfl (W.heap.size + 1) SM rfl rfl (z := inferInstance) inferInstance ?_
    exact FIN _ 0 rfl inferInstance (TB.mo Mor.out) (KB.trans (KpS.of_mo Mor.out) fun _ _ q => q)
  · have cw : IntKind.i64.wrap (c 1 + 1) = c 1 + 1 := by have := hc 1; rw [IntKind.wrap_i64]; omega
    go_upto_region 18 with (fail)
    go_region
    obtain ⟨wA, hwA⟩ : ∃ w, w7.setCell ⟨M, 3, none⟩ (.int .i64 (c 1 + 1)) = w := ⟨_, rfl⟩
    have mA : Blk wA M 86 (mtC T win (upC c 1)) := by rw [← hwA, ← mt_set T win c 1 (by decide) (by decide)]; exact blk_setCell jm 3 _
    have brA : Blk wA (W.heap.size + 1) 45 sm0 := by rw [← hwA]; exact blk_setCell_ne jr (by omega) _ _
    have bsA : Blk wA (w5.heap.size + 1) 45 SM := by rw [← hwA]; exact blk_setCell_ne js (by omega) _ _
    have KA : KpS (fun i => P i ∨ i = M) W wA := by rw [← hwA]; exact (KX.mono fun i _ q => .inl q.1).cell (.inr rfl) _ _
    have TA : TabE wA T B room (entM room E d) (fun i => (P i ∧ i < W.heap.size) ∨ w6.heap.size ≤ i) := by
      rw [← hwA]
      exact TX.keep fun i hi hp => heap_setCell_other _ _ _ _ (fun e => by
        subst e
        rcases hp with hp | hp
        · exact HM.out.np hp.1
        · omega)
    rw [hwA]
    clear hwA jm jr js TX KX
    go_upto_region 19 with (fail)
    go_region
    obtain ⟨wB, hwB⟩ : ∃ w, wA.setRow (W.heap.size + 1) SM = w := ⟨_, rfl⟩
    have mB : Blk wB M 86 (mtC T win (upC c 1)) := by rw [← hwB]; exact blk_setRow_ne mA (by omega)
    have rB : Blk wB (W.heap.size + 1) 45 SM := by rw [← hwB]; exact blk_setRow brA
    have KB : KpS (fun i => P i ∨ i = M) W wB := by rw [← hwB]; exact kp_row KA (by omega) _
    have TB : TabE wB T B room (entM room E d) (fun i => P i ∨ W.heap.size ≤ i) := by
      rw [← hwB]
      exact (TA.keep fun i hi hp => setRow_get_ne _ _ _ _ (by
        rcases hp with hp | hp
        · have := hp.2; omega
        · omega)).weak fun i _ q => q.imp (fun q => q.1) fun q => Nat.le_trans lW q
    first | rw [hwB] | skip
    clear mA brA bsA KA TA
    go_wp2_with fail
    refine ret_tc rfl (W.heap.size + 1) SM rfl rfl (z := inferInstance) inferInstance ?_
    exact FIN _ 1 rfl inferInstance (TB.mo Mor.out) (KB.trans (KpS.of_mo Mor.out) fun _ _ q => q)
  · have cw : IntKind.i64.wrap (c 2 + 1) = c 2 + 1 := by have := hc 2; rw [IntKind.wrap_i64]; omega
    go_upto_region 18 with (fail)
    go_region
    obtain ⟨wA, hwA⟩ : ∃ w, w7.setCell ⟨M, 4, none⟩ (.int .i64 (c 2 + 1)) = w := ⟨_, rfl⟩
    have mA : Blk wA M 86 (mtC T win (upC c 2)) := by rw [← hwA, ← mt_set T win c 2 (by decide) (by decide)]; exact blk_setCell jm 4 _
    have brA : Blk wA (W.heap.size + 1) 45 sm0 := by rw [← hwA]; exact blk_setCell_ne jr (by omega) _ _
    have bsA : Blk wA (w5.heap.size + 1) 45 SM := by rw [← hwA]; exact blk_setCell_ne js (by omega) _ _
    have KA : KpS (fun i => P i ∨ i = M) W wA := by rw [← hwA]; exact (KX.mono fun i _ q => .inl q.1).cell (.inr rfl) _ _
    have TA : TabE wA T B room (entM room E d) (fun i => (P i ∧ i < W.heap.size) ∨ w6.heap.size ≤ i) := by
      rw [← hwA]
      exact TX.keep fun i hi hp => heap_setCell_other _ _ _ _ (fun e => by
        subst e
        rcases hp with hp | hp
        · exact HM.out.np hp.1
        · omega)
    rw [hwA]
    clear hwA jm jr js TX KX
    go_upto_region 19 with (fail)
    go_region
    obtain ⟨wB, hwB⟩ : ∃ w, wA.setRow (W.heap.size + 1) SM = w := ⟨_, rfl⟩
    have mB : Blk wB M 86 (mtC T win (upC c 2)) := by rw [← hwB]; exact blk_setRow_ne mA (by omega)
    have rB : Blk wB (W.heap.size + 1) 45 SM := by rw [← hwB]; exact blk_setRow brA
    have KB : KpS (fun i => P i ∨ i = M) W wB := by rw [← hwB]; exact kp_row KA (by omega) _
    have TB : TabE wB T B room (entM room E d) (fun i => P i ∨ W.heap.size ≤ i) := by
      rw [← hwB]
      exact (TA.keep fun i hi hp => setRow_get_ne _ _ _ _ (by
        rcases hp with hp | hp
        · have := hp.2; omega
        · omega)).weak fun i _ q => q.imp (fun q => q.1) fun q => Nat.le_trans lW q
    first | rw [hwB] | skip
    clear mA brA bsA KA TA
    go_wp2_with fail
    refine ret_tc rfl (W.heap.size + 1) SM rfl rfl (z := inferInstance) inferInstance ?_
    exact FIN _ 2 rfl inferInstance (TB.mo Mor.out) (KB.trans (KpS.of_mo Mor.out) fun _ _ q => q)
  · have cw : IntKind.i64.wrap (c 3 + 1) = c 3 + 1 := by have := hc 3; rw [IntKind.wrap_i64]; omega
    go_upto_region 18 with (fail)
    go_region
    obtain ⟨wA, hwA⟩ : ∃ w, w7.setCell ⟨M, 5, none⟩ (.int .i64 (c 3 + 1)) = w := ⟨_, rfl⟩
    have mA : Blk wA M 86 (mtC T win (upC c 3)) := by rw [← hwA, ← mt_set T win c 3 (by decide) (by decide)]; exact blk_setCell jm 5 _
    have brA : Blk wA (W.heap.size + 1) 45 sm0 := by rw [← hwA]; exact blk_setCell_ne jr (by omega) _ _
    have bsA : Blk wA (w5.heap.size + 1) 45 SM := by rw [← hwA]; exact blk_setCell_ne js (by omega) _ _
    have KA : KpS (fun i => P i ∨ i = M) W wA := by rw [← hwA]; exact (KX.mono fun i _ q => .inl q.1).cell (.inr rfl) _ _
    have TA : TabE wA T B room (entM room E d) (fun i => (P i ∧ i < W.heap.size) ∨ w6.heap.size ≤ i) := by
      rw [← hwA]
      exact TX.keep fun i hi hp => heap_setCell_other _ _ _ _ (fun e => by
        subst e
        rcases hp with hp | hp
        · exact HM.out.np hp.1
        · omega)
    rw [hwA]
    clear hwA jm jr js TX KX
    go_upto_region 19 with (fail)
    go_region
    obtain ⟨wB, hwB⟩ : ∃ w, wA.setRow (W.heap.size + 1) SM = w := ⟨_, rfl⟩
    have mB : Blk wB M 86 (mtC T win (upC c 3)) := by rw [← hwB]; exact blk_setRow_ne mA (by omega)
    have rB : Blk wB (W.heap.size + 1) 45 SM := by rw [← hwB]; exact blk_setRow brA
    have KB : KpS (fun i => P i ∨ i = M) W wB := by rw [← hwB]; exact kp_row KA (by omega) _
    have TB : TabE wB T B room (entM room E d) (fun i => P i ∨ W.heap.size ≤ i) := by
      rw [← hwB]
      exact (TA.keep fun i hi hp => setRow_get_ne _ _ _ _ (by
        rcases hp with hp | hp
        · have := hp.2; omega
        · omega)).weak fun i _ q => q.imp (fun q => q.1) fun q => Nat.le_trans lW q
    first | rw [hwB] | skip
    clear mA brA bsA KA TA
    go_wp2_with fail
    refine ret_tc rfl (W.heap.size + 1) SM rfl rfl (z := inferInstance) inferInstance ?_
    exact FIN _ 3 rfl inferInstance (TB.mo Mor.out) (KB.trans (KpS.of_mo Mor.out) fun _ _ q => q)
  · have cw : IntKind.i64.wrap (c 4 + 1) = c 4 + 1 := by have := hc 4; rw [IntKind.wrap_i64]; omega
    go_upto_region 18 with (fail)
    go_region
    obtain ⟨wA, hwA⟩ : ∃ w, w7.setCell ⟨M, 6, none⟩ (.int .i64 (c 4 + 1)) = w := ⟨_, rfl⟩
    have mA : Blk wA M 86 (mtC T win (upC c 4)) := by rw [← hwA, ← mt_set T win c 4 (by decide) (by decide)]; exact blk_setCell jm 6 _
    have brA : Blk wA (W.heap.size + 1) 45 sm0 := by rw [← hwA]; exact blk_setCell_ne jr (by omega) _ _
    have bsA : Blk wA (w5.heap.size + 1) 45 SM := by rw [← hwA]; exact blk_setCell_ne js (by omega) _ _
    have KA : KpS (fun i => P i ∨ i = M) W wA := by rw [← hwA]; exact (KX.mono fun i _ q => .inl q.1).cell (.inr rfl) _ _
    have TA : TabE wA T B room (entM room E d) (fun i => (P i ∧ i < W.heap.size) ∨ w6.heap.size ≤ i) := by
      rw [← hwA]
      exact TX.keep fun i hi hp => heap_setCell_other _ _ _ _ (fun e => by
        subst e
        rcases hp with hp | hp
        · exact HM.out.np hp.1
        · omega)
    rw [hwA]
    clear hwA jm jr js TX KX
    go_upto_region 19 with (fail)
    go_region
    obtain ⟨wB, hwB⟩ : ∃ w, wA.setRow (W.heap.size + 1) SM = w := ⟨_, rfl⟩
    have mB : Blk wB M 86 (mtC T win (upC c 4)) := by rw [← hwB]; exact blk_setRow_ne mA (by omega)
    have rB : Blk wB (W.heap.size + 1) 45 SM := by rw [← hwB]; exact blk_setRow brA
    have KB : KpS (fun i => P i ∨ i = M) W wB := by rw [← hwB]; exact kp_row KA (by omega) _
    have TB : TabE wB T B room (entM room E d) (fun i => P i ∨ W.heap.size ≤ i) := by
      rw [← hwB]
      exact (TA.keep fun i hi hp => setRow_get_ne _ _ _ _ (by
        rcases hp with hp | hp
        · have := hp.2; omega
        · omega)).weak fun i _ q => q.imp (fun q => q.1) fun q => Nat.le_trans lW q
    first | rw [hwB] | skip
    clear mA brA bsA KA TA
    go_wp2_with fail
    refine ret_tc rfl (W.heap.size + 1) SM rfl rfl (z := inferInstance) inferInstance ?_
    exact FIN _ 4 rfl inferInstance (TB.mo Mor.out) (KB.trans (KpS.of_mo Mor.out) fun _ _ q => q)
  · have cw : IntKind.i64.wrap (c 5 + 1) = c 5 + 1 := by have := hc 5; rw [IntKind.wrap_i64]; omega
    go_upto_region 18 with (fail)
    go_region
    obtain ⟨wA, hwA⟩ : ∃ w, w7.setCell ⟨M, 7, none⟩ (.int .i64 (c 5 + 1)) = w := ⟨_, rfl⟩
    have mA : Blk wA M 86 (mtC T win (upC c 5)) := by rw [← hwA, ← mt_set T win c 5 (by decide) (by decide)]; exact blk_setCell jm 7 _
    have brA : Blk wA (W.heap.size + 1) 45 sm0 := by rw [← hwA]; exact blk_setCell_ne jr (by omega) _ _
    have bsA : Blk wA (w5.heap.size + 1) 45 SM := by rw [← hwA]; exact blk_setCell_ne js (by omega) _ _
    have KA : KpS (fun i => P i ∨ i = M) W wA := by rw [← hwA]; exact (KX.mono fun i _ q => .inl q.1).cell (.inr rfl) _ _
    have TA : TabE wA T B room (entM room E d) (fun i => (P i ∧ i < W.heap.size) ∨ w6.heap.size ≤ i) := by
      rw [← hwA]
      exact TX.keep fun i hi hp => heap_setCell_other _ _ _ _ (fun e => by
        subst e
        rcases hp with hp | hp
        · exact HM.out.np hp.1
        · omega)
    rw [hwA]
    clear hwA jm jr js TX KX
    go_upto_region 19 with (fail)
    go_region
    obtain ⟨wB, hwB⟩ : ∃ w, wA.setRow (W.heap.size + 1) SM = w := ⟨_, rfl⟩
    have mB : Blk wB M 86 (mtC T win (upC c 5)) := by rw [← hwB]; exact blk_setRow_ne mA (by omega)
    have rB : Blk wB (W.heap.size + 1) 45 SM := by rw [← hwB]; exact blk_setRow brA
    have KB : KpS (fun i => P i ∨ i = M) W wB := by rw [← hwB]; exact kp_row KA (by omega) _
    have TB : TabE wB T B room (entM room E d) (fun i => P i ∨ W.heap.size ≤ i) := by
      rw [← hwB]
      exact (TA.keep fun i hi hp => setRow_get_ne _ _ _ _ (by
        rcases hp with hp | hp
        · have := hp.2; omega
        · omega)).weak fun i _ q => q.imp (fun q => q.1) fun q => Nat.le_trans lW q
    first | rw [hwB] | skip
    clear mA brA bsA KA TA
    go_wp2_with fail
    refine ret_tc rfl (W.heap.size + 1) SM rfl rfl (z := inferInstance) inferInstance ?_
    exact FIN _ 5 rfl inferInstance (TB.mo Mor.out) (KB.trans (KpS.of_mo Mor.out) fun _ _ q => q)
  · have cw : IntKind.i64.wrap (c 6 + 1) = c 6 + 1 := by have := hc 6; rw [IntKind.wrap_i64]; omega
    go_upto_region 18 with (fail)
    go_region
    obtain ⟨wA, hwA⟩ : ∃ w, w7.setCell ⟨M, 8, none⟩ (.int .i64 (c 6 + 1)) = w := ⟨_, rfl⟩
    have mA : Blk wA M 86 (mtC T win (upC c 6)) := by rw [← hwA, ← mt_set T win c 6 (by decide) (by decide)]; exact blk_setCell jm 8 _
    have brA : Blk wA (W.heap.size + 1) 45 sm0 := by rw [← hwA]; exact blk_setCell_ne jr (by omega) _ _
    have bsA : Blk wA (w5.heap.size + 1) 45 SM := by rw [← hwA]; exact blk_setCell_ne js (by omega) _ _
    have KA : KpS (fun i => P i ∨ i = M) W wA := by rw [← hwA]; exact (KX.mono fun i _ q => .inl q.1).cell (.inr rfl) _ _
    have TA : TabE wA T B room (entM room E d) (fun i => (P i ∧ i < W.heap.size) ∨ w6.heap.size ≤ i) := by
      rw [← hwA]
      exact TX.keep fun i hi hp => heap_setCell_other _ _ _ _ (fun e => by
        subst e
        rcases hp with hp | hp
        · exact HM.out.np hp.1
        · omega)
    rw [hwA]
    clear hwA jm jr js TX KX
    go_upto_region 19 with (fail)
    go_region
    obtain ⟨wB, hwB⟩ : ∃ w, wA.setRow (W.heap.size + 1) SM = w := ⟨_, rfl⟩
    have mB : Blk wB M 86 (mtC T win (upC c 6)) := by rw [← hwB]; exact blk_setRow_ne mA (by omega)
    have rB : Blk wB (W.heap.size + 1) 45 SM := by rw [← hwB]; exact blk_setRow brA
    have KB : KpS (fun i => P i ∨ i = M) W wB := by rw [← hwB]; exact kp_row KA (by omega) _
    have TB : TabE wB T B room (entM room E d) (fun i => P i ∨ W.heap.size ≤ i) := by
      rw [← hwB]
      exact (TA.keep fun i hi hp => setRow_get_ne _ _ _ _ (by
        rcases hp with hp | hp
        · have := hp.2; omega
        · omega)).weak fun i _ q => q.imp (fun q => q.1) fun q => Nat.le_trans lW q
    first | rw [hwB] | skip
    clear mA brA bsA KA TA
    go_wp2_with fail
    refine ret_tc rfl (W.heap.size + 1) SM rfl rfl (z := inferInstance) inferInstance ?_
    exact FIN _ 6 rfl inferInstance (TB.mo Mor.out) (KB.trans (KpS.of_mo Mor.out) fun _ _ q => q)
  · have cw : IntKind.i64.wrap (c 7 + 1) = c 7 + 1 := by have := hc 7; rw [IntKind.wrap_i64]; omega
    go_upto_region 18 with (fail)
    go_region
    obtain ⟨wA, hwA⟩ : ∃ w, w7.setCell ⟨M, 9, none⟩ (.int .i64 (c 7 + 1)) = w := ⟨_, rfl⟩
    have mA : Blk wA M 86 (mtC T win (upC c 7)) := by rw [← hwA, ← mt_set T win c 7 (by decide) (by decide)]; exact blk_setCell jm 9 _
    have brA : Blk wA (W.heap.size + 1) 45 sm0 := by rw [← hwA]; exact blk_setCell_ne jr (by omega) _ _
    have bsA : Blk wA (w5.heap.size + 1) 45 SM := by rw [← hwA]; exact blk_setCell_ne js (by omega) _ _
    have KA : KpS (fun i => P i ∨ i = M) W wA := by rw [← hwA]; exact (KX.mono fun i _ q => .inl q.1).cell (.inr rfl) _ _
    have TA : TabE wA T B room (entM room E d) (fun i => (P i ∧ i < W.heap.size) ∨ w6.heap.size ≤ i) := by
      rw [← hwA]
      exact TX.keep fun i hi hp => heap_setCell_other _ _ _ _ (fun e => by
        subst e
        rcases hp with hp | hp
        · exact HM.out.np hp.1
        · omega)
    rw [hwA]
    clear hwA jm jr js TX KX
    go_upto_region 19 with (fail)
    go_region
    obtain ⟨wB, hwB⟩ : ∃ w, wA.setRow (W.heap.size + 1) SM = w := ⟨_, rfl⟩
    have mB : Blk wB M 86 (mtC T win (upC c 7)) := by rw [← hwB]; exact blk_setRow_ne mA (by omega)
    have rB : Blk wB (W.heap.size + 1) 45 SM := by rw [← hwB]; exact blk_setRow brA
    have KB : KpS (fun i => P i ∨ i = M) W wB := by rw [← hwB]; exact kp_row KA (by omega) _
    have TB : TabE wB T B room (entM room E d) (fun i => P i ∨ W.heap.size ≤ i) := by
      rw [← hwB]
      exact (TA.keep fun i hi hp => setRow_get_ne _ _ _ _ (by
        rcases hp with hp | hp
        · have := hp.2; omega
        · omega)).weak fun i _ q => q.imp (fun q => q.1) fun q => Nat.le_trans lW q
    first | rw [hwB] | skip
    clear mA brA bsA KA TA
    go_wp2_with fail
    refine ret_tc rfl (W.heap.size + 1) SM rfl rfl (z := inferInstance) inferInstance ?_
    exact FIN _ 7 rfl inferInstance (TB.mo Mor.out) (KB.trans (KpS.of_mo Mor.out) fun _ _ q => q)
  · have cw : IntKind.i64.wrap (c 8 + 1) = c 8 + 1 := by have := hc 8; rw [IntKind.wrap_i64]; omega
    go_upto_region 18 with (fail)
    go_region
    obtain ⟨wA, hwA⟩ : ∃ w, w7.setCell ⟨M, 10, none⟩ (.int .i64 (c 8 + 1)) = w := ⟨_, rfl⟩
    have mA : Blk wA M 86 (mtC T win (upC c 8)) := by rw [← hwA, ← mt_set T win c 8 (by decide) (by decide)]; exact blk_setCell jm 10 _
    have brA : Blk wA (W.heap.size + 1) 45 sm0 := by rw [← hwA]; exact blk_setCell_ne jr (by omega) _ _
    have bsA : Blk wA (w5.heap.size + 1) 45 SM := by rw [← hwA]; exact blk_setCell_ne js (by omega) _ _
    have KA : KpS (fun i => P i ∨ i = M) W wA := by rw [← hwA]; exact (KX.mono fun i _ q => .inl q.1).cell (.inr rfl) _ _
    have TA : TabE wA T B room (entM room E d) (fun i => (P i ∧ i < W.heap.size) ∨ w6.heap.size ≤ i) := by
      rw [← hwA]
      exact TX.keep fun i hi hp => heap_setCell_other _ _ _ _ (fun e => by
        subst e
        rcases hp with hp | hp
        · exact HM.out.np hp.1
        · omega)
    rw [hwA]
    clear hwA jm jr js TX KX
    go_upto_region 19 with (fail)
    go_region
    obtain ⟨wB, hwB⟩ : ∃ w, wA.setRow (W.heap.size + 1) SM = w := ⟨_, rfl⟩
    have mB : Blk wB M 86 (mtC T win (upC c 8)) := by rw [← hwB]; exact blk_setRow_ne mA (by omega)
    have rB : Blk wB (W.heap.size + 1) 45 SM := by rw [← hwB]; exact blk_setRow brA
    have KB : KpS (fun i => P i ∨ i = M) W wB := by rw [← hwB]; exact kp_row KA (by omega) _
    have TB : TabE wB T B room (entM room E d) (fun i => P i ∨ W.heap.size ≤ i) := by
      rw [← hwB]
      exact (TA.keep fun i hi hp => setRow_get_ne _ _ _ _ (by
        rcases hp with hp | hp
        · have := hp.2; omega
        · omega)).weak fun i _ q => q.imp (fun q => q.1) fun q => Nat.le_trans lW q
    first | rw [hwB] | skip
    clear mA brA bsA KA TA
    go_wp2_with fail
    refine ret_tc rfl (W.heap.size + 1) SM rfl rfl (z := inferInstance) inferInstance ?_
    exact FIN _ 8 rfl inferInstance (TB.mo Mor.out) (KB.trans (KpS.of_mo Mor.out) fun _ _ q => q)
end Go.Proofs.Ytcflebggepmmcaa
