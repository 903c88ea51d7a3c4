/- server: of, a new server. -/
import Derived.Test.YthgkhllkhhnlpaaSvE
namespace Go.Proofs.Ythgkhllkhhnlpaa
open Go.RowKit Go.Maps

set_option maxRecDepth 20000 in
theorem gnew_S (x : Int) (o : Nat) (W : World) (x1 : 1 ≤ x) (x2 : x ≤ 1152921504606846976) (o1 : 1 ≤ o) (o2 : o ≤ 10) :
    Calls Try.prog 27 #[.int .i64 x, .int .i64 o] W fun e w' => ∃ p r, e = .returned (.tuple #[ptrS p, .int .i64 0]) ∧ GAt w' p r (2 ^ o + 1) o x [] ∧ W.heap.size ≤ p ∧ W.heap.size ≤ r ∧ Mo W w' := by
  refine (new_any x o W x1 x2 o1 o2).mono ?_
  rintro e w' ⟨r, p, h1, h2, h3, h4, h5, h6, h7⟩
  exact ⟨p, r, h1, ⟨⟨h2, ringAt_blk h3⟩, Ne.symm h6, o1, o2, x1, by omega⟩, h4, h5, h7⟩
set_option maxRecDepth 20000 in
theorem kpS_turn {w w' : World} {B : Nat} (h : w.mapTurned w' B) : KpS (fun i => i = B) w w' := by
  obtain ⟨es, clock, es', clock', hb, rfl⟩ := h
  refine ⟨rfl, rfl, rfl, Nat.le_of_eq (by simp [Go.ChangeMaps.setBlock]), fun k hk nk => ?_⟩
  show (w.heap.setIfInBounds B _)[k]? = _
  rw [Array.getElem?_setIfInBounds, if_neg (Ne.symm nk)]
set_option maxRecDepth 20000 in
theorem blk_neT {w : World} {g g' : Nat} {t t' : TypeId} {cs cs' : Array Value} (h : Blk w g t cs) (k : Blk w g' t' cs') (ne : t ≠ t') : g ≠ g' := fun e => by
  subst e
  have := h.out.symm.trans k.out
  simp at this
  exact ne this.2
set_option maxRecDepth 20000 in
theorem ring_tyS {W : World} {r R : Nat} {f : Nat → Slot} (h : RingAt W r R f) : ∃ cs, Blk W r 123 cs := by
  obtain ⟨cur, h1, _⟩ := h.out
  exact ⟨cur, ⟨h1⟩⟩
set_option maxRecDepth 20000 in
theorem TyIn.not_row {W : World} {F : List Nat} (h : TyIn W F) {b T s n : Nat} {v : Value} {xs : List Value} (r : W.ownsRow b T s v n xs) (ne : T ∉ entTys) : ∀ k ∈ F, v.ownBlock ≠ some k := fun k hk e => by
  rcases r.2 with ⟨rfl, _⟩ | ⟨g', cap, cur, rfl, hb, hB, _⟩
  · simp [Value.ownBlock] at e
  · have e' : g' = k := by simpa [Value.ownBlock] using e
    subst e'
    exact h.not_ty ⟨hB⟩ ne hk
set_option maxRecDepth 20000 in
theorem snocG {α : Type} {L : List α} {x y : α} {i : Nat} (h : (L ++ [x])[i]? = some y) : (L[i]? = some y ∧ i < L.length) ∨ (i = L.length ∧ y = x) := by
  by_cases c : i < L.length
  · rw [List.getElem?_append_left c] at h
    exact .inl ⟨h, c⟩
  · have hi := (List.getElem?_eq_some_iff.1 h).1
    rw [List.length_append, List.length_singleton] at hi
    obtain rfl : i = L.length := by omega
    rw [List.getElem?_append_right (Nat.le_refl _), Nat.sub_self] at h
    have e : x = y := by simpa using h
    exact .inr ⟨rfl, e.symm⟩
set_option maxRecDepth 20000 in
theorem infoPE : (Try.prog.info? 81).map (fun i => (i.zero, i.size, i.bytes)) = some (some (.pointer none), 1, 8) := by kernel_rfl
attribute [local go_sem] blk_cell' blk_frozen'
attribute [local go_sem ↓] loadF_addr storeF_addr appS_fold
attribute [local go_sem] run_loadF0 run_storeF0
set_option maxRecDepth 20000 in
set_option maxHeartbeats 8000000 in
/-- a new one -/
theorem tof_new {W : World} {T B b : Nat} {C : CfgS} {o w : Nat} {lv : Value} {gs : List Nat} {Fs : List (List Nat)} {go : Nat} {Fo : List Nat} {es : List Ent} {ot : Ent} {n : Nat} (h : TabIs W T B b C o w lv gs Fs go Fo es ot n) (a : Array Value) (ha : AdrP a) (hz : a.size = 17) (hn : a ∉ es.map (·.a)) (ok : ∀ q ∈ es.map (·.a), AdrP q) (hf : (es.length : Int) < C.sv) (hb : b ≤ W.heap.size) :
    Calls Try.prog 30 #[ptrS T, .agg a] W fun e w' => ∃ g F lv', e = .returned (.tuple #[.int .i64 (es.length : Nat), ptrS g]) ∧ TabIs w' T B b C o w lv' (gs ++ [g]) (Fs ++ [F]) go Fo (es ++ [ent0 a (sd0 w C.st)]) ot n ∧ KpS (fun i => i = T ∨ i = B ∨ lv.ownBlock = some i) W w' ∧ (∀ k ∈ F, W.heap.size ≤ k) ∧ (lv'.ownBlock = lv.ownBlock ∨ ∃ k, lv'.ownBlock = some k ∧ W.heap.size ≤ k) := by
  have HH := Lib.hid h
  have cok := h.ok
  have bT := h.t
  have iz : SzA a 17 := ⟨hz⟩
  have HN := Lib.hid h.num
  obtain ⟨A, c, elv⟩ := own_slS h.row
  subst elv
  have lk := fun w (m : Mo W w) => (HN.out.mo m).no ha ok hn
  have lg := h.lg
  have d1 : decide (C.sv ≤ (gs.length : Nat)) = false := decide_eq_false (by omega)
  obtain ⟨cw, ck, csv, csl, coc, cep, csh, cst, cln, cbl, cfr, cfb⟩ := C
  obtain ⟨s1, s2, x1, x2, eo, o1, o2, ew, w1, w2, t1, t2⟩ := cok
  simp only at *
  subst eo ew
  have n256 : gs.length ≤ 256 := by omega
  have HF := Lib.hid hf
  have MD := Lib.hid (fun W => made_any a W hz)
  have GN := Lib.hid (fun W => gnew_S csl o W x1 x2 o1 o2)
  have SN := Lib.hid (fun W => snew_in w cst W w1 w2 t1 t2 b)
  obtain ⟨nl, hnl⟩ : ∃ n, gs.length = n := ⟨_, rfl⟩
  have HNL := Lib.hid hnl
  have hel : es.length = nl := by omega
  have HEL := Lib.hid hel
  rw [hnl] at bT d1 n256
  have HA := Lib.hid ha
  have HNI := Lib.hid hn
  have HOKA := Lib.hid ok
  have HZ := Lib.hid hz
  have HB := Lib.hid hb
  clear h hn ok hz ha hf lg s1 s2 x1 x2 o1 o2 w1 w2 t1 t2 hel hb
  go_enter Try.func30, Try.ntmps30
  --@@ r1
  go_upto_region 1 with (fail)
  refine wp_name ?_
  intro wa hwa
  have b3 : Blk wa W.heap.size 35 a := by rw [hwa]; infer_instance
  have M1 : Mo W wa := by rw [hwa]; exact Mor.out
  have bT1 := M1.blk bT
  have lks := fun J d => lk (more wa J d) (M1.trans Mor.out)
  generalize hg3 : W.heap.size = g3 at *
  clear hwa bT
  first | (refine wp_region_mo (by kernel_rfl) (by kernel_rfl) ?_) | (refine wp_region_mo' (by kernel_rfl) (by kernel_rfl) ?_)
  repeat (go_big_quiet_step (fail))
  refine wpQuiet_nil ?_
  intro _ hw'
  obtain ⟨⟨J9, d9⟩, hw''⟩ := hw'
  subst hw''
  --@@ r4
  go_upto_region 4 with (fail)
  first | (refine wp_region_mo (by kernel_rfl) (by kernel_rfl) ?_) | (refine wp_region_mo' (by kernel_rfl) (by kernel_rfl) ?_)
  repeat (go_big_quiet_step (fail))
  refine wpQuiet_nil ?_
  intro _ hw'
  obtain ⟨⟨J8, d8⟩, hw''⟩ := hw'
  subst hw''
  --@@ made
  go_wp2_with fail
  refine (MD.out _).mono ?_
  rintro e wb ⟨gE, q1, q2, q3, rfl, B0, B1, B2, B3, n12, n13, n23, l0, l1, l2, l3, Mb⟩
  have Mab : Mo wa wb := (Mor.out : Mo wa _).trans Mb
  have NB := M1.trans Mab
  have bT2 := Mab.blk bT1
  have b32 := Mab.blk b3
  have l0' : wa.heap.size ≤ gE := Nat.le_trans (Mo.size (Mor.out : Mo wa _)) l0
  have l1' : wa.heap.size ≤ q1 := Nat.le_trans (Mo.size (Mor.out : Mo wa _)) l1
  have l2' : wa.heap.size ≤ q2 := Nat.le_trans (Mo.size (Mor.out : Mo wa _)) l2
  have l3' : wa.heap.size ≤ q3 := Nat.le_trans (Mo.size (Mor.out : Mo wa _)) l3
  have tT : T < wa.heap.size := bT1.lt
  have t3 : g3 < wa.heap.size := b3.lt
  clear Mb l0 l1 l2 l3 lks lk bT1 b3 MD
  have HOLD : ∀ w', Blk w' T 83 (tabC ⟨cw, ck, csv, csl, o, cep, w, cst, cln, cbl, cfr, cfb⟩ (.slice A nl c) B go) → w'.cell? ⟨T, 3, none⟩ = some (.int .i64 csl) ∧ w'.cell? ⟨T, 4, none⟩ = some (.int .i64 o) ∧ w'.cell? ⟨T, 6, none⟩ = some (.int .i64 w) ∧ w'.cell? ⟨T, 7, none⟩ = some (.int .i64 cst) := fun w' k => ⟨by rw [blk_cell k]; rfl, by rw [blk_cell k]; rfl, by rw [blk_cell k]; rfl, by rw [blk_cell k]; rfl⟩
  have nTE : gE ≠ T := by omega
  --@@ r7
  go_upto_region 7 with (fail)
  go_cut [59] (fun _ wx => ∃ p r, GAt wx p r (2 ^ o + 1) o csl [] ∧ wb.heap.size ≤ p ∧ wb.heap.size ≤ r ∧ Blk wx gE 99 (entC a (fun _ => 0) (ptrS q1) (ptrS q2) (ptrS q3) (ptrS p) nilS (.slice none 0 0) 0) ∧ KpS (fun i => i = gE) wb wx)
  case first =>
    go_region_held3 (fun w' => w'.cell? ⟨T, 3, none⟩ = some (.int .i64 csl) ∧ w'.cell? ⟨T, 4, none⟩ = some (.int .i64 o) ∧ w'.cell? ⟨T, 6, none⟩ = some (.int .i64 w) ∧ w'.cell? ⟨T, 7, none⟩ = some (.int .i64 cst)) (first | exact HOLD _ inferInstance | exact HOLD _ (blk_setCell_ne bTz nTE 29 _))
      (first
        | ((with_reducible refine (GN.out _).mono ?_)
           rintro e wz ⟨p, r, rfl, GG, lp, lr, Mz⟩
           have Mz0 : Mo wb wz := (Mor.out : Mo wb _).trans Mz
           have bTz := Mz0.blk bT2
           have bEz := Mz0.blk B0
           have lp' : wb.heap.size ≤ p := Nat.le_trans (Mo.size Mor.out) lp
           have lr' : wb.heap.size ≤ r := Nat.le_trans (Mo.size Mor.out) lr
           have yE : wz.cell? ⟨gE, 29, none⟩ = some nilS := by rw [blk_cell bEz]; exact entC_hi HZ.out 3
           have fE : wz.frozen? ⟨gE, 29, none⟩ = false := blk_frozen bEz 29))
    all_goals (
      go_wp2_with fail
      go_meet
      refine ⟨p, r, GG.kpS (S := fun i => i = gE) (kpS_setCell wz gE 29 _ rfl) (by have := bEz.lt; have := B0.lt; omega) (by have := B0.lt; omega), lp', lr', ?_, (KpS.of_mo Mz0).trans (kpS_setCell (S := fun i => i = gE) wz gE 29 _ rfl) fun _ _ q => q⟩
      rw [← entC_grid HZ.out]
      exact blk_setCell bEz 29 (ptrS p))
  obtain ⟨pg, rg, GG, lpg, lrg, bE, KE⟩ := hcut
  rename World => wc
  have bT3 := KE.blk bT2 (Ne.symm nTE)
  have sbc : wb.heap.size ≤ wc.heap.size := KE.size
  have neg : gE < wb.heap.size := B0.lt
  have HGG := Lib.hid GG
  have bE0 := bE
  --@@ r8
  go_upto_region 8 with (fail)
  go_cut [76] (fun _ wx => ∃ pd, ShIs wx pd b (.slice none 0 0) (sd0 w cst) ∧ wc.heap.size ≤ pd ∧ Blk wx gE 99 (entC a (fun _ => 0) (ptrS q1) (ptrS q2) (ptrS q3) (ptrS pg) (ptrS pd) (.slice none 0 0) 0) ∧ KpS (fun i => i = gE) wc wx)
  case first =>
    go_region_held3 (fun w' => w'.cell? ⟨T, 3, none⟩ = some (.int .i64 csl) ∧ w'.cell? ⟨T, 4, none⟩ = some (.int .i64 o) ∧ w'.cell? ⟨T, 6, none⟩ = some (.int .i64 w) ∧ w'.cell? ⟨T, 7, none⟩ = some (.int .i64 cst)) (first | exact HOLD _ inferInstance | exact HOLD _ (blk_setCell_ne bTz nTE 30 _))
      (first
        | ((with_reducible refine (SN.out _).mono ?_)
           rintro e wz ⟨p, rfl, lp, SH, Mz⟩
           have Mz0 : Mo wc wz := (Mor.out : Mo wc _).trans Mz
           have bTz := Mz0.blk bT3
           have bEz := Mz0.blk bE
           have lp' : wc.heap.size ≤ p := Nat.le_trans (Mo.size (Mor.out : Mo wc _)) lp
           have yE : wz.cell? ⟨gE, 30, none⟩ = some nilS := by rw [blk_cell bEz]; exact entC_hi HZ.out 4
           have fE : wz.frozen? ⟨gE, 30, none⟩ = false := blk_frozen bEz 30))
    all_goals (
      go_wp2_with fail
      go_meet
      refine ⟨p, SH.kpS (S := fun i => i = gE) (kpS_setCell wz gE 30 _ rfl) (by omega) (fun k hk => by simp [Value.ownBlock] at hk), lp', ?_, (KpS.of_mo Mz0).trans (kpS_setCell (S := fun i => i = gE) wz gE 30 _ rfl) fun _ _ q => q⟩
      rw [← entC_shift HZ.out]
      exact blk_setCell bEz 30 (ptrS p))
  obtain ⟨pd, SH, lpd, bE4, KE4⟩ := hcut
  rename World => wd
  have bT4 := KE4.blk bT3 (Ne.symm nTE)
  have GG4 := HGG.out.kpS KE4 (by omega) (by omega)
  have KE0 := KE.trans KE4 fun _ _ q => q
  have C1 := KE0.blk B1 (blk_neT B1 B0 (by decide))
  have C2 := KE0.blk B2 (blk_neT B2 B0 (by decide))
  have C3 := KE0.blk B3 (blk_neT B3 B0 (by decide))
  have sgE : gE < wd.heap.size := bE4.lt
  have b34 := KE0.blk b32 (by omega)
  have KW4 : KpS (fun _ => False) W wd := ⟨KE0.os.trans NB.below.os, KE0.tape.trans NB.below.tape, KE0.output.trans NB.below.output, Nat.le_trans NB.size KE0.size, fun k hk _ => (KE0.block k (Nat.lt_of_lt_of_le hk NB.size) (by have := NB.size; omega)).trans (NB.below.block k hk)⟩
  have nB : B < g3 := by rw [← hg3]; exact HN.out.lt
  have num4 : NumIs wd B (es.map (·.a)) := HN.out.keep (KW4.block B (by rw [hg3]; exact nB) (fun e => e))
  have numd : NumIs wd.drew B (es.map (·.a)) := num4.keep rfl
  obtain ⟨w5, hrun, num5, tur⟩ := numd.put (by rw [List.length_map, HEL.out]; unfold maxLen; omega) HOKA.out HA.out HNI.out
  rw [List.length_map, HEL.out] at hrun
  have K5 : KpS (fun i => i = B) wd w5 := (KpS.of_mo (Mor.out : Mo wd wd.drew)).trans (kpS_turn tur) fun _ _ q => q
  have nBT : B ≠ T := fun e => by
    obtain ⟨es', ck', hm⟩ := num4.isMap
    have := bT4.out
    rw [← e, hm] at this
    cases this
  have nBE : B ≠ gE := by omega
  have SB : ∀ {g : Nat} {t : TypeId} {cs : Array Value}, Blk wd g t cs → g ≠ B := fun k e => by
    obtain ⟨es', ck', hm⟩ := num4.isMap
    have := k.out
    rw [e, hm] at this
    cases this
  have bT5 := K5.blk bT4 (SB bT4)
  have E5 := K5.blk bE4 (SB bE4)
  have D1 := K5.blk C1 (SB C1)
  have D2 := K5.blk C2 (SB C2)
  have D3 := K5.blk C3 (SB C3)
  obtain ⟨rcs, rB⟩ := ring_tyS GG4.at_.r
  have GG5 := GG4.kpS K5 (SB GG4.at_.g) (SB rB)
  have SH5 := SH.kpS K5 (SB SH.m) (fun k hk => by simp [Value.ownBlock] at hk)
  have R0 : wd.ownsRow b 81 1 (.slice A nl c) nl (gs.map ptrS) := by
    have := own_kpS HH.out.row KW4 (fun _ _ e => e)
    rwa [HNL.out] at this
  have R5 := own_kpS R0 K5 (fun g hg e => by
    rcases R0.2 with ⟨e', _⟩ | ⟨g', _, _, e', _, hB', _⟩
    · rw [e'] at hg; simp [Value.ownBlock] at hg
    · rw [e'] at hg
      have e2 : g' = g := by simpa [Value.ownBlock] using hg
      exact SB ⟨hB'⟩ (e2.trans e))
  --@@ r10
  go_upto_region 10 with (fail)
  go_region
  obtain ⟨i0, hi, hz0, hz1, hz2⟩ := info_parts infoPE
  have hT := (Mor.out : Mo w5 (w5.alloc (.cells #[ptrS gE] 81)))
  have sz5 : g3 ≤ w5.heap.size := by have h2 := KW4.size; have h3 := K5.size; omega
  have szb : b ≤ w5.heap.size := by have h1 := HB.out; have h2 := KW4.size; have h3 := K5.size; omega
  obtain ⟨v6, w6, hrun6, hown6, hgrow6, -, hob6⟩ := run_append_own_at (P := Try.prog) (w5.alloc (.cells #[ptrS gE] 81)) b 79 79 81 i0 (.pointer none) 1 8 Try.underlying79 hi hz0 hz1 hz2 rfl (by decide) _ _ _ (owns_mo R5 hT) ⟨w5.heap.size, 0, none⟩ 1 1 [ptrS gE] rfl (news_of_blkS (t := 81) (cs := #[ptrS gE]) inferInstance _ rfl) (by intro u hu; simp at hu; subst hu; rfl) (by unfold maxLen; omega) (by omega) (by simp; omega)
  replace hrun6 : (appS #[79, 79] 79 #[.slice A nl c, .slice (some ⟨w5.heap.size, 0, none⟩) 1 1]).run Try.prog _ = .ok v6 w6 := hrun6
  obtain ⟨g6, c6, ev6⟩ := own_succS hown6
  subst ev6
  have K6 : KpS (fun i => (Value.slice A nl c).ownBlock = some i) w5 w6 := (KpS.of_mo hT).trans (kpS_grownS hgrow6) fun _ _ q => q
  have SR : ∀ {g : Nat} {t : TypeId} {cs : Array Value}, Blk w5 g t cs → 81 ≠ t → ¬ (Value.slice A nl c).ownBlock = some g := fun k ne => own_noTS R5 k ne
  have bT6 := K6.blk bT5 (SR bT5 (by decide))
  have E6 := K6.blk E5 (SR E5 (by decide))
  have F1 := K6.blk D1 (SR D1 (by decide))
  have F2 := K6.blk D2 (SR D2 (by decide))
  have F3 := K6.blk D3 (SR D3 (by decide))
  obtain ⟨rcs', rB'⟩ := ring_tyS GG5.at_.r
  have GG6 := GG5.kpS K6 (SR GG5.at_.g (by decide)) (SR rB' (by decide))
  have SH6 := SH5.kpS K6 (SR SH5.m (by decide)) (fun k hk => by simp [Value.ownBlock] at hk)
  have num6 : NumIs w6 B (es.map (·.a) ++ [a]) := num5.keep (K6.block B num5.lt fun e => by
    obtain ⟨es', ck', hm⟩ := num5.isMap
    rcases R5.2 with ⟨e', _⟩ | ⟨g', _, _, e', _, hB', _⟩
    · rw [e'] at e; simp [Value.ownBlock] at e
    · rw [e'] at e
      have e2 : g' = B := by simpa [Value.ownBlock] using e
      rw [e2, hm] at hB'
      cases hB')
  have KW6 : KpS (fun i => i = T ∨ i = B ∨ (Value.slice A nl c).ownBlock = some i) W w6 := (((KW4.mono (fun _ _ e => e.elim) : KpS (fun i => i = T ∨ i = B ∨ (Value.slice A nl c).ownBlock = some i) W wd)).trans K5 fun _ _ e => .inr (.inl e)).trans K6 fun _ _ e => .inr (.inr e)
  have HK6 := Lib.hid KW6
  have HNUM6 := Lib.hid num6
  have HR6 := Lib.hid hown6
  have HOB6 := Lib.hid hob6
  have HSH6 := Lib.hid SH6
  have HGG6 := Lib.hid GG6
  clear hgrow6 K6 hob6 num5 num6 numd num4 tur K5 KW4 KE0 KE KE4 HN hrun R0 R5 E5 D1 D2 D3 GG5 SH5 bT4 bE4 C1 C2 C3 GG4 SH rB rB' GG HGG bT3 bE0 bE B0 B1 B2 B3 bT2 b32 b34 SB
  --@@ r11
  go_wp2_with fail
  go_ret2
  rw [hg3, HEL.out]
  have KF : KpS (fun i => i = T) w6 (w6.setCell ⟨T, 12, none⟩ (.slice (some ⟨g6, 0, none⟩) (nl + 1) c6)) := kpS_setCell w6 T 12 _ rfl
  have NT : ∀ {g : Nat} {t : TypeId} {cs : Array Value}, Blk w6 g t cs → t ≠ 83 → ¬ g = T := fun k ne => blk_neT k bT6 ne
  have K7 := (show KpS (fun i => i = T ∨ i = B ∨ (Value.slice A gs.length c).ownBlock = some i) W w6 from by rw [HNL.out]; exact HK6.out).trans KF fun _ _ e => .inl e
  have g6T : g6 ≠ T := fun e => own_noTS HR6.out bT6 (by decide) (by rw [e]; rfl)
  obtain ⟨rcs6, rB6⟩ := ring_tyS HGG6.out.at_.r
  have E7 := KF.blk E6 (NT E6 (by decide))
  have G1 := KF.blk F1 (NT F1 (by decide))
  have G2 := KF.blk F2 (NT F2 (by decide))
  have G3 := KF.blk F3 (NT F3 (by decide))
  have R7 := KF.blk rB6 (NT rB6 (by decide))
  have GG7 := HGG6.out.kpS KF (NT HGG6.out.at_.g (by decide)) (NT rB6 (by decide))
  have SH7 := HSH6.out.kpS KF (NT HSH6.out.m (by decide)) (fun k hk => by simp [Value.ownBlock] at hk)
  have ty7 : TyIn (w6.setCell ⟨T, 12, none⟩ (.slice (some ⟨g6, 0, none⟩) (nl + 1) c6)) [gE, q1, q2, q3, pg, rg, pd] := fun k hk => by
    simp only [List.mem_cons, List.not_mem_nil, or_false] at hk
    rcases hk with rfl | rfl | rfl | rfl | rfl | rfl | rfl
    · exact ⟨_, _, _, E7.out, by decide⟩
    · exact ⟨_, _, _, G1.out, by decide⟩
    · exact ⟨_, _, _, G2.out, by decide⟩
    · exact ⟨_, _, _, G3.out, by decide⟩
    · exact ⟨_, _, _, GG7.at_.g.out, by decide⟩
    · exact ⟨_, _, _, R7.out, by decide⟩
    · exact ⟨_, _, _, SH7.m.out, by decide⟩
  have fresh : ∀ k ∈ [gE, q1, q2, q3, pg, rg, pd], g3 ≤ k := fun k hk => by
    simp only [List.mem_cons, List.not_mem_nil, or_false] at hk
    rcases hk with rfl | rfl | rfl | rfl | rfl | rfl | rfl <;> omega
  have EN : EntIs (w6.setCell ⟨T, 12, none⟩ (.slice (some ⟨g6, 0, none⟩) (nl + 1) c6)) b gE [gE, q1, q2, q3, pg, rg, pd] o csl true n (ent0 a (sd0 w cst)) q1 q2 q3 (ptrS pg) (ptrS pd) (.slice none 0 0) :=
    ⟨E7, G1, G2, G3, n12, n13, n23, fun _ => ⟨⟨pg, rg, 2 ^ o + 1, pd, .slice none 0 0, rfl, rfl, GG7, SH7, by simp, by simp, by simp, fun k hk => by simp [Value.ownBlock] at hk⟩⟩, (fun e => by cases e), ⟨rfl, .inl ⟨rfl, rfl⟩⟩, by simp, by simp, by simp, by simp, (fun k hk => by simp [Value.ownBlock] at hk), ty7, ent0_ok HA.out HZ.out _ rfl n⟩
  have old : ∀ {F : List Nat}, TyIn W F → ∀ k ∈ F, ¬ (k = T ∨ k = B ∨ (Value.slice A gs.length c).ownBlock = some k) := fun {F} ht k hk e => by
    rcases e with rfl | rfl | e
    · exact ht.not_ty HH.out.t (by decide) hk
    · exact ht.not_map HH.out.num.isMap hk
    · exact ht.not_row HH.out.row (by decide) k hk e
  refine ⟨gE, [gE, q1, q2, q3, pg, rg, pd], _, rfl, ⟨⟨(blk_setCell bT6 12 (.slice (some ⟨g6, 0, none⟩) (nl + 1) c6)).out⟩, ?_, ?_, ?_, ?_, ?_, ?_, ?_, ?_, ?_, HH.out.ok, ?_⟩, K7, fresh, ?_⟩
  · rw [List.length_append, List.length_singleton, HNL.out, List.map_append]
    exact own_kpS HR6.out KF (fun g hg e => by
      have e2 : g6 = g := by simpa [Value.ownBlock] using hg
      exact g6T (e2.trans e))
  · rw [List.map_append]
    refine HNUM6.out.keep (KF.block B HNUM6.out.lt fun e => ?_)
    obtain ⟨es', ck', hm⟩ := HNUM6.out.isMap
    have := bT6.out
    rw [← e, hm] at this
    cases this
  · rw [List.map_append, List.nodup_append]
    refine ⟨HH.out.nd, by simp, fun x hx y hy e => ?_⟩
    have hy' : y = a := by simpa [ent0] using hy
    rw [hy'] at e
    exact HNI.out (e ▸ hx)
  · simp only [List.length_append, List.length_singleton, HH.out.lg]
  · simp only [List.length_append, List.length_singleton, HH.out.lF]
  · intro i g F E h1 h2 h3
    have l1 := HH.out.lg
    have l2 := HH.out.lF
    rcases snocG h1 with ⟨a1, a2⟩ | ⟨a1, rfl⟩ <;> rcases snocG h2 with ⟨c1, c2⟩ | ⟨c1, rfl⟩ <;> rcases snocG h3 with ⟨e1, e2⟩ | ⟨e1, rfl⟩
    all_goals first | omega | skip
    · obtain ⟨p1, p2, p3, gv, sv, stv, he⟩ := HH.out.ent i g F E a1 c1 e1
      exact ⟨p1, p2, p3, gv, sv, stv, he.kp K7 (old he.ty)⟩
    · exact ⟨q1, q2, q3, ptrS pg, ptrS pd, .slice none 0 0, EN⟩
  · obtain ⟨p1, p2, p3, gv, sv, stv, he⟩ := HH.out.oth
    exact ⟨p1, p2, p3, gv, sv, stv, he.kp K7 (old he.ty)⟩
  · intro i j F F' hij h1 h2 k k1 k2
    rcases snocG h1 with ⟨a1, a2⟩ | ⟨a1, rfl⟩ <;> rcases snocG h2 with ⟨c1, c2⟩ | ⟨c1, rfl⟩
    · exact HH.out.dis i j F F' hij a1 c1 k k1 k2
    · obtain ⟨_, _, _, _, _, _, he⟩ := HH.out.ent i _ F _ (List.getElem?_eq_getElem (by rw [HH.out.lg, ← HH.out.lF]; exact a2)) a1 (List.getElem?_eq_getElem (by rw [← HH.out.lF]; exact a2))
      have h3 := he.ty.lt k k1
      have h4 := fresh k k2
      omega
    · omega
    · omega
  · intro i F h1 k k1 k2
    rcases snocG h1 with ⟨a1, a2⟩ | ⟨a1, rfl⟩
    · exact HH.out.diso i F a1 k k1 k2
    · obtain ⟨_, _, _, _, _, _, he⟩ := HH.out.oth
      have h3 := he.ty.lt k k2
      have h4 := fresh k k1
      omega
  · have hF := HF.out
    have hL : (es ++ [ent0 a (sd0 w cst)]).length = es.length + 1 := by simp
    have hG : (((es ++ [ent0 a (sd0 w cst)]).length : Nat) : Int) ≤ csv := by rw [hL]; omega
    exact hG
  · rcases HOB6.out with e | e
    · exact .inl (by rw [e, HNL.out])
    · exact .inr ⟨_, e, by simp; omega⟩
end Go.Proofs.Ythgkhllkhhnlpaa
