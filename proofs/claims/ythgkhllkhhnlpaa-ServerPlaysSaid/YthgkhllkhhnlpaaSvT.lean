/- server: Live. -/
import Derived.Test.YthgkhllkhhnlpaaSvS
namespace Go.Proofs.Ythgkhllkhhnlpaa
open Go.RowKit Go.Maps

/-- how much is kept of a server -/
def liveE (o : Nat) (E : Ent) : Nat := liveM E.M o + E.D.l.length + E.st.length
def liveSum (o : Nat) (es : List Ent) : Nat := (es.map (liveE o)).sum
set_option maxRecDepth 20000 in
theorem liveSum_take (o : Nat) (es : List Ent) (j : Nat) (h : j < es.length) : liveSum o (es.take (j + 1)) = liveSum o (es.take j) + liveE o es[j] := by
  unfold liveSum
  rw [List.take_add_one, List.getElem?_eq_getElem h, List.map_append, List.sum_append]
  simp
set_option maxRecDepth 20000 in
theorem liveE_le {n o : Nat} {E : Ent} (h : EntOk n E) (hd : SdOk E.D) : liveE o E ≤ n + 128 + 16 := by
  unfold liveE
  have h1 : liveM E.M o ≤ E.M.length := List.countP_le_length
  have h2 := h.m.len
  have h3 := hd.l
  have h4 := hd.w1
  have h5 := h.st
  omega
set_option maxRecDepth 20000 in
theorem liveSum_le {o m : Nat} (es : List Ent) (h : ∀ E ∈ es, liveE o E ≤ m) : liveSum o es ≤ es.length * m := by
  unfold liveSum
  induction es with
  | nil => simp
  | cons E es ih =>
    rw [List.map_cons, List.sum_cons, List.length_cons]
    have h1 := h E List.mem_cons_self
    have h2 := ih fun E' q => h E' (List.mem_cons_of_mem _ q)
    rw [Nat.add_mul]
    omega
attribute [local go_sem] blk_cell' blk_frozen'
set_option maxRecDepth 20000 in
set_option maxHeartbeats 8000000 in
theorem tlive_any {W : World} {T b : Nat} {S : Nat → Prop} {C : CfgS} {o wd : Nat} {es : List Ent} {ot : Ent} {n : Nat} (h : TabW W T b S C o wd es ot n) (hn : n ≤ 1000) :
    Calls Try.prog 19 #[ptrS T] W fun e w' => e = .returned (.int .i64 ((es.length + liveSum o es : Nat) : Int)) ∧ Mo W w' := by
  obtain ⟨B, lv, gs, Fs, go, Fo, t, ft⟩ := h.at_.ex
  obtain ⟨A, c, rfl⟩ := own_slS t.row
  have HT := Lib.hid t
  have LN := Lib.hid (fun w (m : Mo W w) => tlen_any (t.mo m))
  have bT := t.t
  have lg := t.lg
  have l256 : es.length ≤ 256 := by have h1 := t.le; have h2 := t.ok.s2; omega
  obtain ⟨K, hK⟩ : ∃ K, es.length = K := ⟨_, rfl⟩
  have HK := Lib.hid hK
  have HLE : Hid (∀ E ∈ es, liveE o E ≤ 1144) := Lib.hid (fun E hE => by
    obtain ⟨i, hi⟩ := List.getElem?_of_mem hE
    have l := (List.getElem?_eq_some_iff.1 hi).1
    obtain ⟨p1, p2, p3, gv, sv, stv, he⟩ := t.ent i _ _ E (List.getElem?_eq_getElem (by rw [t.lg]; exact l)) (List.getElem?_eq_getElem (by rw [t.lF]; exact l)) hi
    obtain ⟨pg, rg, Cg, pd, vs, e1, e2, h1, h2, f1, f2, f3, f4⟩ := (he.limb rfl).ex
    have := liveE_le (o := o) he.ok h2.ok
    omega)
  rw [hK] at LN l256 lg
  rw [lg] at bT
  clear h t ft hK lg
  go_enter Try.func19, Try.ntmps19
  --@@ len
  go_wp2_with fail
  refine (LN.out _ Mor.out).mono ?_
  rintro e w1 ⟨rfl, M1⟩
  have N1 : Mo W w1 := (Mor.out : Mo W _).trans M1
  clear M1 LN
  --@@ loop
  go_wp2_with fail
  go_loopw [3, 9] (fun s i wr => ∃ j : Nat, j ≤ K ∧ i = .int .i64 j ∧ s = .int .i64 ((K + liveSum o (es.take j) : Nat) : Int) ∧ Mo W wr) (fun _ i _ => K - (intOf i).toNat)
  case atStart => exact ⟨0, by omega, rfl, by simp [liveSum], N1.trans Mor.out⟩
  case round =>
    obtain ⟨j, hj, rfl, rfl, hM⟩ := hrel
    have bT2 := hM.blk bT
    by_cases cj : j < K
    · have hjl : j < es.length := by rw [HK.out]; exact cj
      have gj : j < gs.length := by rw [HT.out.lg]; exact hjl
      have hE : es[j]? = some es[j] := List.getElem?_eq_getElem hjl
      have hg : gs[j]? = some gs[j] := List.getElem?_eq_getElem gj
      obtain ⟨p1, p2, p3, gv, sv, stv, he⟩ := HT.out.ent j _ _ _ hg (List.getElem?_eq_getElem (by rw [HT.out.lF]; exact hjl)) hE
      have rw' := HT.out.row
      rw [HT.out.lg, HK.out] at rw'
      obtain ⟨gL, eA⟩ := own_adrE rw' (by omega)
      subst eA
      have y := (own_cellE rw' (show (gs.map ptrS)[j]? = some (ptrS gs[j]) by rw [List.getElem?_map, hg]; rfl)).1
      have z : LtW gL W := LtW.of_cell y
      have y1 : wr.cell? ⟨gL, j, none⟩ = some (ptrS gs[j]) := by rw [hM.cell]; exact y
      have z1 : LtW gL wr := LtW.of_cell y1
      obtain ⟨pg, rg, Cg, pd, vs, rfl, rfl, hG, hS, f1, f2, f3, f4⟩ := (he.limb rfl).ex
      obtain ⟨A3, c3, rfl⟩ := own_slS he.row
      have bE := hM.blk he.e
      have yy := entC_hi (p1 := ptrS p1) (p2 := ptrS p2) (p3 := ptrS p3) (gv := ptrS pg) (sv := ptrS pd) (stv := .slice A3 es[j].st.length c3) (more := es[j].more) (c := es[j].c) he.ok.sz
      have q3 := yy 3
      have q4 := yy 4
      have q5 := yy 5
      simp only [List.getElem?_cons_zero, List.getElem?_cons_succ] at q3 q4 q5
      have LG := Lib.hid (fun w (m : Mo W w) => live_M pg rg Cg o C.sl es[j].M w (hG.mo m) (mok_mono he.ok.m hn))
      have LS := Lib.hid (fun w (m : Mo W w) => slive_any pd b vs es[j].D w (hS.kpS (KpS.of_mo (S := fun _ => False) m) (fun e => e) (fun _ _ e => e)))
      have SS := Lib.hid (liveSum_take o es j hjl)
      have B1 := liveSum_le (o := o) (m := 1144) (es.take j) (fun E q => HLE.out E (List.mem_of_mem_take q))
      have B2 : liveE o es[j] ≤ 1144 := HLE.out _ (List.getElem_mem hjl)
      have lt : (es.take j).length ≤ j := by rw [List.length_take]; omega
      have B3 : liveSum o (es.take j) ≤ 256 * 1144 := Nat.le_trans B1 (Nat.mul_le_mul_right 1144 (by omega))
      have LE := Lib.hid (show liveE o es[j] = liveM es[j].M o + es[j].D.l.length + es[j].st.length from rfl)
      have B4 : liveM es[j].M o + es[j].D.l.length + es[j].st.length ≤ 1144 := by rw [← LE.out]; exact B2
      generalize liveSum o (es.take j) = s0 at *
      generalize gs[j] = g at *
      generalize es[j].M = M at *
      generalize es[j].D = D at *
      generalize es[j].c = cc at *
      generalize es[j].a = aa at *
      generalize es[j].more = mm at *
      generalize es[j].st.length = sl at *
      generalize liveM M o = lm at *
      generalize D.l.length = dl at *
      have hw : IntKind.i64.wrap ((j : Int) + 1) = j + 1 := by rw [IntKind.wrap_i64]; omega
      have w1' : IntKind.i64.wrap ((lm : Int) + dl) = ((lm + dl : Nat) : Int) := by rw [IntKind.wrap_i64]; omega
      have w2' : IntKind.i64.wrap (((lm + dl : Nat) : Int) + sl) = ((lm + dl + sl : Nat) : Int) := by rw [IntKind.wrap_i64]; omega
      have w3' : IntKind.i64.wrap (((K + s0 : Nat) : Int) + ((lm + dl + sl : Nat) : Int)) = ((K + (s0 + (lm + dl + sl)) : Nat) : Int) := by rw [IntKind.wrap_i64]; omega
      have e0 : (0 : Int) ≤ j := by omega
      have e1 : (j : Int) < K := by omega
      clear he hG hS yy B1 B2 lt f1 f2 f3 f4 hE hg rw' y z cj
      --@@ r6
      go_upto_region 6 with (fail)
      have l1 : (Int.ofNat lm) = (lm : Int) := rfl
      first | (refine wp_region_mo (by kernel_rfl) (by kernel_rfl) ?_) | (refine wp_region_mo' (by kernel_rfl) (by kernel_rfl) ?_)
      repeat (go_big_quiet_step (first | (with_reducible exact quiet_mo (LG.out _ (hM.trans Mor.out))) | (with_reducible exact quiet_mo (LS.out _ (hM.trans Mor.out)))))
      refine wpQuiet_nil ?_
      intro _ hw'
      obtain ⟨⟨J9, d9⟩, hw''⟩ := hw'
      subst hw''
      go_wp2_with fail
      go_roundw
      case rel => exact ⟨j + 1, by omega, by go_num, by rw [SS.out, LE.out]; congr 1; omega, hM.trans Mor.out⟩
      case measure => simp [intOf]; omega
    · obtain rfl : j = K := by omega
      have et : es.take j = es := List.take_of_length_le (by rw [HK.out]; exact Nat.le_refl _)
      rw [et]
      go_wp2_with fail
      go_ret
      exact ⟨by rw [HK.out]; rfl, hM.trans Mor.out⟩
end Go.Proofs.Ythgkhllkhhnlpaa
