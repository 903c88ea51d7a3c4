/- horologeref29: Answer. -/
import Derived.Test.YtlbkcjpnlnlmiaaPendS
namespace Go.Proofs.Ytlbkcjpnlnlmiaa
open Go.RowKit Go.Maps

set_option maxRecDepth 20000 in
theorem set_len (E : List En) (i : Nat) (e : En) : (E.set i e).length = E.length := List.length_set
set_option maxRecDepth 20000 in
theorem rowE_set {E : List En} (ok : ∀ e ∈ E, EnOk e) (i : Nat) (hi : i < E.length) : (rowE E).set (i * 40 + 39) (.bool true) = rowE (E.set i ⟨E[i].k, E[i].a, true⟩) := by
  have ok' : ∀ e ∈ E.set i ⟨E[i].k, E[i].a, true⟩, EnOk e := fun e he => by
    rcases List.mem_or_eq_of_mem_set he with h | rfl
    · exact ok e h
    · have := ok _ (List.getElem_mem hi)
      exact ⟨this.k, this.a⟩
  have l1 := rowE_len ok
  have l2 := rowE_len ok'
  rw [set_len] at l2
  refine List.ext_getElem? fun m => ?_
  rw [List.getElem?_set]
  by_cases hm : m < E.length * 40
  · have e1 := rowE_get ok (m / 40) (by omega) (m % 40) (by omega)
    have e2 := rowE_get ok' (m / 40) (by rw [set_len]; omega) (m % 40) (by omega)
    rw [show m / 40 * 40 + m % 40 = m by omega] at e1 e2
    rw [e1, e2]
    by_cases c : m / 40 = i
    · subst c
      rw [List.getElem_set_self]
      have z1 := key_sz (ok _ (List.getElem_mem hi)).k
      have z2 := at_sz (ok _ (List.getElem_mem hi)).a
      by_cases q : m / 40 * 40 + 39 = m
      · rw [if_pos q, if_pos (by omega)]
        rw [show m % 40 = 39 by omega, Array.getElem?_toList]
        exact (en_ans _ _ _).symm
      · rw [if_neg q, Array.getElem?_toList, Array.getElem?_toList]
        unfold enC
        rw [Array.getElem?_append, Array.getElem?_append (xs := E[m / 40].k ++ E[m / 40].a)]
        have hs : (E[m / 40].k ++ E[m / 40].a).size = 39 := by simp [z1.out, z2.out]
        rw [hs, if_pos (by omega), if_pos (by omega)]
    · rw [if_neg (by omega), List.getElem_set_ne (Ne.symm c)]
  · rw [if_neg (by omega), List.getElem?_eq_none (by omega), List.getElem?_eq_none (by omega)]
set_option maxRecDepth 20000 in
theorem ans_set {E : List En} (nd : (E.map (·.k)).Nodup) (i : Nat) (hi : i < E.length) : ansE E E[i].k = E.set i ⟨E[i].k, E[i].a, true⟩ := by
  unfold ansE
  refine List.ext_getElem (by simp) fun j h1 h2 => ?_
  rw [List.getElem_map, List.getElem_set]
  have hj : j < E.length := by simpa using h1
  by_cases c : i = j
  · subst c
    rw [if_pos rfl, if_pos (eqA_self _)]
  · rw [if_neg c, if_neg]
    intro q
    have e := eqA_iff.1 q
    have n1 := (List.getElem_inj (h₀ := by simpa using hj) (h₁ := by simpa using hi) nd).1 (by simpa using e)
    exact c n1.symm
set_option maxRecDepth 20000 in
/-- a store into one of an own row's cells -/
theorem owns_setAt {w : World} {b g : Nat} {t : TypeId} {N c : Nat} {xs : List Value} (h : w.ownsRow b t 40 (.slice (some ⟨g, 0, none⟩) N c) N xs) (i : Nat) (u : Value) : (w.setCell ⟨g, i, none⟩ u).ownsRow b t 40 (.slice (some ⟨g, 0, none⟩) N c) N (xs.set i u) := by
  refine ⟨by rw [List.length_set]; exact h.1, ?_⟩
  rcases h.2 with ⟨e, _⟩ | ⟨g', cap, cur, e, hb, hg, h3, h4, h5, h6⟩
  · cases e
  · injection e with e1 e2 e3
    injection e1 with e1
    injection e1 with e1
    subst e1 e3
    refine .inr ⟨g, c, cur.setIfInBounds i u, rfl, hb, heap_setCell_same w g i cur t u hg, h3, h4, by rw [Array.size_setIfInBounds]; exact h5, ?_⟩
    rw [Array.toList_setIfInBounds, List.take_set, h6]
set_option maxRecDepth 20000 in
theorem blk_ren0 {w : World} {g : Nat} (h : Blk w g 67 (key0 ++ wdz ++ #[.bool false])) : Blk w g 67 (enC key0 wdz false) := h
set_option maxRecDepth 20000 in
theorem loadF_rentry (v : Value) : Instr.loadAt 67 v = loadF 67 v := rfl
set_option maxRecDepth 20000 in
theorem storeF_rentry (v x : Value) : Instr.storeAt 67 v x = storeF 67 v x := rfl
set_option maxRecDepth 20000 in
theorem buildF_rentry (l : Array (Nat × Value)) : Instr.build 67 l = buildF 67 l := rfl
set_option maxRecDepth 20000 in
theorem run_build_rentryk (k : Array Value) [hk : SzA k 37] (w : World) : (buildF 67 #[(0, .agg k)]).run Try.prog w = .ok (.agg (enC k wdz false)) w := by
  obtain ⟨x0, x1, x2, x3, x4, x5, x6, x7, x8, x9, x10, x11, x12, x13, x14, x15, x16, x17, x18, x19, x20, x21, x22, x23, x24, x25, x26, x27, x28, x29, x30, x31, x32, x33, x34, x35, x36, rfl⟩ := arr37 hk.out
  exact run_build w _ _ _ (by kernel_rfl)
set_option maxRecDepth 20000 in
theorem RefAt.nR {W : World} {R b : Nat} {room : Int} {E : List En} {g N c : Nat} (h : RefAt W R b room E (.slice (some ⟨g, 0, none⟩) N c)) : R ≠ g := by
  intro e
  rcases h.row.2 with ⟨h1, _⟩ | ⟨g', cap, cur, h1, hb, hg, _⟩
  · cases h1
  · injection h1 with h1
    injection h1 with h1
    injection h1 with h1
    have := h.t.out
    rw [e, h1, hg] at this
    injection this with this
    injection this with _ this
    exact absurd this (by decide)
set_option maxRecDepth 20000 in
theorem owns_setRow {w : World} {b g h : Nat} {t : TypeId} {s N c : Nat} {xs : List Value} (o : w.ownsRow b t s (.slice (some ⟨g, 0, none⟩) N c) N xs) (cs : Array Value) (n : h ≠ g) : (w.setRow h cs).ownsRow b t s (.slice (some ⟨g, 0, none⟩) N c) N xs := by
  refine ⟨o.1, ?_⟩
  rcases o.2 with ⟨e, _⟩ | ⟨g', cap, cur, e, hb, hg, rest⟩
  · cases e
  · injection e with e1 e2 e3
    injection e1 with e1
    injection e1 with e1
    subst e1 e3
    exact .inr ⟨g, c, cur, rfl, hb, (setRow_get_ne w h g cs n).trans hg, rest⟩
def RAnsRet (R b : Nat) (room : Int) (E : List En) (v : Value) (k : Array Value) (W : World) (e : Ending) (w' : World) : Prop :=
  ∃ r, ansV E k = r ∧ e = .returned (.tuple #[r.1, .int .u8 r.2]) ∧ RefAt w' R b room (ansE E k) v ∧ KpS (fun i => v.ownBlock = some i) W w'
attribute [local go_sem] blk_cell' blk_frozen' en_key' en_at' en_ans
attribute [local go_sem ↓] loadF_key loadF_rentry storeF_rentry buildF_rentry
attribute [local go_sem] run_loadFo run_loadFz run_loadF0 run_storeF0 run_build_rentryk
set_option maxRecDepth 20000 in
set_option maxHeartbeats 8000000 in
theorem ranswer_any (R b : Nat) (room : Int) (E : List En) (v : Value) (k : Array Value) (W : World) (h : RefAt W R b room E v) (hk : KeyP k) (hl : E.length ≤ 65536) (nd : (E.map (·.k)).Nodup) :
    Calls Try.prog 19 #[ptr R, .agg k] W (RAnsRet R b room E v k W) := by
  obtain ⟨P, hP⟩ : ∃ P, RAnsRet R b room E v k W = P := ⟨_, rfl⟩
  rw [hP]
  have RR := Lib.hid hP
  have zk := key_sz hk
  have ok1 := one_of_fits hk
  have HR := Lib.hid h
  have PL := Lib.hid (fun w (M : Mo W w) => place_any R b room E v k w (h.mo M) hk hl)
  have ht := h.t
  clear hP h
  go_enter Try.func19, Try.ntmps19
  go_wp2_with fail
  refine (PL.out _ Mor.out).mono ?_
  rintro e w1 ⟨rfl, M1⟩
  have N1 := (Mor.out : Mo W _).trans M1
  have t1 : Blk w1 R 62 #[.int .i64 room, v] := N1.blk ht
  have k1 : Blk w1 W.heap.size 38 k := M1.blk inferInstance
  have r1 : Blk w1 (W.heap.size + 1) 67 (enC key0 wdz false) := M1.blk (blk_ren0 inferInstance)
  have HR1 := Lib.hid (HR.out.mo N1)
  clear M1 ht PL
  by_cases c : ∃ i, ∃ h : i < E.length, E[i].k = k
  · obtain ⟨i, hi, rfl⟩ := c
    have P : placeE E E[i].k = i := place_some hi rfl fun j hj e => by
      have := (List.getElem_inj (h₀ := by simpa using Nat.lt_trans hj hi) (h₁ := by simpa using hi) nd).1 (by simpa using e)
      omega
    have AS := Lib.hid (ans_set nd i hi)
    have AV : Hid (ansV E E[i].k = (.agg (enC E[i].k E[i].a E[i].d), if E[i].d then 6 else 4)) := Lib.hid (by
      unfold ansV
      rw [findE_some nd (List.getElem_mem hi)])
    rw [P]
    obtain ⟨g, c2, rfl, hbg, hcell⟩ := own_cells' HR1.out.row HR1.out.ok (by omega)
    have hc := hcell i hi
    have eok := HR.out.ok _ (List.getElem_mem hi)
    have z2 := at_sz eok.a
    have oa := one_of_fits eok.a
    have z0 : decide ((i : Int) < 0) = false := decide_eq_false (by omega)
    have i1 : (0 : Int) ≤ i := by omega
    have i2 : (i : Int) < E.length := by omega
    have ld : (loadF 67 (.pointer (some ⟨g, i * 40, none⟩))).run Try.prog w1 = .ok (.agg (enC E[i].k E[i].a E[i].d)) w1 := run_loadC _ 40 w1 g (i * 40) _ (by rw [← Array.length_toList]; exact en_len eok) hc
    clear hcell P eok
    cases hd : E[i].d with
    | true =>
      rw [hd] at ld AV
      have AE : Hid (ansE E E[i].k = E) := Lib.hid (by
        rw [AS.out]
        conv => rhs; rw [← List.set_getElem_self hi]
        rw [show E[i] = (⟨E[i].k, E[i].a, E[i].d⟩ : En) from rfl, hd])
      clear AS hc hd
      obtain ⟨ek, hek⟩ : ∃ ek, E[i].k = ek := ⟨_, rfl⟩
      obtain ⟨ea, hea⟩ : ∃ ea, E[i].a = ea := ⟨_, rfl⟩
      rw [hek] at ld AV AE zk k1 ok1 RR
      rw [hea] at ld AV z2 oa
      clear hek hea
      go_wp2_with fail
      have rr := blk_setRow (cs' := enC ek ea true) r1
      refine ret_cell2 Try.results19 (W.heap.size + 1) (enC ek ea true) rfl rfl ⟨(inferInstance : Blk ((w1.setRow (W.heap.size + 1) (enC ek ea true)).alloc (.cells (enC ek ea true) 67)) (W.heap.size + 1) 67 (enC ek ea true)).out⟩ ?_
      rw [← RR.out]
      have M8 : Mo W (w1.setRow (W.heap.size + 1) (enC ek ea true)) := mo_setRow N1 (Nat.le_succ _) _
      have M9 : Mo W ((w1.setRow (W.heap.size + 1) (enC ek ea true)).alloc (.cells (enC ek ea true) 67)) := M8.trans Mor.out
      exact ⟨_, AV.out, rfl, by rw [AE.out]; exact HR.out.mo M9, KpS.of_mo M9⟩
    | false =>
      rw [hd] at ld AV
      obtain ⟨cur, hcb, hcur⟩ : ∃ cur, Blk w1 g 67 cur ∧ cur[i * 40 + 39]? = some (.bool false) := by
        rcases HR1.out.row.2 with ⟨h1, _⟩ | ⟨g', cap, cur, h1, hb, hg, h3, h4, h5, h6⟩
        · cases h1
        · injection h1 with h1
          injection h1 with h1
          injection h1 with h1
          subst h1
          have hb : Blk w1 g 67 cur := ⟨hg⟩
          refine ⟨cur, hb, ?_⟩
          rw [← blk_cell hb]
          exact hc 39 _ (by rw [Array.getElem?_toList, hd]; exact en_ans _ _ _)
      have hgR := HR1.out.nR
      have hgl : g < W.heap.size := by
        rcases HR.out.row.2 with ⟨h1, _⟩ | ⟨g', cap, cur, h1, hb, hg, h3, h4, h5, h6⟩
        · cases h1
        · injection h1 with h1
          injection h1 with h1
          injection h1 with h1
          subst h1
          exact (Array.getElem?_eq_some_iff.1 hg).1
      obtain ⟨ek, hek⟩ : ∃ ek, E[i].k = ek := ⟨_, rfl⟩
      obtain ⟨ea, hea⟩ : ∃ ea, E[i].a = ea := ⟨_, rfl⟩
      have SE : Hid ((rowE E).set (i * 40 + 39) (.bool true) = rowE (ansE E E[i].k)) := Lib.hid (by rw [AS.out]; exact rowE_set HR.out.ok i hi)
      have LE : Hid ((ansE E E[i].k).length = E.length) := Lib.hid (by rw [AS.out, set_len])
      have OE : Hid (∀ e ∈ ansE E E[i].k, EnOk e) := Lib.hid (by
        rw [AS.out]
        intro e he
        rcases List.mem_or_eq_of_mem_set he with h | rfl
        · exact HR.out.ok e h
        · have := HR.out.ok _ (List.getElem_mem hi)
          exact ⟨this.k, this.a⟩)
      rw [hek] at ld AV zk k1 ok1 RR SE LE OE
      rw [hea] at ld AV z2 oa
      clear hek hea AS hc hd
      go_upto_region 7 with (fail)
      refine wp_name ?_
      intro w2 hw2
      have c2b : Blk w2 g 67 cur := by rw [hw2]; infer_instance
      have t2 : Blk w2 R 62 #[.int .i64 room, .slice (some ⟨g, 0, none⟩) E.length c2] := by rw [hw2]; infer_instance
      have r2 : Blk w2 (W.heap.size + 1) 67 (enC key0 wdz false) := by rw [hw2]; infer_instance
      have s2 : Blk w2 w1.heap.size 67 (enC ek ea false) := by rw [hw2]; infer_instance
      have M2 : Mo W w2 := by rw [hw2]; exact N1.trans Mor.out
      have hgs : g ≠ w1.heap.size := by have := N1.size; omega
      have HB2 := Lib.hid c2b
      clear hw2 r1 k1 t1 ld
      go_upto_region 8 with (fail)
      refine wp_name ?_
      intro w3 hw3
      have r3 : Blk w3 (W.heap.size + 1) 67 (enC key0 wdz false) := by rw [hw3]; exact blk_setCell_ne r2 (by omega) _ _
      have s3 : Blk w3 w1.heap.size 67 (enC ek ea false) := by rw [hw3]; exact blk_setCell_ne s2 hgs _ _
      have t3 : Blk w3 R 62 #[.int .i64 room, .slice (some ⟨g, 0, none⟩) E.length c2] := by rw [hw3]; exact blk_setCell_ne t2 (Ne.symm hgR) _ _
      have K3 : KpS (fun i => i = g) W w3 := by rw [hw3]; exact (KpS.of_mo (S := fun i => i = g) M2).cell rfl _ _
      have O3 : Hid (w3.ownsRow b 67 40 (.slice (some ⟨g, 0, none⟩) E.length c2) E.length ((rowE E).set (i * 40 + 39) (.bool true))) := Lib.hid (by
        rw [hw3]
        exact owns_setAt (HR.out.mo M2).row (i * 40 + 39) _)
      clear hw3 r2 s2 t2 hcb c2b
      go_wp2_with fail
      refine ret_cell2 Try.results19 (W.heap.size + 1) (enC ek ea false) rfl rfl (blk_setRow r3) ?_
      rw [← RR.out]
      refine ⟨_, AV.out, rfl, ⟨blk_setRow_ne t3 ?_, ?_, OE.out⟩, ⟨K3.os, K3.tape, K3.output, ?_, fun k h1 h2 => ?_⟩⟩
      · have := HR.out.t.lt; omega
      · have := O3.out
        rw [SE.out] at this
        rw [LE.out]
        exact owns_setRow this _ (by omega)
      · rw [setRow_size']; exact K3.size
      · rw [setRow_get_ne _ _ _ _ (by omega)]
        exact K3.block k h1 fun e => h2 (by rw [e]; rfl)
  · have hn : ∀ e ∈ E, e.k ≠ k := fun e he q => by
      obtain ⟨i, hi, rfl⟩ := List.getElem_of_mem he
      exact c ⟨i, hi, q⟩
    have AV : Hid (ansV E k = (.agg (enC k wdz false), 7)) := Lib.hid (by unfold ansV; rw [findE_none hn])
    have AE : Hid (ansE E k = E) := Lib.hid (by
      unfold ansE
      conv => rhs; rw [← List.map_id E]
      refine List.map_congr_left fun q hq => ?_
      rw [if_neg (fun e => hn q hq (eqA_iff.1 e))]
      rfl)
    rw [place_none hn]
    clear c hn
    go_wp2_with fail
    refine ret_cell2 Try.results19 (W.heap.size + 1) (enC k wdz false) rfl rfl (blk_setRow r1) ?_
    rw [← RR.out]
    have M9 : Mo W (w1.setRow (W.heap.size + 1) (enC k wdz false)) := mo_setRow N1 (Nat.le_succ _) _
    exact ⟨_, AV.out, rfl, by rw [AE.out]; exact HR.out.mo M9, KpS.of_mo M9⟩
end Go.Proofs.Ytlbkcjpnlnlmiaa
