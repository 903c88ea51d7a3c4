/- pend.All: the entries, one by one, as they stood when it was begun. -/
import Derived.Test.YtlbkcjpnlnlmiaaPendK
import Derived.Test.YtlbkcjpnlnlmiaaPendQ
namespace Go.Proofs.Ytlbkcjpnlnlmiaa
open Go.RowKit Go.Maps Go.Shelf

set_option maxRecDepth 20000 in
theorem infoEn : (Try.prog.info? 45).map (fun i => (i.zero, i.size, i.bytes)) = some (some (.agg (enC key0 wdz false)), 40, 72) := by kernel_rfl
/-- what a round keeps: the cells of entries from n0 on -/
structure KpC (n0 : Nat) (W W' : World) : Prop where
  size : W.heap.size ≤ W'.heap.size
  cells : ∀ k, n0 ≤ k → ∀ cs z, W.heap[k]? = some (.cells cs 45 z) → W'.heap[k]? = some (.cells cs 45 z)
set_option maxRecDepth 20000 in
theorem KpC.trans {n0 : Nat} {A B C : World} (h : KpC n0 A B) (k : KpC n0 B C) : KpC n0 A C := ⟨Nat.le_trans h.size k.size, fun i hi cs z q => k.cells i hi cs z (h.cells i hi cs z q)⟩
set_option maxRecDepth 20000 in
theorem KpC.put {n0 : Nat} {w : World} (W : World) (l : Nat) (o o' : Obj) (_ : w.heap.size ≤ l) (h : W.heap[l]? = some o) (hc : o.isCells = false) (_ : o.isWalk = false) : KpC n0 W (W.putObj l o') :=
  ⟨(grownBy_putObj' W l o').size, fun k _ cs z q => ((grownBy_putObj' W l o').block k (Array.getElem?_eq_some_iff.1 q).1 (fun e => by
    obtain rfl : k = l := by simpa using e
    rw [h] at q
    cases q
    cases hc)).trans q⟩
set_option maxRecDepth 20000 in
theorem owns_kpc {W W' : World} {n0 b : Nat} {size : Nat} {v : Value} {n : Nat} {xs : List Value} (h : W.ownsRow b 45 size v n xs) (hb : n0 ≤ b) (k : KpC n0 W W') : W'.ownsRow b 45 size v n xs := by
  refine ⟨h.1, ?_⟩
  rcases h.2 with hn | ⟨g, cap, cur, rfl, hb', hg, rest⟩
  · exact .inl hn
  · exact .inr ⟨g, cap, cur, rfl, hb', k.cells g (by omega) _ _ hg, rest⟩
set_option maxRecDepth 20000 in
theorem news_blk {w : World} {g : Nat} {t : TypeId} {cs : Array Value} (b : Blk w g t cs) (j : Nat) (u : Value) (h : cs.toList[j]? = some u) : w.cell? ((⟨g, 0, none⟩ : Addr).add j) = some u := by
  rw [Go.WideShapes.add_plain, Nat.zero_add, blk_cell b, ← Array.getElem?_toList]
  exact h
set_option maxRecDepth 20000 in
theorem one_list {cs : Array Value} (h : OneA cs) : ∀ u ∈ cs.toList, u.oneCell' = true := by
  have := h.out
  rw [Array.all_eq_true_iff_forall_mem] at this
  intro u hu
  exact this u (by simpa using hu)
def lenOf : Value → Nat
  | .slice _ n _ => n
  | _ => 0
set_option maxRecDepth 20000 in
theorem lenOf_own {w : World} {b : Nat} {e : TypeId} {s n : Nat} {v : Value} {xs : List Value} (h : w.ownsRow b e s v n xs) : lenOf v = n := by
  rcases h.2 with ⟨rfl, h0⟩ | ⟨g, cap, cur, rfl, _⟩
  · exact h0.symm
  · rfl
def rowE (E : List En) : List Value := E.flatMap fun e => (enC e.k e.a e.d).toList
def encE (e : En) : Array Value := #[.agg (enC e.k e.a e.d)]
set_option maxRecDepth 20000 in
theorem en_len {e : En} (h : EnOk e) : (enC e.k e.a e.d).toList.length = 40 := by
  have z1 := key_sz h.k
  have z2 := at_sz h.a
  rw [Array.length_toList]
  exact en_size
set_option maxRecDepth 20000 in
theorem rowE_len : ∀ {E : List En}, (∀ e ∈ E, EnOk e) → (rowE E).length = E.length * 40
  | [], _ => rfl
  | e :: E, h => by
    have ih := rowE_len (E := E) fun x hx => h x (List.mem_cons_of_mem _ hx)
    have e1 : rowE (e :: E) = (enC e.k e.a e.d).toList ++ rowE E := by unfold rowE; rw [List.flatMap_cons]
    rw [e1, List.length_append, ih, en_len (h e List.mem_cons_self), List.length_cons]
    omega
set_option maxRecDepth 20000 in
theorem rowE_append (A B : List En) : rowE (A ++ B) = rowE A ++ rowE B := by unfold rowE; rw [List.flatMap_append]
set_option maxRecDepth 20000 in
theorem rowE_get : ∀ {E : List En}, (∀ e ∈ E, EnOk e) → ∀ (i : Nat) (hi : i < E.length) (j : Nat), j < 40 → (rowE E)[i * 40 + j]? = (enC E[i].k E[i].a E[i].d).toList[j]?
  | e :: E, h, 0, _, j, hj => by
    have e1 : rowE (e :: E) = (enC e.k e.a e.d).toList ++ rowE E := by unfold rowE; rw [List.flatMap_cons]
    rw [e1, Nat.zero_mul, Nat.zero_add, List.getElem?_append_left (by rw [en_len (h e List.mem_cons_self)]; exact hj)]
    rfl
  | e :: E, h, i + 1, hi, j, hj => by
    have e1 : rowE (e :: E) = (enC e.k e.a e.d).toList ++ rowE E := by unfold rowE; rw [List.flatMap_cons]
    rw [e1, List.getElem?_append_right (by rw [en_len (h e List.mem_cons_self)]; omega), en_len (h e List.mem_cons_self)]
    have := rowE_get (E := E) (fun x hx => h x (List.mem_cons_of_mem _ hx)) i (by simpa using hi) j hj
    rw [show (i + 1) * 40 + j - 40 = i * 40 + j by omega, this]
    rfl
def buildSE (n : Nat) (l : Array (Nat × Value)) : Sem Value := Instr.buildSlice 83 n l
set_option maxRecDepth 20000 in
theorem buildSE_fold (n : Nat) (l : Array (Nat × Value)) : Instr.buildSlice 83 n l = buildSE n l := rfl
set_option maxRecDepth 20000 in
theorem run_buildSE (k a : Array Value) (d : Bool) [hk : SzA k 37] [ha : SzA a 2] (w : World) : (buildSE 1 #[(0, .agg (enC k a d))]).run Try.prog w = .ok (.slice (some ⟨w.heap.size, 0, none⟩) 1 1) (w.alloc (.cells (enC k a d) 45)) := by
  obtain ⟨x0, x1, x2, x3, x4, x5, x6, x7, x8, x9, x10, x11, x12, x13, x14, x15, x16, x17, x18, x19, x20, x21, x22, x23, x24, x25, x26, x27, x28, x29, x30, x31, x32, x33, x34, x35, x36, rfl⟩ := arr37 hk.out
  obtain ⟨y0, y1, rfl⟩ := arr2' ha.out
  kernel_rfl
set_option maxRecDepth 20000 in
theorem own_cells {w : World} {b : Nat} {A : Option Addr} {N c : Nat} {E : List En} (h : w.ownsRow b 45 40 (.slice A N c) N (rowE E)) (ok : ∀ e ∈ E, EnOk e) (hN : 0 < N) (q : Nat) (hq : q < E.length) :
    ∃ g c2, Value.slice A N c = .slice (some ⟨g, 0, none⟩) N c2 ∧ ∀ j v, (enC E[q].k E[q].a E[q].d).toList[j]? = some v → w.cell? ⟨g, q * 40 + j, none⟩ = some v := by
  rcases h.2 with ⟨_, h0⟩ | ⟨g, cap, cur, hv, hb, hg, h3, h4, h5, h6⟩
  · omega
  · refine ⟨g, cap, hv, fun j v hj => ?_⟩
    have hj40 : j < 40 := by
      have := (List.getElem?_eq_some_iff.1 hj).1
      rwa [en_len (ok _ (List.getElem_mem hq))] at this
    have h1 := h.1
    rw [rowE_len ok] at h1
    have e1 := rowE_get ok q hq j hj40
    rw [hj, ← h6] at e1
    rw [blk_cell (⟨hg⟩ : Blk w g _ cur), ← Array.getElem?_toList, ← e1, List.getElem?_take_of_lt (by omega)]
attribute [local go_sem] blk_cell' blk_frozen' nd_old nd_new nd_ans nd_key nd_en
attribute [local go_sem ↓] loadF_key loadF_entry storeF_entry buildF_entry buildSE_fold
attribute [local go_sem] run_loadFo run_loadFz run_loadF0 run_storeF0 run_buildSE
set_option maxRecDepth 20000 in
set_option maxHeartbeats 8000000 in
theorem all1_in (n l Bn T B : Nat) (room : Int) (L : List (Nat × En)) (n0 : Nat) (J Jx : List En → World → Prop) (W : World) (hn0 : n0 ≤ W.heap.size) (hT : TabAt W T B room L) (hL : L.length ≤ 65536) (hB : Boxed W Bn 24 (ptr T)) (hJ : AbidesFrom W.heap.size J)
    (hY : ∀ pre x W1, J pre W1 → (∃ r, pre ++ x :: r = L.map (·.2)) → pre.length < (L.map (·.2)).length → YieldAt Fence.wide (n - 1) Try.prog l (encE x) W1 fun e W' =>
      (e = .returned (.bool true) ∧ J (pre ++ [x]) W' ∧ KpC n0 W1 W') ∨ (e = .returned (.bool false) ∧ Jx (pre ++ [x]) W')) (h0 : J [] W) :
    CallsIn Fence.wide n Try.prog 24 #[.func (.yield l) #[] #[], .pointer (some ⟨Bn, 0, none⟩)] W fun e W' => (∃ v, e = .returned v) ∧
      ((∃ xs, xs = L.map (·.2) ∧ J xs W') ∨ (∃ pre, (∃ r, pre ++ r = L.map (·.2)) ∧ Jx pre W')) := by
  refine callsIn_wide.2 ?_
  obtain ⟨i0, hi, hz0, hz1, hz2⟩ := info_parts infoEn
  have hX1 := hB.cell
  have HY := Lib.hid hY
  have HJ := Lib.hid hJ
  have H0 := Lib.hid h0
  have HT := Lib.hid hT
  have HL := Lib.hid hL
  have ht := hT.t
  clear hY hJ h0 hT hL
  generalize hfp : firstP L nilp = fp at *
  generalize lastP nilp L = lp at *
  have HFP := Lib.hid hfp
  clear hfp
  go_enter Try.func24, Try.ntmps24
  go_wp2_with fail
  refine (right_any T B room fp lp _).mono ?_
  rintro e w1 ⟨rfl, M1⟩
  have t1 : Blk w1 T 75 #[.int .i64 room, .map (some B), fp, lp] := M1.blk ht
  have x1 := boxed_mo hB M1
  have hX2 := x1.cell
  have LB : LtW Bn w1 := ⟨x1.lt⟩
  have HJ1 := Lib.hid (HJ.out _ _ _ none H0.out M1.grown (fun r h => by cases h))
  have T1 := Lib.hid (HT.out.mo M1)
  clear ht hB hX1
  go_wp2_with fail
  go_loopw [3, 4] (fun v q wr => ∃ A C : List (Nat × En), L = A ++ C ∧ q = firstP C nilp ∧ wr.ownsRow w1.heap.size 45 40 v A.length (rowE (A.map (·.2))) ∧ Mo w1 wr) (fun v _ _ => L.length - lenOf v)
  case atStart => exact ⟨[], L, rfl, HFP.out.symm, World.ownsRow_nil _ _ _ _, Mo.refl _⟩
  case round =>
    obtain ⟨A, C, hAC, rfl, hown, hM⟩ := hrel
    have HO := Lib.hid hown
    have HAC := Lib.hid hAC
    clear hown hAC
    rcases C with _ | ⟨⟨g, e⟩, C⟩
    · have hL0 : L = A := by rw [HAC.out, List.append_nil]
      subst hL0
      have HO1 := HO
      have hok : ∀ x ∈ L.map (·.2), EnOk x := fun x hx => by
        obtain ⟨q, hq, rfl⟩ := List.mem_map.1 hx
        exact T1.out.ok q hq
      have HOK := Lib.hid hok
      obtain ⟨E, hE⟩ : ∃ E, L.map (·.2) = E := ⟨_, rfl⟩
      obtain ⟨N, hN⟩ : ∃ N, L.length = N := ⟨_, rfl⟩
      have HEN : Hid (E.length = N) := Lib.hid (by rw [← hE, List.length_map, hN])
      rw [hE] at HO1 HOK HY
      rw [hN] at HO1 HL
      have HE := Lib.hid hE
      have HW1 : Hid (n0 ≤ w1.heap.size) := Lib.hid (Nat.le_trans hn0 M1.size)
      obtain ⟨cp, hcp⟩ : ∃ A' c', u3 = .slice A' N c' := by
        rcases HO1.out.2 with ⟨h1, h2⟩ | ⟨g, cap, cur, h1, _⟩
        · exact ⟨none, 0, by rw [h1, h2]⟩
        · exact ⟨_, _, h1⟩
      obtain ⟨c', rfl⟩ := hcp
      have HM := Lib.hid hM
      have HJ2 := Lib.hid (HJ.out _ _ _ none HJ1.out hM.grown (fun r h => by cases h))
      clear HO HAC hok hE hN hM HFP T1 HT
      rw [show firstP [] nilp = nilp from rfl]
      go_wp2_with fail
      go_loopw [29] (fun i wr2 => ∃ q : Nat, q ≤ N ∧ i = .int .i64 q ∧ J (E.take q) wr2 ∧ wr2.ownsRow w1.heap.size 45 40 (.slice cp N c') N (rowE E)) (fun i _ => N - (intOf i).toNat)
      case atStart => exact ⟨0, Nat.zero_le _, rfl, HJ2.out, HO1.out⟩
      case round =>
        obtain ⟨q, hq, rfl, hJq, hown⟩ := hrel
        by_cases cq : q < N
        · have hqE : q < E.length := by rw [HEN.out]; exact cq
          have eok := HOK.out _ (List.getElem_mem hqE)
          obtain ⟨g, c2, e2, hcell⟩ := own_cells hown HOK.out (by omega) q hqE
          have HTK : Hid (E.take (q + 1) = E.take q ++ [E[q]]) := Lib.hid (by rw [List.take_append_getElem])
          have HPX : Hid (∃ r, E.take q ++ E[q] :: r = E) := Lib.hid ⟨E.drop (q + 1), by rw [← List.drop_eq_getElem_cons hqE, List.take_append_drop]⟩
          have z1 := key_sz eok.k
          have z2 := at_sz eok.a
          have y1 := one_of_fits eok.k
          have y2 := one_of_fits eok.a
          have ld := run_loadC 45 40 wr g (q * 40) _ (by rw [← Array.length_toList]; exact en_len eok) hcell
          have HOW := Lib.hid hown
          have HJQ := Lib.hid hJq
          have HLQ : Hid ((E.take q).length < E.length) := Lib.hid (by rw [List.length_take]; omega)
          injection e2 with e2 e3 e4
          subst e2 e4
          have i1 : (0 : Int) ≤ q := by omega
          have i2 : (q : Int) < N := by omega
          clear hcell hown hJq eok
          generalize E[q] = x at *
          clear hqE
          obtain ⟨xk, xa, xd⟩ := x
          simp only at z1 z2 y1 y2 ld
          go_upto_region 9 with (fail)
          refine wp_name ?_
          intro wc hwc
          have bc : Blk wc wr.heap.size 45 (enC xk xa xd) := by rw [hwc]; infer_instance
          have Mc : Mo wr wc := by rw [hwc]; exact Mor.out
          clear hwc ld
          have hJc := HJ.out _ _ _ none HJQ.out Mc.grown (fun r h => by cases h)
          have HOc := Lib.hid (owns_mo HOW.out Mc)
          obtain ⟨fn, tmps, assign, body, hy, hR⟩ := HY.out (E.take q) ⟨xk, xa, xd⟩ wc hJc HPX.out HLQ.out
          dsimp only [encE] at hy
          clear hJc Mc
          refine (wpIn_wide (n := n)).1 ?_
          gi_wp2
          refine ⟨fun h => absurd h (by decide), hR.mono ?_⟩
          rintro e W3 (⟨rfl, hJ3, hK3⟩ | ⟨rfl, hJx3⟩)
          · have HO3 := Lib.hid (owns_kpc HOc.out HW1.out hK3)
            have HJ3 : Hid (J (E.take (q + 1)) W3) := Lib.hid (by rw [HTK.out]; exact hJ3)
            clear hJ3 hK3 hy hR
            gi_wp2
            have hNl := HL.out
            go_wp2_with fail
            go_roundw
            case rel => exact ⟨q + 1, by omega, by go_num, HJ3.out, HO3.out⟩
            case measure => simp [intOf]; omega
          · have HX3 : Hid (Jx (E.take (q + 1)) W3) := Lib.hid (by rw [HTK.out]; exact hJx3)
            clear hJx3 hy hR
            gi_wp2
            go_wp2_with fail
            refine bodyPost_ret (results_none rfl _ _ _) rfl ?_
            exact ⟨⟨_, rfl⟩, .inr ⟨E.take (q + 1), ⟨E.drop (q + 1), by rw [List.take_append_drop, HE.out]⟩, HX3.out⟩⟩
        · obtain rfl : q = N := by omega
          have HF : Hid (J E wr) := Lib.hid (by rwa [List.take_of_length_le (by rw [HEN.out]; exact Nat.le_refl _)] at hJq)
          go_wp2_with fail
          refine bodyPost_end (results_none rfl _ _ _) rfl ?_
          exact ⟨⟨_, rfl⟩, .inl ⟨E, HE.out.symm, HF.out⟩⟩
    · have hseg := T1.out.seg
      rw [HAC.out, seg_append] at hseg
      have bg : Blk w1 g 80 (ndE e (lastP nilp A) (firstP C nilp)) := hseg.2.1
      replace bg := hM.blk bg
      have hok := T1.out.ok (g, e) (by rw [HAC.out]; simp)
      have hAok : ∀ x ∈ A.map (·.2), EnOk x := fun x hx => by
        obtain ⟨q, hq, rfl⟩ := List.mem_map.1 hx
        exact T1.out.ok q (by rw [HAC.out]; exact List.mem_append_left _ hq)
      have HA := Lib.hid (rowE_len hAok)
      obtain ⟨ek, ea, ed⟩ := e
      have zk := key_sz hok.k
      have za := at_sz hok.a
      have ok1 := one_of_fits hok.k
      have oa1 := one_of_fits hok.a
      simp only at zk za ok1 oa1
      have HLEN : Hid (A.length + 1 ≤ 65536) := Lib.hid (by have := HL.out; rw [HAC.out, List.length_append, List.length_cons] at this; omega)
      generalize lastP nilp A = lq at *
      rw [show firstP ((g, (⟨ek, ea, ed⟩ : En)) :: C) nilp = ptr g from rfl]
      generalize hfc : firstP C nilp = fc at *
      have HFC := Lib.hid hfc
      have HS := Lib.hid hok
      clear hseg hok hAok hfc
      have LL := HLEN.out
      go_wp2_with (at_builtin; refine wpList_append_own _ rfl _ _ 83 rfl w1.heap.size 45 i0 (.agg (enC key0 wdz false)) 40 72 Try.underlying83 hi hz0 hz1 hz2 (by kernel_rfl) (by decide) _ _ _ rfl (owns_mo HO.out (Mor.out : Mo wr _)) ⟨wr.heap.size, 0, none⟩ 1 1 (enC ek ea ed).toList rfl ?c1 ?c2 ?c3 ?c4 ?c5 ?c6 ?_)
      case c1 => exact en_size
      case c3 => exact fun u hu => one_list (cs := enC ek ea ed) inferInstance u (by simpa using hu)
      case c4 => unfold maxLen; omega
      case c5 => omega
      case c6 => have := hM.size; omega
      intro v' w2 hown1 hgrow _
      have hM2 : Mo w1 w2 := mo_grown (hM.trans (Mor.out : Mo wr _)) hgrow (fun k e => (HO.out.lt k e).1)
      have bg2 : Blk w2 g 80 (ndC ek ea ed lq fc) := by
        have hg : g < w1.heap.size := seg_lt T1.out.seg (g, ⟨ek, ea, ed⟩) (by rw [HAC.out]; simp)
        refine ⟨(hgrow.block g ?_ ?_).trans ((inferInstance : Blk (wr.alloc (.cells (enC ek ea ed) 45)) g 80 (ndC ek ea ed lq fc)).out)⟩
        · have := (hM.trans (Mor.out : Mo wr (wr.alloc (.cells (enC ek ea ed) 45)))).size; omega
        · intro e; have := (HO.out.lt g e.symm).1; omega
      have HO2 : Hid (w2.ownsRow w1.heap.size 45 40 v' (A ++ [(g, (⟨ek, ea, ed⟩ : En))]).length (rowE ((A ++ [(g, (⟨ek, ea, ed⟩ : En))]).map (·.2)))) := Lib.hid (by
        rw [List.map_append, rowE_append, List.length_append]
        have e : rowE ([(g, (⟨ek, ea, ed⟩ : En))].map (·.2)) = (enC ek ea ed).toList := by unfold rowE; simp
        rw [e]
        exact hown1)
      have ML : Hid (L.length - lenOf v' < L.length - lenOf u3) := Lib.hid (by
        rw [lenOf_own hown1, lenOf_own HO.out, HAC.out, List.length_append, List.length_cons]
        omega)
      have HL3 : Hid (L = A ++ [(g, (⟨ek, ea, ed⟩ : En))] ++ C) := Lib.hid (by rw [HAC.out, List.append_assoc]; rfl)
      clear hown1 hgrow bg
      go_wp2_with fail
      refine ⟨⟨A ++ [(g, ⟨ek, ea, ed⟩)], C, HL3.out, HFC.out.symm, ?_, hM2⟩, ML.out⟩
      clear HY HJ H0 HL T1 HAC HL3 HFC ML hM hM2 bg2 i0 hi hz0 hz1 hz2 HS LL
      have HQ := HO2.out
      clear HO2
      as_aux_lemma => exact HQ
set_option maxRecDepth 20000 in
theorem all_seq (n Bn T B : Nat) (room : Int) (L : List (Nat × En)) (w : World) (hT : TabAt w T B room L) (hL : L.length ≤ 65536) (hB : Boxed w Bn 24 (ptr T)) :
    SeqP Fence.wide n Try.prog 24 #[.pointer (some ⟨Bn, 0, none⟩)] encE (KpC w.heap.size) (fun pre x _ => ∃ r, pre ++ x :: r = L.map (·.2)) (fun xs => xs = L.map (·.2)) (fun pre => ∃ r, pre ++ r = L.map (·.2)) (L.map (·.2)).length w :=
  fun l J Jx W hW hJ _ hY h0 => all1_in n l Bn T B room L w.heap.size J Jx W hW.size (hT.mo (Mo.of hW)) hL (boxed_mo hB (Mo.of hW)) hJ hY h0
end Go.Proofs.Ytlbkcjpnlnlmiaa
