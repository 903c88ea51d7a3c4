/- horologeref29: Ask. -/
import Derived.Test.YtlbkcjpnlnlmiaaPendT
namespace Go.Proofs.Ytlbkcjpnlnlmiaa
open Go.RowKit Go.Maps

set_option maxRecDepth 20000 in
theorem infoRE : (Try.prog.info? 67).map (fun i => (i.zero, i.size, i.bytes)) = some (some (.agg (enC key0 wdz false)), 40, 72) := by kernel_rfl
def appR (ats : Array TypeId) (ty : TypeId) (args : Array Value) : Sem Value := Builtin.append_ ats ty args
set_option maxRecDepth 20000 in
theorem appR_fold (ats : Array TypeId) (ty : TypeId) (args : Array Value) : Builtin.append_ ats ty args = appR ats ty args := rfl
set_option maxRecDepth 20000 in
theorem run_bs0 (w : World) : (Instr.buildSlice 60 0 #[]).run Try.prog w = .ok (.slice (some ⟨w.heap.size, 0, none⟩) 0 0) (w.alloc (.cells #[] 67)) := by kernel_rfl
set_option maxRecDepth 20000 in
theorem sizeRE (w : World) : (sizeOf (Try.prog.elem 60)).run Try.prog w = .ok 40 w := rfl
set_option maxRecDepth 20000 in
theorem own_ne {w : World} {R b s n : Nat} {e T : TypeId} {v : Value} {xs : List Value} {cs : Array Value} (t : Blk w R T cs) (h : w.ownsRow b e s v n xs) (ne : T ≠ e) : some R ≠ v.ownBlock := by
  intro q
  rcases h.2 with ⟨rfl, _⟩ | ⟨g, cap, cur, rfl, hb, hg, _⟩
  · simp [Value.ownBlock] at q
  · obtain rfl : R = g := by simpa [Value.ownBlock] using q
    have := t.out
    rw [hg] at this
    injection this with this
    injection this with _ this
    exact ne this.symm
set_option maxRecDepth 20000 in
theorem strike_mid {A C : List En} {e : En} (nd : ((A ++ e :: C).map (·.k)).Nodup) : strike (A ++ e :: C) e.k = A ++ C := by
  rw [List.map_append, List.map_cons, List.nodup_append, List.nodup_cons] at nd
  rw [strike_append, strike_cons_same rfl, strike_self, strike_self]
  · intro x hx q
    exact nd.2.1.1 (by rw [← q]; exact List.mem_map_of_mem (f := fun e : En => e.k) hx)
  · intro x hx q
    exact nd.2.2 _ (List.mem_map_of_mem (f := fun e : En => e.k) hx) _ List.mem_cons_self q
set_option maxRecDepth 20000 in
theorem strike_idx {E : List En} (nd : (E.map (·.k)).Nodup) (i : Nat) (hi : i < E.length) : E.take i ++ E.drop (i + 1) = strike E E[i].k := by
  have e : E.take i ++ E[i] :: E.drop (i + 1) = E := by rw [← List.drop_eq_getElem_cons hi, List.take_append_drop]
  have := strike_mid (A := E.take i) (C := E.drop (i + 1)) (e := E[i]) (by rw [e]; exact nd)
  rw [e] at this
  exact this.symm
set_option maxRecDepth 20000 in
theorem hasE_idx {E : List En} (i : Nat) (hi : i < E.length) : hasE E E[i].k = true := by
  unfold hasE
  rw [List.any_eq_true]
  exact ⟨E[i], List.getElem_mem hi, eqA_self _⟩
/-- what the reference's Ask leaves and answers -/
def RAskRet (R b : Nat) (room : Int) (E : List En) (v : Value) (k a : Array Value) (W : World) (e : Ending) (w' : World) : Prop :=
  ∃ v' o, e = .returned (.tuple #[.bool (hasE E k), o]) ∧ RefAt w' R b room (askE room E k a).2.2 v' ∧ KpS (fun i => i = R ∨ v.ownBlock = some i) W w' ∧ (∀ q, v'.ownBlock = some q → v.ownBlock = some q ∨ W.heap.size ≤ q) ∧
    match (askE room E k a).2.1 with
    | none => o = .slice none 0 0
    | some x => ∃ g c, o = .slice (some ⟨g, 0, none⟩) 1 c ∧ ∀ j u, (enC x.k x.a x.d).toList[j]? = some u → w'.cell? ⟨g, j, none⟩ = some u
set_option maxRecDepth 20000 in
theorem run_build_rentryka (k a : Array Value) [hk : SzA k 37] [ha : SzA a 2] (w : World) : (buildF 67 #[(0, .agg k), (1, .agg a), (2, .bool false)]).run Try.prog w = .ok (.agg (enC k a false)) w := by
  obtain ⟨x0, x1, x2, x3, x4, x5, x6, x7, x8, x9, x10, x11, x12, x13, x14, x15, x16, x17, x18, x19, x20, x21, x22, x23, x24, x25, x26, x27, x28, x29, x30, x31, x32, x33, x34, x35, x36, rfl⟩ := arr37 hk.out
  obtain ⟨y0, y1, rfl⟩ := arr2' ha.out
  exact run_build w _ _ _ (by kernel_rfl)
def buildSR (n : Nat) (l : Array (Nat × Value)) : Sem Value := Instr.buildSlice 60 n l
set_option maxRecDepth 20000 in
theorem buildSR_fold (l : Array (Nat × Value)) : Instr.buildSlice 60 1 l = buildSR 1 l := rfl
set_option maxRecDepth 20000 in
theorem run_buildSR (k a : Array Value) (d : Bool) [hk : SzA k 37] [ha : SzA a 2] (w : World) : (buildSR 1 #[(0, .agg (enC k a d))]).run Try.prog w = .ok (.slice (some ⟨w.heap.size, 0, none⟩) 1 1) (w.alloc (.cells (enC k a d) 67)) := by
  obtain ⟨x0, x1, x2, x3, x4, x5, x6, x7, x8, x9, x10, x11, x12, x13, x14, x15, x16, x17, x18, x19, x20, x21, x22, x23, x24, x25, x26, x27, x28, x29, x30, x31, x32, x33, x34, x35, x36, rfl⟩ := arr37 hk.out
  obtain ⟨y0, y1, rfl⟩ := arr2' ha.out
  kernel_rfl
set_option maxRecDepth 20000 in
theorem blk_alloc' (w : World) (cs : Array Value) (t : TypeId) : Blk (w.alloc (.cells cs t)) w.heap.size t cs := inferInstance
set_option maxRecDepth 20000 in
theorem met_name {J : Act → World → Prop} {a : Act} {w : World} (h : ∀ W, W = w → Met J a W) : Met J a w := h w rfl
set_option maxRecDepth 20000 in
theorem owns_set_ne {w : World} {b s n R : Nat} {e : TypeId} {v : Value} {xs : List Value} (h : w.ownsRow b e s v n xs) (ne : some R ≠ v.ownBlock) (i : Nat) (u : Value) : (w.setCell ⟨R, i, none⟩ u).ownsRow b e s v n xs := by
  refine ⟨h.1, ?_⟩
  rcases h.2 with q | ⟨g, cap, cur, rfl, hb, hg, rest⟩
  · exact .inl q
  · exact .inr ⟨g, cap, cur, rfl, hb, (heap_setCell_other w ⟨R, i, none⟩ g u (fun e => ne (by rw [show R = g from e.symm]; rfl))).trans hg, rest⟩
attribute [local go_sem] blk_cell' blk_frozen' en_key' en_at' en_ans
attribute [local go_sem ↓] loadF_key loadF_rentry storeF_rentry buildF_rentry appR_fold buildSR_fold loadF_wide'
attribute [local go_sem] run_loadFo run_loadFz run_loadF0 run_storeF0 run_build_rentryk run_build_rentryka run_buildSR
set_option maxRecDepth 20000 in
set_option maxHeartbeats 8000000 in
theorem rask_any (R b : Nat) (room : Int) (E : List En) (v : Value) (k a : Array Value) (W : World) (h : RefAt W R b room E v) (hk : KeyP k) (ha : Fits (ksOf 40) a.toList) (hl : E.length ≤ 65536) (nd : (E.map (·.k)).Nodup) (hb : b ≤ W.heap.size) :
    Calls Try.prog 17 #[ptr R, .agg k, .agg a] W (RAskRet R b room E v k a W) := by
  obtain ⟨PO, hPO⟩ : ∃ P, RAskRet R b room E v k a W = P := ⟨_, rfl⟩
  rw [hPO]
  have RR := Lib.hid hPO
  clear hPO
  have zk := key_sz hk
  have ok1 := one_of_fits hk
  have za := at_sz ha
  have oa1 := one_of_fits ha
  have HR := Lib.hid h
  have PL := Lib.hid (fun w (M : Mo W w) => place_any R b room E v k w (h.mo M) hk hl)
  have ht := h.t
  clear h
  go_enter Try.func17, Try.ntmps17
  go_wp2_with fail
  refine (PL.out _ Mor.out).mono ?_
  rintro e w1 ⟨rfl, M1⟩
  have N1 := (Mor.out : Mo W _).trans M1
  have t1 : Blk w1 R 62 #[.int .i64 room, v] := N1.blk ht
  have k1 : Blk w1 W.heap.size 38 k := M1.blk inferInstance
  have a1 : Blk w1 (W.heap.size + 1) 40 a := M1.blk inferInstance
  have HR1 := Lib.hid (HR.out.mo N1)
  clear M1 ht PL
  have HS : Hid (decide (0 ≤ placeE E k) = hasE E k) := Lib.hid (by
    by_cases c : ∃ i, ∃ h : i < E.length, E[i].k = k
    · obtain ⟨i, hi, rfl⟩ := c
      rw [place_some hi rfl fun j hj e => by
        have := (List.getElem_inj (h₀ := by simpa using Nat.lt_trans hj hi) (h₁ := by simpa using hi) nd).1 (by simpa using e)
        omega, hasE_idx i hi]
      exact decide_eq_true (by omega)
    · have hn : ∀ e ∈ E, e.k ≠ k := fun e he q => by
        obtain ⟨i, hi, rfl⟩ := List.getElem_of_mem he
        exact c ⟨i, hi, q⟩
      rw [place_none hn]
      symm
      unfold hasE
      rw [show decide ((0 : Int) ≤ -1) = false by decide, List.any_eq_false]
      intro e he q
      exact hn e he (eqA_iff.1 q))
  go_upto_if 14 with (fail)
  go_cut [8] (fun s8 wx => s8 = .int .i64 (placeE E k) ∧ ∃ v1, RefAt wx R b room (strike E k) v1 ∧ KpS (fun i => i = R) W wx ∧ Blk wx W.heap.size 38 k ∧ Blk wx (W.heap.size + 1) 40 a ∧ (∀ q, v1.ownBlock = some q → v.ownBlock = some q ∨ W.heap.size ≤ q))
  case first =>
    by_cases c : ∃ i, ∃ h : i < E.length, E[i].k = k
    · obtain ⟨i, hi, rfl⟩ := c
      have P : placeE E E[i].k = i := place_some hi rfl fun j hj e => by
        have := (List.getElem_inj (h₀ := by simpa using Nat.lt_trans hj hi) (h₁ := by simpa using hi) nd).1 (by simpa using e)
        omega
      rw [P]
      obtain ⟨g, c2, rfl, hbg, hcell⟩ := own_cells' HR1.out.row HR1.out.ok (by omega)
      obtain ⟨i0, hi0, hz0, hz1, hz2⟩ := info_parts infoRE
      have z0 : decide (0 ≤ (i : Int)) = true := decide_eq_true (by omega)
      obtain ⟨g', cap, cur, e1, hb', hg, h3, h4, h5, h6⟩ := (HR1.out.row.2.resolve_left (fun h => by cases h.1))
      injection e1 with e1 e2 e3
      injection e1 with e1
      injection e1 with e1
      subst e1 e3
      have hcap : E.length ≤ c2 := by omega
      have s1 : ∀ w : World, (Instr.sliceAt 60 (.slice (some ⟨g, 0, none⟩) E.length c2) none (some (.int .i64 (i : Int))) none).run Try.prog w = .ok (.slice (some ⟨g, 0, none⟩) i c2) w := fun w => by
        rw [run_sliceAt_slice w 60 _ _ _ _ Try.underlying60, run_slice_h w 60 (some ⟨g, 0, none⟩) E.length c2 Try.underlying60 .i64 i (by omega) (by omega), sizeRE]
        show Result.ok (sliced _ 0 i c2 40) w = _
        unfold sliced
        rw [if_neg (by omega), Nat.sub_zero, Nat.sub_zero]
        rfl
      obtain ⟨o2, s2, ho2⟩ : ∃ o2, (∀ w : World, (Instr.sliceAt 60 (.slice (some ⟨g, 0, none⟩) E.length c2) (some (.int .i64 ((i : Int) + 1))) none none).run Try.prog w = .ok (.slice (some ⟨g, o2, none⟩) (E.length - (i + 1)) (c2 - (i + 1))) w) ∧ (0 < E.length - (i + 1) → o2 = (i + 1) * 40) := by
        have q : ∀ w : World, (Instr.sliceAt 60 (.slice (some ⟨g, 0, none⟩) E.length c2) (some (.int .i64 ((i : Int) + 1))) none none).run Try.prog w = .ok (sliced (some ⟨g, 0, none⟩) (i + 1) E.length c2 40) w := fun w => by
          have := run_slice_l (P := Try.prog) w 60 (some ⟨g, 0, none⟩) E.length c2 Try.underlying60 .i64 ((i + 1 : Nat) : Int) (by omega) (by omega)
          rw [sizeRE] at this
          rw [run_sliceAt_slice w 60 _ _ _ _ Try.underlying60]
          exact this
        unfold sliced at q
        by_cases cc : c2 = i + 1
        · rw [if_pos cc] at q
          exact ⟨0, q, fun h => by omega⟩
        · rw [if_neg cc] at q
          refine ⟨(i + 1) * 40, fun w => (q w).trans ?_, fun _ => rfl⟩
          rw [show Option.map (fun x : Addr => x.add ((i + 1) * 40)) (some ⟨g, 0, none⟩) = some ⟨g, (i + 1) * 40, none⟩ by rw [Option.map_some, Go.WideShapes.add_plain, Nat.zero_add]]
      have hbk : Blk w1 g 67 cur := ⟨hg⟩
      have lE : (rowE E).length = E.length * 40 := by rw [rowE_len HR.out.ok]
      have hcut : ∀ x y, x + y ≤ E.length → ∀ j u, (rowE ((E.drop x).take y))[j]? = some u → cur[x * 40 + j]? = some u := fun x y hxy j u hu => by
        have okp : ∀ e ∈ (E.drop x).take y, EnOk e := fun e he => HR.out.ok e (List.mem_of_mem_drop (List.mem_of_mem_take he))
        have lp := rowE_len okp
        have hj := (List.getElem?_eq_some_iff.1 hu).1
        rw [lp, List.length_take, List.length_drop] at hj
        have hjy : j < y * 40 := by omega
        have g1 := rowE_get okp (j / 40) (by rw [List.length_take, List.length_drop]; omega) (j % 40) (by omega)
        rw [show j / 40 * 40 + j % 40 = j by omega, hu] at g1
        have g2 := rowE_get HR.out.ok (x + j / 40) (by omega) (j % 40) (by omega)
        rw [show (x + j / 40) * 40 + j % 40 = x * 40 + j by omega] at g2
        simp only [List.getElem_take, List.getElem_drop] at g1
        rw [← Array.getElem?_toList, ← List.getElem?_take_of_lt (j := E.length * 40) (by omega), h6, g2, ← g1]
      have onep : ∀ X : List En, (∀ e ∈ X, EnOk e) → ∀ u ∈ rowE X, u.oneCell' = true := fun X hX u hu => by
        unfold rowE at hu
        obtain ⟨e, he, hu⟩ := List.mem_flatMap.1 hu
        have y1 := one_of_fits (hX e he).k
        have y2 := one_of_fits (hX e he).a
        exact one_list (cs := enC e.k e.a e.d) inferInstance u hu
      have bW : b ≤ w1.heap.size := Nat.le_trans hbg (Nat.le_of_lt (Array.getElem?_eq_some_iff.1 hg).1)
      have BW3 : b ≤ ((w1.alloc (.cells #[] 67)).drew).heap.size := Nat.le_trans bW (by show _ ≤ (w1.alloc (.cells #[] 67)).heap.size; rw [World.size_alloc]; exact Nat.le_succ _)
      obtain ⟨v4, w4, hrun4, hown4, hgrow4, -, ob4⟩ := run_append_own_at (P := Try.prog) ((w1.alloc (.cells #[] 67)).drew) b 60 60 67 i0 (.agg (enC key0 wdz false)) 40 72 Try.underlying60 hi0 hz0 hz1 hz2 (by kernel_rfl) (by decide) _ _ _
        (owns_mo (World.ownsRow_made w1 #[] 0 bW (Nat.zero_le _) rfl) (Mor.out : Mo (w1.alloc (.cells #[] 67)) _)) ⟨g, 0, none⟩ i c2 (rowE (E.take i)) (by rw [rowE_len (fun e he => HR.out.ok e (List.mem_of_mem_take he)), List.length_take]; congr 1; omega)
        (fun j u hu => by
          rw [Go.WideShapes.add_plain, Nat.zero_add, blk_cell (w := (w1.alloc (.cells #[] 67)).drew) (cs := cur) (t := 67) ⟨(inferInstance : Blk (w1.alloc (.cells #[] 67)) g 67 cur).out⟩]
          have := hcut 0 i (by omega) j u (by rw [List.drop_zero]; exact hu)
          rwa [Nat.zero_mul, Nat.zero_add] at this)
        (onep _ fun e he => HR.out.ok e (List.mem_of_mem_take he)) (by unfold maxLen; omega) (by omega) BW3
      have hgne : w1.heap.size ≠ g := by have := hbk.lt; omega
      have sz3 : ((w1.alloc (.cells #[] 67)).drew).heap.size = w1.heap.size + 1 := by show (w1.alloc (.cells #[] 67)).heap.size = _; rw [World.size_alloc]
      have hb4 : Blk w4 g 67 cur := ⟨(hgrow4.block g (by have := hbk.lt; omega) (fun e => hgne (by injection e with e; exact e.symm))).trans ((inferInstance : Blk (w1.alloc (.cells #[] 67)) g 67 cur).out)⟩
      have sz4 : w1.heap.size ≤ w4.heap.size := by have := hgrow4.size; omega
      obtain ⟨v5, w5, hrun5, hown5, hgrow5, -, ob5⟩ := run_append_own_at (P := Try.prog) w4 b 60 60 67 i0 (.agg (enC key0 wdz false)) 40 72 Try.underlying60 hi0 hz0 hz1 hz2 (by kernel_rfl) (by decide) _ _ _
        hown4 ⟨g, o2, none⟩ (E.length - (i + 1)) (c2 - (i + 1)) (rowE (E.drop (i + 1))) (by rw [rowE_len (fun e he => HR.out.ok e (List.mem_of_mem_drop he)), List.length_drop])
        (fun j u hu => by
          have hj := (List.getElem?_eq_some_iff.1 hu).1
          rw [rowE_len (fun e he => HR.out.ok e (List.mem_of_mem_drop he)), List.length_drop] at hj
          rw [Go.WideShapes.add_plain, blk_cell hb4, ho2 (by omega)]
          exact hcut (i + 1) (E.length - (i + 1)) (by omega) j u (by rw [List.take_of_length_le (by rw [List.length_drop]; exact Nat.le_refl _)]; exact hu))
        (onep _ fun e he => HR.out.ok e (List.mem_of_mem_drop he)) (by unfold maxLen; omega) (by omega) (Nat.le_trans bW sz4)
      have t4 : Blk w4 R 62 #[.int .i64 room, .slice (some ⟨g, 0, none⟩) E.length c2] := ⟨(hgrow4.block R (by have := t1.lt; omega) (fun e => (Nat.ne_of_lt t1.lt) (by simpa [Value.ownBlock] using e))).trans (show (w1.alloc (.cells #[] 67)).heap[R]? = _ from (Below.heap_alloc _ _ _ t1.lt).trans t1.out)⟩
      have t5 : Blk w5 R 62 #[.int .i64 room, .slice (some ⟨g, 0, none⟩) E.length c2] := ⟨(hgrow5.block R t4.lt (own_ne t4 hown4 (by decide))).trans t4.out⟩
      obtain ⟨A5, c5, rfl⟩ : ∃ A' c', v5 = .slice A' (0 + i + (E.length - (i + 1))) c' := by
        rcases hown5.2 with ⟨q1, q2⟩ | ⟨g5, cap5, cur5, q1, _⟩
        · exact ⟨none, 0, by rw [q1, q2]⟩
        · exact ⟨_, _, q1⟩
      have OV5 : ∀ q, (Value.slice A5 (0 + i + (E.length - (i + 1))) c5).ownBlock = some q → w1.heap.size ≤ q := fun q e => by
        rcases ob5 with o | o
        · rw [o] at e
          rcases ob4 with o' | o' <;> rw [o'] at e <;> simp [Value.ownBlock] at e <;> omega
        · rw [o] at e; simp at e; omega
      replace hrun4 : (appR #[60, 60] 60 #[.slice (some ⟨w1.heap.size, 0, none⟩) 0 0, .slice (some ⟨g, 0, none⟩) i c2]).run Try.prog ((w1.alloc (.cells #[] 67)).drew) = .ok v4 w4 := hrun4
      replace hrun5 : (appR #[60, 60] 60 #[v4, .slice (some ⟨g, o2, none⟩) (E.length - (i + 1)) (c2 - (i + 1))]).run Try.prog w4 = .ok (.slice A5 (0 + i + (E.length - (i + 1))) c5) w5 := hrun5
      have b0 := run_bs0
      have w11 : IntKind.i64.wrap ((i : Int) + 1) = i + 1 := by rw [IntKind.wrap_i64]; omega
      clear hcut onep h3 h4 h5 h6 hcell
      go_upto_region 3 with (fail)
      go_region
      go_wp2_with fail
      refine met_name ?_
      intro w6 hw6
      obtain ⟨E1, hE1⟩ : ∃ E1, E.take i ++ E.drop (i + 1) = E1 := ⟨_, rfl⟩
      have HE1 := Lib.hid hE1
      have hl1 : 0 + i + (E.length - (i + 1)) = E1.length := by rw [← hE1, List.length_append, List.length_take, List.length_drop]; omega
      have hl1' : i + (E.length - (i + 1)) = E1.length := by omega
      rw [List.nil_append, ← rowE_append, hE1, hl1] at hown5
      rw [hl1'] at hw6 ⊢
      rw [hl1] at OV5
      have K5 : KpS (fun i => i = R) w1 w5 := by
        refine ⟨?_, ?_, ?_, ?_, fun q h1 h2 => ?_⟩
        · rw [hgrow5.os, hgrow4.os]; rfl
        · rw [hgrow5.tape, hgrow4.tape]; rfl
        · rw [hgrow5.output, hgrow4.output]; rfl
        · exact Nat.le_trans sz4 hgrow5.size
        · rw [hgrow5.block q (by omega) (fun e => by rcases ob4 with o | o <;> rw [o] at e <;> simp [Value.ownBlock] at e <;> omega), hgrow4.block q (by omega) (fun e => (Nat.ne_of_lt h1) (by simpa [Value.ownBlock] using e))]
          exact Below.heap_alloc _ _ _ h1
      have K6 : KpS (fun i => i = R) W w6 := by
        rw [hw6]
        exact ((KpS.of_mo N1).trans K5 fun _ _ q => q).cell rfl 1 _
      have R6 : Hid (RefAt w6 R b room E1 (.slice A5 E1.length c5)) := Lib.hid ⟨by rw [hw6]; exact blk_setCell t5 1 _, by rw [hw6]; exact owns_set_ne hown5 (own_ne t5 hown5 (by decide)) 1 _, fun e he => by
        rw [← HE1.out] at he
        rcases List.mem_append.1 he with h | h
        · exact HR.out.ok e (List.mem_of_mem_take h)
        · exact HR.out.ok e (List.mem_of_mem_drop h)⟩
      have hRW : R < W.heap.size := HR.out.t.lt
      have k6 : Blk w6 W.heap.size 38 E[i].k := by rw [hw6]; exact blk_setCell_ne (K5.blk k1 (by omega)) (by omega) _ _
      have a6 : Blk w6 (W.heap.size + 1) 40 a := by rw [hw6]; exact blk_setCell_ne (K5.blk a1 (by omega)) (by omega) _ _
      have ST := Lib.hid (hE1.symm.trans (strike_idx nd i hi))
      go_meet
      refine ⟨by rw [P], .slice A5 E1.length c5, ?_, K6, k6, a6, fun q e => .inr ?_⟩
      · rw [← ST.out]; exact R6.out
      · have := OV5 q e; have := N1.size; omega
    · have hn : ∀ e ∈ E, e.k ≠ k := fun e he q => by
        obtain ⟨i, hi, rfl⟩ := List.getElem_of_mem he
        exact c ⟨i, hi, q⟩
      rw [place_none hn]
      have PN := Lib.hid (place_none hn)
      have ST := Lib.hid (strike_self hn)
      clear hn c
      go_wp2_with fail
      go_meet
      refine ⟨by rw [PN.out], v, by rw [ST.out]; exact HR1.out, KpS.of_mo N1, k1, a1, fun q e => .inl e⟩
  obtain ⟨rfl, v1, R6, K6, k6, a6, OV⟩ := hcut
  replace R6 := Lib.hid R6
  replace OV := Lib.hid OV
  rename World => w6
  obtain ⟨E1, hE1⟩ : ∃ E1, strike E k = E1 := ⟨_, rfl⟩
  have HE1 := Lib.hid hE1
  have hl1 : E1.length ≤ 65536 := by rw [← hE1]; exact Nat.le_trans (List.length_filter_le _ _) hl
  rw [hE1] at R6
  clear hE1 k1 a1 t1 N1 HR1
  obtain ⟨A5, c5, rfl⟩ : ∃ A' c', v1 = .slice A' E1.length c' := by
    rcases R6.out.row.2 with ⟨q1, q2⟩ | ⟨g5, cap5, cur5, q1, _⟩
    · exact ⟨none, 0, by rw [q1, q2]⟩
    · exact ⟨_, _, q1⟩
  obtain ⟨pl, hpl⟩ : ∃ pl, placeE E k = pl := ⟨_, rfl⟩
  rw [hpl] at HS
  rw [hpl]
  clear hpl
  obtain ⟨i0, hi0, hz0, hz1, hz2⟩ := info_parts infoRE
  have ho6 : w6.ownsRow b 67 40 (.slice A5 E1.length c5) E1.length (rowE E1) := R6.out.row
  have b6 : b ≤ w6.heap.size := Nat.le_trans hb K6.size
  obtain ⟨v7, w7, hrun7, hown7, hgrow7, -, ob7⟩ := run_append_own_at (P := Try.prog) ((w6.alloc (.cells (enC k a false) 67)).drew) b 60 60 67 i0 (.agg (enC key0 wdz false)) 40 72 Try.underlying60 hi0 hz0 hz1 hz2 (by kernel_rfl) (by decide) _ _ _
    (owns_mo ho6 ((Mor.out : Mo w6 (w6.alloc (.cells (enC k a false) 67))).trans Mor.out)) ⟨w6.heap.size, 0, none⟩ 1 1 (enC k a false).toList (by rw [Array.length_toList, Nat.one_mul]; exact en_size)
    (news_blk (t := 67) ⟨(blk_alloc' w6 (enC k a false) 67).out⟩) (one_list (cs := enC k a false) inferInstance) (by unfold maxLen; omega) (by omega) (by show b ≤ (w6.alloc (.cells (enC k a false) 67)).heap.size; rw [World.size_alloc]; omega)
  obtain ⟨A7, c7, rfl⟩ : ∃ A' c', v7 = .slice A' (E1.length + 1) c' := by
    rcases hown7.2 with ⟨q1, q2⟩ | ⟨g7, cap7, cur7, q1, _⟩
    · omega
    · exact ⟨_, _, q1⟩
  replace hrun7 : (appR #[60, 60] 60 #[.slice A5 E1.length c5, .slice (some ⟨w6.heap.size, 0, none⟩) 1 1]).run Try.prog _ = .ok (.slice A7 (E1.length + 1) c7) w7 := hrun7
  have t6 := R6.out.t
  have nt7 : some R ≠ (Value.slice A5 E1.length c5).ownBlock := own_ne t6 ho6 (by decide)
  have t7 : Blk w7 R 62 #[.int .i64 room, .slice A5 E1.length c5] := ⟨(hgrow7.block R (by show R < (w6.alloc (.cells (enC k a false) 67)).heap.size; rw [World.size_alloc]; have := t6.lt; omega) nt7).trans (show (w6.alloc (.cells (enC k a false) 67)).heap[R]? = _ from (Below.heap_alloc _ _ _ t6.lt).trans t6.out)⟩
  go_upto_region 4 with (fail)
  go_region
  go_upto_region 5 with (fail)
  refine wp_name ?_
  intro w8 hw8
  have K8 : KpS (fun i => i = R ∨ v.ownBlock = some i) W w8 := by
    rw [hw8]
    have g1 : KpS (fun i => i = R) W (w6.alloc (.cells (enC k a false) 67)).drew := (K6.trans (KpS.of_mo (S := fun i => i = R) ((Mor.out : Mo w6 (w6.alloc (.cells (enC k a false) 67))).trans Mor.out)) fun _ _ q => q)
    have g2 : KpS (fun q => (Value.slice A5 E1.length c5).ownBlock = some q) (w6.alloc (.cells (enC k a false) 67)).drew w7 := ⟨hgrow7.os, hgrow7.tape, hgrow7.output, hgrow7.size, fun q h1 h2 => hgrow7.block q h1 fun e => h2 e.symm⟩
    exact (KpS.trans (S := fun i => i = R ∨ v.ownBlock = some i) (KpS.mono g1 fun _ _ q => .inl q) g2 fun q h1 h2 => by
      rcases OV.out q h2 with h | h
      · exact .inr h
      · omega).cell (.inl rfl) 1 _
  have R8 : Hid (RefAt w8 R b room (E1 ++ [⟨k, a, false⟩]) (.slice A7 (E1 ++ [(⟨k, a, false⟩ : En)]).length c7)) := Lib.hid ⟨by rw [hw8, List.length_append]; exact blk_setCell t7 1 _, by
    rw [hw8, List.length_append, rowE_append]
    have e : rowE [(⟨k, a, false⟩ : En)] = (enC k a false).toList := by unfold rowE; simp
    rw [e]
    exact owns_set_ne hown7 (own_ne t7 hown7 (by decide)) 1 _, fun e he => by
    rcases List.mem_append.1 he with h | h
    · exact R6.out.ok e h
    · rw [List.mem_singleton] at h; rw [h]; exact ⟨hk, ha⟩⟩
  have OV7 : Hid (∀ q, (Value.slice A7 (E1 ++ [(⟨k, a, false⟩ : En)]).length c7).ownBlock = some q → v.ownBlock = some q ∨ W.heap.size ≤ q) := Lib.hid fun q e => by
    have e' : (Value.slice A7 (E1.length + 1) c7).ownBlock = some q := by rw [← e, List.length_append]; rfl
    rcases ob7 with o | o
    · exact OV.out q (by rw [← o]; exact e')
    · rw [o] at e'
      have h8 : (w6.alloc (.cells (enC k a false) 67)).drew.heap.size = q := by injection e'
      have : (w6.alloc (.cells (enC k a false) 67)).drew.heap.size = w6.heap.size + 1 := by show (w6.alloc _).heap.size = _; rw [World.size_alloc]
      have := K6.size
      omega
  clear hw8 hrun7 hown7 hgrow7 t7 ho6 t6 R6 K6 k6 a6 b6 ob7 nt7
  obtain ⟨n8, hn8⟩ : ∃ n, (E1 ++ [(⟨k, a, false⟩ : En)]).length = n := ⟨_, rfl⟩
  have NB : n8 ≤ 65537 := by rw [← hn8, List.length_append]; simp only [List.length_cons, List.length_nil]; omega
  rw [show E1.length + 1 = n8 by rw [← hn8, List.length_append]; rfl]
  rw [hn8] at R8 OV7
  have t8 := R8.out.t
  by_cases cr : (n8 : Int) ≤ room
  · have dr : decide ((n8 : Int) ≤ room) = true := decide_eq_true cr
    have AE := Lib.hid (ask_le (E := E) (k := k) (a := a) (X := E1 ++ [(⟨k, a, false⟩ : En)]) (room := room) (by rw [HE1.out]) (by rw [hn8]; exact cr))
    go_region
    go_wp2_with fail
    try go_ret2
    rw [← RR.out]
    refine ⟨_, _, by rw [← HS.out]; rfl, ?_, K8.drew, fun q h => OV7.out q h, by rw [AE.out]; exact rfl⟩
    rw [AE.out]
    exact ⟨⟨t8.out⟩, owns_mo R8.out.row (Mor.out : Mo w8 w8.drew), R8.out.ok⟩
  · have dr : decide ((n8 : Int) ≤ room) = false := decide_eq_false cr
    obtain ⟨E2, hE2⟩ : ∃ E2, E1 ++ [(⟨k, a, false⟩ : En)] = E2 := ⟨_, rfl⟩
    rw [hE2] at R8 hn8
    obtain ⟨x2, X2, hX2⟩ : ∃ x X, E2 = x :: X := by
      cases hh : E2 with
      | nil => rw [hh] at hE2; simp at hE2
      | cons x X => exact ⟨x, X, rfl⟩
    have AE := Lib.hid (ask_gt (E := E) (k := k) (a := a) (room := room) (x := x2) (X := X2) (by rw [HE1.out, ← hX2]; exact hE2.symm) (by rw [← hX2, hn8]; exact cr))
    have HX2 := Lib.hid hX2
    clear hX2 hE2
    have n1 : 0 < n8 := by rw [← hn8, HX2.out]; exact Nat.succ_pos _
    obtain ⟨g7, c7', e7, hbg7, hcell7⟩ := own_cells' R8.out.row R8.out.ok (by omega)
    rw [hn8] at e7
    injection e7 with e7 e8 e9
    subst e7 e9
    have hc7 : n8 ≤ c7 := by
      rcases R8.out.row.2 with ⟨q, _⟩ | ⟨g', cap, cur, q, _, _, h3, _⟩
      · cases q
      · injection q with q1 q2 q3
        subst q3
        rw [hn8] at h3
        exact h3
    have s3 : ∀ w : World, (Instr.sliceAt 60 (.slice (some ⟨g7, 0, none⟩) n8 c7) none (some (.int .i64 1)) none).run Try.prog w = .ok (.slice (some ⟨g7, 0, none⟩) 1 c7) w := fun w => by
      rw [run_sliceAt_slice w 60 _ _ _ _ Try.underlying60, run_slice_h w 60 (some ⟨g7, 0, none⟩) n8 c7 Try.underlying60 .i64 1 (by omega) (by omega), sizeRE]
      show Result.ok (sliced _ 0 1 c7 40) w = _
      unfold sliced
      rw [if_neg (by omega), Nat.sub_zero, Nat.sub_zero]
      rfl
    go_region
    go_upto_region 8 with (fail)
    refine wp_name ?_
    intro w9 hw9
    have R9 : Hid (RefAt w9 R b room E2 (.slice (some ⟨g7, 0, none⟩) n8 c7)) := Lib.hid (by rw [hw9]; exact ⟨⟨t8.out⟩, owns_mo R8.out.row (Mor.out : Mo w8 w8.drew), R8.out.ok⟩)
    have K9 : KpS (fun i => i = R ∨ v.ownBlock = some i) W w9 := by rw [hw9]; exact K8.drew
    clear hw9 t8 s3 hcell7 R8 K8
    have t9 := R9.out.t
    obtain ⟨cur9, hg9, h96⟩ : ∃ cur, w9.heap[g7]? = some (.cells cur 67) ∧ cur.toList.take (n8 * 40) = rowE E2 := by
      rcases R9.out.row.2 with ⟨q, _⟩ | ⟨g', cap, cur, q, _, hg, _, _, _, h6⟩
      · cases q
      · injection q with q1 q2 q3
        injection q1 with q1
        injection q1 with q1
        subst q1
        rw [hn8] at h6
        exact ⟨cur, hg, h6⟩
    obtain ⟨o4, s4, ho4⟩ : ∃ o4, (∀ w : World, (Instr.sliceAt 60 (.slice (some ⟨g7, 0, none⟩) n8 c7) (some (.int .i64 1)) none none).run Try.prog w = .ok (.slice (some ⟨g7, o4, none⟩) (n8 - 1) (c7 - 1)) w) ∧ (0 < n8 - 1 → o4 = 40) := by
      have q : ∀ w : World, (Instr.sliceAt 60 (.slice (some ⟨g7, 0, none⟩) n8 c7) (some (.int .i64 1)) none none).run Try.prog w = .ok (sliced (some ⟨g7, 0, none⟩) 1 n8 c7 40) w := fun w => by
        have := run_slice_l (P := Try.prog) w 60 (some ⟨g7, 0, none⟩) n8 c7 Try.underlying60 .i64 1 (by omega) (by omega)
        rw [sizeRE] at this
        rw [run_sliceAt_slice w 60 _ _ _ _ Try.underlying60]
        exact this
      unfold sliced at q
      by_cases cc : c7 = 1
      · rw [if_pos cc] at q
        exact ⟨0, q, fun h => by omega⟩
      · rw [if_neg cc] at q
        refine ⟨40, fun w => (q w).trans ?_, fun _ => rfl⟩
        rw [show Option.map (fun x : Addr => x.add (1 * 40)) (some ⟨g7, 0, none⟩) = some ⟨g7, 40, none⟩ by rw [Option.map_some, Go.WideShapes.add_plain]]
    have hb9 : Blk w9 g7 67 cur9 := ⟨hg9⟩
    have ok2 : ∀ e ∈ E2.drop 1, EnOk e := fun e he => R9.out.ok e (List.mem_of_mem_drop he)
    have l2 : (rowE E2).length = n8 * 40 := by rw [rowE_len R9.out.ok, hn8]
    have d2 : rowE (E2.drop 1) = (rowE E2).drop 40 := by
      rcases E2 with _ | ⟨x, X⟩
      · rfl
      · have e1 : rowE (x :: X) = (enC x.k x.a x.d).toList ++ rowE X := by unfold rowE; rw [List.flatMap_cons]
        rw [e1, List.drop_left' (en_len (R9.out.ok x List.mem_cons_self))]
        rfl
    have bW9 : b ≤ w9.heap.size := Nat.le_trans hbg7 (Nat.le_of_lt hb9.lt)
    have one2 : ∀ u ∈ rowE (E2.drop 1), u.oneCell' = true := fun u hu => by
      unfold rowE at hu
      obtain ⟨e, he, hu⟩ := List.mem_flatMap.1 hu
      have y1 := one_of_fits (ok2 e he).k
      have y2 := one_of_fits (ok2 e he).a
      exact one_list (cs := enC e.k e.a e.d) inferInstance u hu
    have BW9 : b ≤ (w9.alloc (.cells #[] 67)).heap.size := Nat.le_trans bW9 (by show _ ≤ (w9.alloc (.cells #[] 67)).heap.size; rw [World.size_alloc]; exact Nat.le_succ _)
    obtain ⟨vA, wA, hrunA, hownA, hgrowA, -, obA⟩ := run_append_own_at (P := Try.prog) (w9.alloc (.cells #[] 67)) b 60 60 67 i0 (.agg (enC key0 wdz false)) 40 72 Try.underlying60 hi0 hz0 hz1 hz2 (by kernel_rfl) (by decide) _ _ _
      (World.ownsRow_made w9 #[] 0 bW9 (Nat.zero_le _) rfl) ⟨g7, o4, none⟩ (n8 - 1) (c7 - 1) (rowE (E2.drop 1)) (by rw [rowE_len ok2, List.length_drop, hn8])
      (fun j u hu => by
        have hj := (List.getElem?_eq_some_iff.1 hu).1
        rw [rowE_len ok2, List.length_drop, hn8] at hj
        rw [Go.WideShapes.add_plain, blk_cell (w := w9.alloc (.cells #[] 67)) (cs := cur9) (t := 67) ⟨(inferInstance : Blk (w9.alloc (.cells #[] 67)) g7 67 cur9).out⟩, ho4 (by omega)]
        rw [d2, List.getElem?_drop, ← h96, List.getElem?_take_of_lt (by omega), Array.getElem?_toList] at hu
        exact hu)
      one2 (by unfold maxLen; omega) (by omega) BW9
    obtain ⟨AA, cA, rfl⟩ : ∃ A' c', vA = .slice A' (n8 - 1) c' := by
      rw [Nat.zero_add] at hownA
      rcases hownA.2 with ⟨q1, q2⟩ | ⟨gA, capA, curA, q1, _⟩
      · exact ⟨none, 0, by rw [q1, q2]⟩
      · exact ⟨_, _, q1⟩
    replace hrunA : (appR #[60, 60] 60 #[.slice (some ⟨w9.heap.size, 0, none⟩) 0 0, .slice (some ⟨g7, o4, none⟩) (n8 - 1) (c7 - 1)]).run Try.prog (w9.alloc (.cells #[] 67)) = .ok (.slice AA (n8 - 1) cA) wA := hrunA
    have szA : (w9.alloc (.cells #[] 67)).heap.size = w9.heap.size + 1 := by show (w9.alloc (.cells #[] 67)).heap.size = _; rw [World.size_alloc]
    have KA : ∀ q, q < w9.heap.size → wA.heap[q]? = w9.heap[q]? := fun q hq => by
      rw [hgrowA.block q (by omega) (fun e => (Nat.ne_of_lt hq) (by simpa [Value.ownBlock] using e))]
      exact Below.heap_alloc _ _ _ hq
    have tA : Blk wA R 62 #[.int .i64 room, .slice (some ⟨g7, 0, none⟩) n8 c7] := ⟨(KA R t9.lt).trans t9.out⟩
    clear hb9
    have w91 : w9.heap.size + 1 ≤ wA.heap.size := by have := hgrowA.size; omega
    have cX : ∀ j u, (enC x2.k x2.a x2.d).toList[j]? = some u → cur9[j]? = some u := fun j u hu => by
      have hj : j < 40 := by
        have := (List.getElem?_eq_some_iff.1 hu).1
        rwa [en_len (R9.out.ok x2 (by rw [HX2.out]; exact List.mem_cons_self))] at this
      have e1 : rowE E2 = (enC x2.k x2.a x2.d).toList ++ rowE X2 := by rw [HX2.out]; unfold rowE; rw [List.flatMap_cons]
      have h1 : (rowE E2)[j]? = some u := by rw [e1, List.getElem?_append_left (List.getElem?_eq_some_iff.1 hu).1]; exact hu
      rw [← h96, List.getElem?_take_of_lt (by omega), Array.getElem?_toList] at h1
      exact h1
    have CX := Lib.hid cX
    have hgR : g7 ≠ R := fun e => by
      have h1 := hg9
      rw [e, t9.out] at h1
      injection h1 with h1
      injection h1 with _ h1
      exact absurd h1 (by decide)
    have gA9 : wA.heap[g7]? = w9.heap[g7]? := KA g7 (Array.getElem?_eq_some_iff.1 hg9).1
    have OWN := Lib.hid hownA
    have E2D : Hid (E2.drop 1 = X2) := Lib.hid (by rw [HX2.out]; rfl)
    have l3 : X2.length = n8 - 1 := by rw [← hn8, HX2.out, List.length_cons]; omega
    clear cX d2 ok2 one2 hownA h96
    go_wp2_with fail
    try go_ret2
    rw [← RR.out]
    have RF : RefAt (wA.setCell ⟨R, 1, none⟩ (.slice AA (n8 - 1) cA)) R b room X2 (.slice AA (n8 - 1) cA) := ⟨blk_setCell tA 1 _, by
      have := OWN.out
      rw [List.nil_append, E2D.out, Nat.zero_add] at this
      rw [l3]
      exact owns_set_ne this (own_ne tA this (by decide)) 1 _, fun e he => R9.out.ok e (by rw [HX2.out]; exact List.mem_cons_of_mem _ he)⟩
    have LC : ∀ j u, (enC x2.k x2.a x2.d).toList[j]? = some u → (wA.setCell ⟨R, 1, none⟩ (.slice AA (n8 - 1) cA)).cell? ⟨g7, j, none⟩ = some u := fun j u hu => by
      have hbA : Blk (wA.setCell ⟨R, 1, none⟩ (.slice AA (n8 - 1) cA)) g7 67 cur9 := blk_setCell_ne ⟨gA9.trans hg9⟩ (Ne.symm hgR) 1 _
      rw [blk_cell hbA]
      exact CX.out j u hu
    refine ⟨_, _, by rw [← HS.out], by rw [AE.out]; exact RF, ?_, fun q h => .inr ?_, by rw [AE.out]; exact ⟨g7, c7, rfl, LC⟩⟩
    · have g1 : KpS (fun i => i = R ∨ v.ownBlock = some i) W (w9.alloc (.cells #[] 67)) := KpS.trans (S' := fun _ => False) K9 (KpS.of_mo Mor.out) fun _ _ q => q.elim
      have g2 : KpS (fun q => q = w9.heap.size) (w9.alloc (.cells #[] 67)) wA := ⟨hgrowA.os, hgrowA.tape, hgrowA.output, hgrowA.size, fun q h1 h2 => hgrowA.block q h1 fun e => h2 (by simpa [Value.ownBlock] using e)⟩
      exact (KpS.trans g1 g2 fun q h1 h2 => by have := K9.size; omega).cell (.inl rfl) 1 _
    · have K9s := K9.size
      rcases obA with o | o
      · rw [o] at h
        simp [Value.ownBlock] at h
        omega
      · rw [o] at h
        have h8 : (w9.alloc (.cells #[] 67)).heap.size = q := by injection h
        omega
end Go.Proofs.Ytlbkcjpnlnlmiaa
