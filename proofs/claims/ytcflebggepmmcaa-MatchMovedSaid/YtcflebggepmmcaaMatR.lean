/- match.Run: all samples and counts at once. -/
import Derived.Test.YtcflebggepmmcaaMatX
import Derived.Test.YtcflebggepmmcaaPendY
import Derived.Great.BuildSlice
namespace Go.Proofs.Ytcflebggepmmcaa
open Go.RowKit

/-- the samples of the first datagrams -/
noncomputable def runS (win room : Int) (l : List Dg) : Nat → List (Array Value)
  | 0 => []
  | n + 1 => match l[n]? with
    | none => runS win room l n
    | some d => if clsM win (playM room l n) d = 4 then runS win room l n ++ [smM win (playM room l n) d] else runS win room l n
/-- the counts behind the first datagrams -/
noncomputable def runC (win room : Int) (l : List Dg) : Nat → Nat → Int
  | 0 => fun _ => 0
  | n + 1 => match l[n]? with
    | none => runC win room l n
    | some d => upC (runC win room l n) (clsM win (playM room l n) d)
set_option maxRecDepth 20000 in
theorem runS_succ (win room : Int) (l : List Dg) (n : Nat) (h : n < l.length) : runS win room l (n + 1) = if clsM win (playM room l n) l[n] = 4 then runS win room l n ++ [smM win (playM room l n) l[n]] else runS win room l n := by
  rw [runS, List.getElem?_eq_getElem h]
set_option maxRecDepth 20000 in
theorem runC_succ (win room : Int) (l : List Dg) (n : Nat) (h : n < l.length) : runC win room l (n + 1) = upC (runC win room l n) (clsM win (playM room l n) l[n]) := by
  rw [runC, List.getElem?_eq_getElem h]
set_option maxRecDepth 20000 in
theorem runC_bd (win room : Int) (l : List Dg) : ∀ n i, 0 ≤ runC win room l n i ∧ runC win room l n i ≤ n
  | 0, i => by simp [runC]
  | n + 1, i => by
    have ih := runC_bd win room l n
    rw [runC]
    cases l[n]? with
    | none => have := ih i; simp only; omega
    | some d => have := upC_bd ih (clsM win (playM room l n) d) i; simp only; omega
set_option maxRecDepth 20000 in
theorem runS_len (win room : Int) (l : List Dg) : ∀ n, (runS win room l n).length ≤ n
  | 0 => by simp [runS]
  | n + 1 => by
    have ih := runS_len win room l n
    rw [runS]
    split
    · omega
    · split
      · rw [List.length_append, List.length_singleton]; omega
      · omega
def rowS (S : List (Array Value)) : List Value := S.flatMap (·.toList)
set_option maxRecDepth 20000 in
theorem rowS_append (A B : List (Array Value)) : rowS (A ++ B) = rowS A ++ rowS B := by unfold rowS; rw [List.flatMap_append]
set_option maxRecDepth 20000 in
theorem rowS_one (a : Array Value) : rowS [a] = a.toList := by unfold rowS; simp
def buildSM (n : Nat) (l : Array (Nat × Value)) : Sem Value := Instr.buildSlice 54 n l
set_option maxRecDepth 20000 in
theorem buildSM_fold (n : Nat) (l : Array (Nat × Value)) : Instr.buildSlice 54 n l = buildSM n l := rfl
set_option maxRecDepth 20000 in
theorem foldl_splice1 (off : Nat) : ∀ (v : List Value) (k : Nat) (cs : Array Value), off + k + v.length ≤ cs.size → ((v.zipIdx k).foldl (fun (cs : Array Value) (p : Value × Nat) => cs.setIfInBounds (off + p.2) p.1) cs).toList = spliceL cs.toList (off + k) v
  | [], k, cs, _ => by unfold spliceL; simp
  | x :: v, k, cs, h => by
    rw [List.length_cons] at h
    rw [List.zipIdx_cons, List.foldl_cons, foldl_splice1 off v (k + 1) _ (by simp; omega), Array.toList_setIfInBounds, show off + (k + 1) = off + k + 1 by omega, spliceL_cons _ _ _ _ (by simp; omega)]
set_option maxRecDepth 20000 in
theorem infoSm : (Try.prog.info? 45).map (fun i => (i.zero, i.size, i.bytes)) = some (some (.agg sm0), 48, 136) := by kernel_rfl
set_option maxRecDepth 20000 in
theorem run_buildSM (c : Array Value) [hc : SzA c 48] (w : World) : (buildSM 1 #[(0, .agg c)]).run Try.prog w = .ok (.slice (some ⟨w.heap.size, 0, none⟩) 1 1) (w.alloc (.cells c 45)) := by
  obtain ⟨i0, hi, hz0, hz1, hz2⟩ := info_parts infoSm
  have h0 := hc.out
  refine run_buildSlice w _ _ 1 _ _ i0 (.agg sm0) Try.underlying54 hi hz0 (by rw [hz1]; decide) (by rw [hz1]; decide) ?_
  rw [hz1]
  show Instr.fill (fun i => some (i * 48, 48)) _ [(0, .agg c)] = _
  unfold Instr.fill
  have e1 : (Value.agg c).cells = c := rfl
  simp only [e1]
  rw [if_neg (by simp [h0])]
  unfold Instr.fill
  congr 1
  apply Array.toList_inj.1
  rw [← Array.foldl_toList, Array.toList_zipIdx, foldl_splice1 (0 * 48) c.toList 0 _ (by simp [h0])]
  unfold spliceL
  simp [h0]
/-- no block of a type's cells -/
def NoTy (t : TypeId) (W : World) (i : Nat) : Prop := ∀ cs f, W.heap[i]? ≠ some (.cells cs t f)
set_option maxRecDepth 20000 in
theorem TabE.noTy {W : World} {T B : Nat} {room : Int} {E : List En} {P : Nat → Prop} (h : TabE W T B room E P) : TabE W T B room E (fun i => P i ∧ NoTy 45 W i) := by
  obtain ⟨L, h1, h2, h3⟩ := h
  refine ⟨L, h1, h2, fun i hf => ⟨h3 i hf, fun cs f e => ?_⟩⟩
  rcases hf with rfl | rfl | ⟨q, hq, rfl⟩
  · rw [h1.t.out] at e
    injection e with e
    injection e with _ e2 _
    exact absurd e2 (by decide)
  · obtain ⟨_, _, hb⟩ := h1.map.isMap
    rw [hb] at e; cases e
  · obtain ⟨o, x, b⟩ := seg_blk h1.seg q hq
    rw [b.out] at e
    injection e with e
    injection e with _ e2 _
    exact absurd e2 (by decide)
set_option maxRecDepth 20000 in
theorem owns_base' {w : World} {b b' : Nat} {e : TypeId} {size : Nat} {v : Value} {n : Nat} {xs : List Value} (h : w.ownsRow b e size v n xs) (hb : b' ≤ b) : w.ownsRow b' e size v n xs := by
  refine ⟨h.1, ?_⟩
  rcases h.2 with hn | ⟨g, cap, cur, rfl, h2, rest⟩
  · exact .inl hn
  · exact .inr ⟨g, cap, cur, rfl, Nat.le_trans hb h2, rest⟩
set_option maxRecDepth 20000 in
theorem owns_kps {S : Nat → Prop} {w w' : World} {base : Nat} {e : TypeId} {size : Nat} {v : Value} {n : Nat} {xs : List Value} (h : w.ownsRow base e size v n xs) (k : KpS S w w') (s : ∀ g, v.ownBlock = some g → ¬ S g) : w'.ownsRow base e size v n xs := by
  refine ⟨h.1, ?_⟩
  rcases h.2 with hn | ⟨g, cap, cur, rfl, hb, hg, rest⟩
  · exact .inl hn
  · exact .inr ⟨g, cap, cur, rfl, hb, (k.block g (Array.getElem?_eq_some_iff.1 hg).1 (s g rfl)).trans hg, rest⟩
attribute [local go_sem] blk_cell' blk_frozen'
attribute [local go_sem ↓] loadF_dg storeF_dg' loadF_cnt storeF_cnt loadF_samp storeF_samp buildSM_fold
attribute [local go_sem] run_loadF0 run_storeF0 run_buildSM
set_option maxRecDepth 20000 in
theorem mcounts_any (M T B : Nat) (room win : Int) (c : Nat → Int) (E : List En) (P : Nat → Prop) (W : World) (h : MatV W M T B room win c E P) :
    Calls Try.prog 17 #[ptr M] W fun e w' => e = .returned (.agg (cnC c)) ∧ Mo W w' := by
  have hm := h.m
  have lc : (loadF 29 (.pointer (some ⟨M, 2, none⟩))).run Try.prog (W.alloc (.cells cn0 29)) = .ok (.agg (cnC c)) (W.alloc (.cells cn0 29)) := by
    have := run_loadFo 29 9 (W.alloc (.cells cn0 29)) M 2 86 (mtC T win c) 11 (by omega) (by omega)
    rw [this]
    congr 1
  go_enter Try.func17, Try.ntmps17
  go_wp2_with fail
  refine ret_c1 rfl W.heap.size (cnC c) rfl rfl (z := ⟨rfl⟩) ?_ ⟨rfl, ?_⟩
  · first | infer_instance | exact blk_setRow inferInstance
  · first | exact Mor.out | exact mo_setRow Mor.out (Nat.le_refl _) _
set_option maxRecDepth 20000 in
set_option maxHeartbeats 16000000 in
theorem mrun_in (A : Option Addr) (cap L : Nat) (l : List Dg) (k win : Int) (W : World) (hL : l.length = L) (h : DgsS W A cap l) (hm : L ≤ 1000) (ck : 1 ≤ k ∧ k ≤ 65536) (cw : 0 ≤ win ∧ win ≤ 1152921504606846976) :
    Calls Try.prog 18 #[.slice A L cap, .int .i64 k, .int .i64 win] W fun e w' => ∃ v, e = .returned (.tuple #[v, .agg (cnC (runC win k l L)), .int .i64 0]) ∧ w'.ownsRow W.heap.size 45 48 v (runS win k l L).length (rowS (runS win k l L)) ∧ Mo W w' := by
  obtain ⟨i0, hi, hz0, hz1, hz2⟩ := info_parts infoSm
  have HD := Lib.hid h
  have HL := Lib.hid hL
  clear h hL
  go_enter Try.func18, Try.ntmps18
  go_wp2_with fail
  refine (mnew_in k win ck cw _).mono ?_
  rintro e w2 ⟨M, T, B, rfl, V2, lM, M2⟩
  have b7 : Blk w2 W.heap.size 29 cn0 := M2.blk inferInstance
  have N2 : Mo W w2 := Mo.trans Mor.out M2
  have lM' : W.heap.size < M := Nat.lt_of_lt_of_le (by simp) lM
  have V2' := Lib.hid (show MatV w2 M T B k win (fun _ => 0) [] (fun i => W.heap.size < i ∧ i ≠ M) from ⟨V2.m, V2.t.weak fun i _ q => ⟨Nat.lt_of_lt_of_le (by simp) q.1, q.2⟩, fun q => q.2 rfl⟩)
  clear V2 M2 lM
  go_wp2_with fail
  have lM2 : M < w2.heap.size := V2'.out.m.lt
  go_loopw [11, 31] (fun v i wr => ∃ j : Nat, j ≤ L ∧ i = .int .i64 j ∧ Mo W wr ∧ w2.heap.size ≤ wr.heap.size ∧ wr.ownsRow w2.heap.size 45 48 v (runS win k l j).length (rowS (runS win k l j)) ∧ Blk wr W.heap.size 29 cn0 ∧ MatV wr M T B k win (runC win k l j) (playM k l j) (fun i => W.heap.size < i ∧ i ≠ M ∧ v.ownBlock ≠ some i)) (fun _ i _ => L - (intOf i).toNat)
  case atStart =>
    refine ⟨0, by omega, rfl, N2, Nat.le_refl _, World.ownsRow_nil _ _ _ _, b7, V2'.out.m, V2'.out.t.weak fun i _ q => ⟨q.1, q.2, by simp [Value.ownBlock]⟩, fun q => q.2.1 rfl⟩
  case round =>
    obtain ⟨j, hj, rfl, hM, hsz, hO, hb7, hV⟩ := hrel
    have HO := Lib.hid hO
    have HV := Lib.hid hV
    clear hO hV
    by_cases cj : j < L
    · have hjl : j < l.length := by rw [HL.out]; exact cj
      obtain ⟨g, off, B1, bc, rfl, ld, hb⟩ := (HD.out.mo hM).get j hjl
      have XO := HD.out.ok _ (List.getElem_mem hjl)
      have i0' : (0 : Int) ≤ j := by omega
      have i1 : (j : Int) < L := by omega
      have za := sz_wide XO.at_
      have zs := sz_ends XO.src
      have zt := sz_ends XO.dst
      have oa := one_of_fits XO.at_
      have os := one_of_fits XO.src
      have ot := one_of_fits XO.dst
      have PL := playM_len (room := k) (by omega) l j
      have PE := playM_succ k l j hjl
      have RC := runC_succ win k l j hjl
      have RS := runS_succ win k l j hjl
      have RB := runC_bd win k l j
      have RL := runS_len win k l j
      have TK := Lib.hid (fun w (m : Mo wr w) => mtake_any M T B k win (runC win k l j) (playM k l j) _ l[j] _ w (HV.out.mo m) ⟨B1, bc, rfl, hb.mo m⟩ XO (by omega) (fun i => by have := RB i; omega) (by omega) (by omega))
      rw [← PE, ← RC] at TK
      have zq : SzA (smM win (playM k l j) l[j]) 48 := smM_sz XO
      have oq : OneA (smM win (playM k l j) l[j]) := smM_one XO
      generalize smM win (playM k l j) l[j] = SM at *
      generalize clsM win (playM k l j) l[j] = q at *
      generalize l[j].at_ = da at *
      generalize l[j].src = ds at *
      generalize l[j].dst = dd at *
      generalize l[j].bs.length = n at *
      have hw : IntKind.i64.wrap ((j : Int) + 1) = j + 1 := by rw [IntKind.wrap_i64]; omega
      have HRS := Lib.hid RS
      clear hjl XO PE hb RC RS RB PL
      go_wp2_with fail
      refine (TK.out _ Mor.out).mono ?_
      rintro e w5 ⟨rfl, V5, K5⟩
      have lr := hsz
      have hOl := fun g e => HO.out.lt g e
      have N5 : Mo W w5 := K5.mo (hM.trans Mor.out) fun i _ s => by
        rcases s with s | rfl
        · omega
        · omega
      have c7 := K5.blk (inferInstance : Blk _ W.heap.size _ cn0) (fun s => by rcases s with s | s <;> omega)
      have O5 := Lib.hid (owns_kps (owns_mo HO.out (Mor.out : Mo wr _)) K5 fun g e s => by
        have := (hOl g e).1
        rcases s with s | s
        · exact s.2.2 e
        · omega)
      have s5 : wr.heap.size < w5.heap.size := Nat.lt_of_lt_of_le (by simp) K5.size
      have V5' := Lib.hid (show MatV w5 M T B k win (runC win k l (j + 1)) (playM k l (j + 1)) (fun i => W.heap.size < i ∧ i ≠ M ∧ u11.ownBlock ≠ some i) from ⟨V5.m, V5.t.weak fun i _ p => by
        rcases p with p | p
        · exact p
        · have h1 : wr.heap.size + 1 ≤ i := by simpa using p
          have h2 := hM.size
          exact ⟨by omega, by omega, fun e => by have := (hOl i e).2; omega⟩, fun q => q.2.1 rfl⟩)
      clear V5 K5 TK ld hb7
      by_cases c4 : q = 4
      · subst c4
        have RS4 := HRS.out
        rw [if_pos rfl] at RS4
        have HRS4 := Lib.hid RS4
        clear RS4 HRS
        have LL : (runS win k l j).length ≤ 1000 := by omega
        go_wp2_with (at_builtin; refine wpList_append_own _ rfl _ _ 54 rfl w2.heap.size 45 i0 (.agg sm0) 48 136 Try.underlying54 hi hz0 hz1 hz2 (by kernel_rfl) (by decide) _ _ _ rfl (owns_mo O5.out (Mor.out : Mo w5 _)) ⟨w5.heap.size + 1, 0, none⟩ 1 1 SM.toList rfl ?c1 ?c2 ?c3 ?c4 ?c5 ?c6 ?_)
        case c1 => rw [Array.length_toList, zq.out]
        case c2 =>
          intro jj u hu
          have ea : (⟨w5.heap.size + 1, 0, none⟩ : Addr).add jj = ⟨w5.heap.size + 1, jj, none⟩ := by
            unfold Addr.add
            split
            · rename_i e; rw [e]
            · rw [Nat.zero_add]
          rw [ea, blk_cell (inferInstance : Blk _ (w5.heap.size + 1) 45 SM), ← Array.getElem?_toList]
          exact hu
        case c3 => exact fun u hu => one_list (cs := SM) inferInstance u hu
        case c4 => unfold maxLen; omega
        case c5 => omega
        case c6 => exact Nat.le_trans (Nat.le_trans lr (Nat.le_of_lt s5)) (Mo.size Mor.out)
        intro v' w7 hown1 hgrow hq7
        have hX : Mo w5 _ := (Mor.out : Mo w5 ((w5.alloc (.cells SM 45)).alloc (.cells SM 45)))
        have hOg : ∀ k, u11.ownBlock = some k → w2.heap.size ≤ k ∧ k < wr.heap.size := hOl
        have M7 : Mo W w7 := mo_grown (N5.trans hX) hgrow (fun k e => by have := (hOg k e).1; omega)
        have c77 : Blk w7 W.heap.size 29 cn0 := ⟨(hgrow.block W.heap.size (by have := (hX.blk c7).lt; omega) (fun e => by have := (hOg _ e.symm).1; omega)).trans (hX.blk c7).out⟩
        have HO7 := Lib.hid (show w7.ownsRow w2.heap.size 45 48 v' (runS win k l (j + 1)).length (rowS (runS win k l (j + 1))) by rw [HRS4.out, List.length_append, rowS_append, rowS_one]; exact hown1)
        have V7 := Lib.hid (show MatV w7 M T B k win (runC win k l (j + 1)) (playM k l (j + 1)) (fun i => W.heap.size < i ∧ i ≠ M ∧ v'.ownBlock ≠ some i) from ⟨⟨(hgrow.block M (by have := (hX.blk V5'.out.m).lt; omega) (fun e => by have := (hOg _ e.symm).1; omega)).trans (hX.blk V5'.out.m).out⟩,
          (((V5'.out.t.mo hX).keep fun i hi hp => hgrow.block i hi fun e => hp.2.2 e.symm).noTy).weak fun i _ q => ⟨q.1.1, q.1.2.1, fun e => by
            rcases hown1.2 with ⟨h1, _⟩ | ⟨g', cap', cur', rfl, _, hg', _⟩
            · rw [h1] at e; simp [Value.ownBlock] at e
            · have e' : g' = i := by simpa [Value.ownBlock] using e
              subst e'
              exact q.2 _ _ hg'⟩, fun q => q.2.1 rfl⟩)
        have s7 : w2.heap.size ≤ w7.heap.size := Nat.le_trans (Nat.le_trans lr (Nat.le_of_lt s5)) (Nat.le_trans hX.size hgrow.size)
        clear hown1 hgrow hq7 hX hOg hOl V5' O5 c7 N5 HO HV
        go_wp2_with fail
        go_roundw
        case rel => exact ⟨j + 1, by omega, by go_num, M7.trans Mor.out, Nat.le_trans s7 (Mo.size Mor.out), owns_mo HO7.out Mor.out, inferInstance, V7.out.mo Mor.out⟩
        case measure => simp [intOf]; omega
      · have d4 : (q == 4) = false := by simp [c4]
        have RS4 := HRS.out
        rw [if_neg c4] at RS4
        have HRS4 := Lib.hid RS4
        clear RS4 HRS c4
        go_wp2_with fail
        go_roundw
        case rel => exact ⟨j + 1, by omega, by go_num, N5.trans Mor.out, Nat.le_trans (by omega) (Mo.size (Mor.out : Mo w5 _)), HRS4.out ▸ owns_mo O5.out Mor.out, inferInstance, V5'.out.mo Mor.out⟩
        case measure => simp [intOf]; omega
    · have ej : j = L := by omega
      subst ej
      go_wp2_with fail
      refine (mcounts_any M T B k win _ _ _ _ HV.out).mono ?_
      rintro e w5 ⟨rfl, M5⟩
      have c7 := M5.blk hb7
      go_wp2_with fail
      refine ret_tct rfl W.heap.size (cnC (runC win k l j)) rfl rfl (z := ⟨rfl⟩) (blk_setRow c7) ⟨_, rfl, ?_, mo_setRow (hM.trans M5) (Nat.le_refl _) _⟩
      exact owns_kps (owns_base' (owns_mo HO.out M5) N2.size) (kpS_setRow (S := fun i => i = W.heap.size) _ _ _ rfl) fun g e s => by have h1 := (HO.out.lt g e).1; have h2 := V2'.out.m.lt; omega
end Go.Proofs.Ytcflebggepmmcaa
