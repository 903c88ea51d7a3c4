/- pend.cut: the walk (printed by gen/genpendc.py). -/
import Derived.Test.YtlbkcjpnlnlmiaaPendB
namespace Go.Proofs.Ytlbkcjpnlnlmiaa
open Go.RowKit Go.Maps

def CutRet (T B : Nat) (room : Int) (A : List (Nat × En)) (g : Nat) (e : En) (C : List (Nat × En)) (W : World) (r : Ending) (w' : World) : Prop :=
  r = .returned (.tuple #[]) ∧ TabAt w' T B room (A ++ C) ∧ (∃ o x, Blk w' g 80 (ndE e o x)) ∧ KpS (Foot T B (A ++ (g, e) :: C)) W w'
set_option maxRecDepth 20000 in
theorem KpS.drew {S : Nat → Prop} {w w' : World} (h : KpS S w w') : KpS S w w'.drew := ⟨h.os, h.tape, h.output, h.size, h.block⟩
set_option maxRecDepth 20000 in
theorem mem_adr {q : Nat × En} {L : List (Nat × En)} (h : q ∈ L) : q.1 ∈ L.map (fun x => x.1) := List.mem_map.2 ⟨q, h, rfl⟩
set_option maxRecDepth 20000 in
theorem cut_fin {W w2 w3 : World} {T B g : Nat} {room : Int} {A C : List (Nat × En)} {e : En} {o x : Value} (h : TabAt W T B room (A ++ (g, e) :: C))
    (bt : Blk w2 T 75 #[.int .i64 room, .map (some B), firstP (A ++ C) nilp, lastP nilp (A ++ C)]) (seg : Seg w2 nilp (A ++ C) nilp) (bg : Blk w2 g 80 (ndE e o x)) (kp : KpS (Foot T B (A ++ (g, e) :: C)) W w2)
    (mp : MapIs w3 B (A ++ C)) (tn : w2.mapTurned w3 B) :
    TabAt w3 T B room (A ++ C) ∧ (∃ o x, Blk w3 g 80 (ndE e o x)) ∧ KpS (Foot T B (A ++ (g, e) :: C)) W w3 := by
  have gr := tn.grown
  have hk2 : ∀ k, k < w2.heap.size → k ≠ B → w3.heap[k]? = w2.heap[k]? := fun k hk n => gr.block k hk (fun e => n (by injection e))
  have nTB := h.nTB
  have nB := h.nB
  have sub : ∀ q ∈ A ++ C, q ∈ A ++ (g, e) :: C := fun q hq => by
    rcases List.mem_append.1 hq with k | k
    · exact List.mem_append_left _ k
    · exact List.mem_append_right _ (List.mem_cons_of_mem _ k)
  have sl : (A ++ C).Sublist (A ++ (g, e) :: C) := List.Sublist.append (List.Sublist.refl _) (List.sublist_cons_self _ _)
  refine ⟨⟨⟨(hk2 T bt.lt nTB).trans bt.out⟩, seg_keep seg fun q hq => hk2 _ (seg_lt seg q hq) (nB q (sub q hq)), h.nod.sublist (sl.map _), fun q hq => h.nT q (sub q hq), mp, h.keys.sublist (sl.map _), fun q hq => h.ok q (sub q hq)⟩, ⟨o, x, ⟨(hk2 g bg.lt (nB (g, e) (by simp))).trans bg.out⟩⟩, kp.trans (KpS.of_row gr (S := fun k => k = B) rfl) (fun i _ e => .inr (.inl e))⟩
attribute [local go_sem] run_neq_mapN
attribute [local go_sem] blk_cell' blk_frozen' nd_old nd_new nd_ans nd_key
attribute [local go_sem ↓] loadF_key
attribute [local go_sem] run_loadFo run_loadFz
set_option maxRecDepth 20000 in
set_option maxHeartbeats 16000000 in
theorem cut_any (T B g : Nat) (room : Int) (A C : List (Nat × En)) (e : En) (W : World) (h : TabAt W T B room (A ++ (g, e) :: C)) :
    Calls Try.prog 22 #[ptr T, ptr g] W (CutRet T B room A g e C W) := by
  have HT := Lib.hid h
  have zk := key_sz (h.ok (g, e) (by simp)).k
  have za := at_sz (h.ok (g, e) (by simp)).a
  have hgT : g ≠ T := h.nT (g, e) (by simp)
  have nTB := h.nTB
  have hs := (seg_append _ _ _ _).1 h.seg
  have SA : Seg W nilp A (ptr g) := hs.1
  have bg : Blk W g 80 (ndE e (lastP nilp A) (firstP C nilp)) := hs.2.1
  have SC : Seg W (ptr g) C nilp := hs.2.2
  have ht := h.t
  rw [show firstP (A ++ (g, e) :: C) nilp = firstP A (ptr g) from firstP_append _ _ _, show lastP nilp (A ++ (g, e) :: C) = lastP (ptr g) C from lastP_append _ _ _] at ht
  have ND : Hid ((∀ q ∈ A, q.1 ≠ g) ∧ ∀ q ∈ C, q.1 ≠ g) := Lib.hid (by
    have := h.nod
    rw [List.map_append, List.nodup_append, List.map_cons, List.nodup_cons] at this
    exact ⟨fun q hq e => this.2.2 _ (List.mem_map_of_mem (f := fun q : Nat × En => q.1) hq) _ List.mem_cons_self e, fun q hq e => this.2.1.1 (by rw [← e]; exact (mem_adr hq : q.1 ∈ C.map (fun x => x.1)))⟩)
  obtain ⟨R, hR⟩ : ∃ R, CutRet T B room A g e C W = R := ⟨_, rfl⟩
  rw [hR]
  have RR := Lib.hid hR
  clear hR hs h
  obtain ⟨ek, ea, ed⟩ := e
  simp only at zk za
  rcases snoc_cases A with rfl | ⟨A, ⟨j, f⟩, rfl⟩
  · rcases C with _ | ⟨⟨i, h⟩, C⟩
    · rw [show lastP nilp [] = nilp from rfl, show firstP [] nilp = nilp from rfl] at bg
      replace ht : Blk W T 75 #[.int .i64 room, .map (some B), ptr g, ptr g] := ht
      clear SA SC
      go_enter Try.func22, Try.ntmps22
      go_upto_region 3 with (fail)
      refine wp_name ?_
      intro w1 hw1
      have t1 : Blk w1 T 75 #[.int .i64 room, .map (some B), nilp, ptr g] := by rw [hw1]; exact blk_setCell ht 2 nilp
      have g1 : Blk w1 g 80 (ndC ek ea ed nilp nilp) := by rw [hw1]; exact blk_setCell_ne bg (Ne.symm hgT) 2 nilp
      have K1 : KpS (fun k => k = T) W w1 := by
        rw [hw1]; exact (KpS.refl (fun k => k = T) W).cell rfl 2 _
      have HK1 := Lib.hid K1
      clear hw1 K1 ht bg
      go_upto_region 6 with (fail)
      refine wp_name ?_
      intro w2 hw2
      have t2 : Blk w2 T 75 #[.int .i64 room, .map (some B), nilp, nilp] := by rw [hw2]; exact blk_setCell t1 3 nilp
      have g2 : Blk w2 g 80 (ndC ek ea ed nilp nilp) := by rw [hw2]; exact blk_setCell_ne g1 (Ne.symm hgT) 3 nilp
      have K2 : KpS (fun k => k = T) w1 w2 := by
        rw [hw2]; exact (KpS.refl (fun k => k = T) w1).cell rfl 3 _
      have KF : Hid (KpS (Foot T B ([] ++ (g, ⟨ek, ea, ed⟩) :: [])) W w2) := Lib.hid ((HK1.out.mono fun _ _ q => (.inl q)).trans (K2.mono (S' := (Foot T B ([] ++ (g, ⟨ek, ea, ed⟩) :: []))) fun _ _ q => (.inl q)) fun _ _ q => q)
      have HB : w2.heap[B]? = W.heap[B]? := by
        rw [K2.block B (by have := HK1.out.size; have := HT.out.lt B (.inr (.inl rfl)); omega) (Ne.symm nTB)]
        exact HK1.out.block B (HT.out.lt B (.inr (.inl rfl))) (Ne.symm nTB)
      have KEEP : Hid (∀ k, k < W.heap.size → k ≠ T → k ≠ T → w2.heap[k]? = W.heap[k]?) := Lib.hid (fun k hk n1 n2 => by
        rw [K2.block k (by have := HK1.out.size; omega) n2]
        exact HK1.out.block k hk n1)
      have SG : Hid (Seg w2 nilp ([] ++ []) nilp) := Lib.hid (by
        rw [seg_append]
        refine ⟨?_, ?_⟩
        · exact trivial
        · exact trivial)
      have T2 : Hid (Blk w2 T 75 #[.int .i64 room, .map (some B), firstP ([] ++ []) nilp, lastP nilp ([] ++ [])]) := Lib.hid (by
        rw [show firstP ([] ++ []) nilp = nilp from rfl, show lastP nilp ([] ++ []) = nilp from rfl]
        exact t2)
      obtain ⟨w3, f1, f2, f3⟩ := (HT.out.map.keep (w' := w2.drew) HB).drop (fun q hq => (HT.out.ok q hq).k) HT.out.keys 0
      have F2 := Lib.hid (And.intro f2 f3)
      have G2 := Lib.hid g2
      clear hw2 t1 f2 f3 HB g1 K2
      go_region
      have := cut_fin (w2 := w2.drew) (w3 := w3) HT.out ⟨T2.out.out⟩ (seg_keep SG.out fun _ _ => rfl) ⟨G2.out.out⟩ KF.out.drew F2.out.1 F2.out.2
      refine bodyPost_end (results_none rfl _ _ _) rfl ?_
      rw [← RR.out]
      exact ⟨rfl, this⟩
    · have bi : Blk W i 80 (ndE h (ptr g) (firstP C nilp)) := SC.1
      have SC' : Hid (Seg W (ptr i) C nilp) := Lib.hid SC.2
      have hig : i ≠ g := ND.out.2 (i, h) (by simp)
      have hiT : i ≠ T := HT.out.nT (i, h) (by simp)
      have hiB : i ≠ B := HT.out.nB (i, h) (by simp)
      have hhk := key_sz (HT.out.ok (i, h) (by simp)).k
      have hha := at_sz (HT.out.ok (i, h) (by simp)).a
      have HCI : Hid (∀ q ∈ C, q.1 ≠ i) := Lib.hid (by
        have := HT.out.nod
        rw [List.map_append, List.nodup_append, List.map_cons, List.map_cons, List.nodup_cons, List.nodup_cons] at this
        intro q hq e
        exact this.2.1.2.1 (by rw [← e]; exact (mem_adr hq : q.1 ∈ C.map (fun x => x.1))))
      obtain ⟨hk, ha, hd⟩ := h
      simp only at hhk hha
      rw [show lastP nilp [] = nilp from rfl, show firstP ((i, ⟨hk, ha, hd⟩) :: C) nilp = (ptr i) from rfl] at bg
      rw [show lastP (ptr g) ((i, ⟨hk, ha, hd⟩) :: C) = lastP (ptr i) C from rfl] at ht
      generalize hlp : lastP (ptr i) C = lp at *
      generalize hfc : firstP C nilp = fc at *
      have HLP := Lib.hid hlp
      have HFC := Lib.hid hfc
      clear hlp hfc
      replace ht : Blk W T 75 #[.int .i64 room, .map (some B), ptr g, lp] := ht
      clear SA SC
      go_enter Try.func22, Try.ntmps22
      go_upto_region 3 with (fail)
      refine wp_name ?_
      intro w1 hw1
      have t1 : Blk w1 T 75 #[.int .i64 room, .map (some B), (ptr i), lp] := by rw [hw1]; exact blk_setCell ht 2 (ptr i)
      have g1 : Blk w1 g 80 (ndC ek ea ed nilp (ptr i)) := by rw [hw1]; exact blk_setCell_ne bg (Ne.symm hgT) 2 (ptr i)
      have K1 : KpS (fun k => k = T) W w1 := by
        rw [hw1]; exact (KpS.refl (fun k => k = T) W).cell rfl 2 _
      have i1 : Blk w1 i 80 (ndC hk ha hd (ptr g) fc) := by rw [hw1]; exact blk_setCell_ne bi (Ne.symm hiT) 2 (ptr i)
      have HK1 := Lib.hid K1
      clear hw1 K1 ht bg bi
      go_upto_region 5 with (fail)
      go_region
      try go_upto_region 6 with (fail)
      refine wp_name ?_
      intro w2 hw2
      have t2 : Blk w2 T 75 #[.int .i64 room, .map (some B), (ptr i), lp] := by rw [hw2]; exact ⟨(blk_setCell_ne t1 hiT 40 nilp).out⟩
      have i2 : Blk w2 i 80 (ndC hk ha hd nilp fc) := by
        have := blk_setCell i1 40 nilp
        rw [nd_set40] at this
        rw [hw2]; exact ⟨this.out⟩
      have g2 : Blk w2 g 80 (ndC ek ea ed nilp (ptr i)) := by rw [hw2]; exact ⟨(blk_setCell_ne g1 hig 40 nilp).out⟩
      have K2 : KpS (fun k => k = i) w1 w2 := by
        rw [hw2]; exact ((KpS.refl (fun k => k = i) w1).cell rfl 40 _).drew
      have KF : Hid (KpS (Foot T B ([] ++ (g, ⟨ek, ea, ed⟩) :: ((i, (⟨hk, ha, hd⟩ : En)) :: C))) W w2) := Lib.hid ((HK1.out.mono fun _ _ q => (.inl q)).trans (K2.mono (S' := (Foot T B ([] ++ (g, ⟨ek, ea, ed⟩) :: ((i, (⟨hk, ha, hd⟩ : En)) :: C)))) fun _ _ q => (.inr (.inr ⟨(i, ⟨hk, ha, hd⟩), by simp, q.symm⟩))) fun _ _ q => q)
      have HB : w2.heap[B]? = W.heap[B]? := by
        rw [K2.block B (by have := HK1.out.size; have := HT.out.lt B (.inr (.inl rfl)); omega) (Ne.symm hiB)]
        exact HK1.out.block B (HT.out.lt B (.inr (.inl rfl))) (Ne.symm nTB)
      have KEEP : Hid (∀ k, k < W.heap.size → k ≠ T → k ≠ i → w2.heap[k]? = W.heap[k]?) := Lib.hid (fun k hk n1 n2 => by
        rw [K2.block k (by have := HK1.out.size; omega) n2]
        exact HK1.out.block k hk n1)
      have SG : Hid (Seg w2 nilp ([] ++ ((i, (⟨hk, ha, hd⟩ : En)) :: C)) nilp) := Lib.hid (by
        rw [seg_append]
        refine ⟨?_, ?_⟩
        · exact trivial
        · exact ⟨by rw [show lastP nilp [] = nilp from rfl, HFC.out]; exact i2, seg_keep SC'.out fun q hq => KEEP.out q.1 (seg_lt SC'.out q hq) (HT.out.nT q (by simp [hq])) (HCI.out q hq)⟩)
      have T2 : Hid (Blk w2 T 75 #[.int .i64 room, .map (some B), firstP ([] ++ ((i, (⟨hk, ha, hd⟩ : En)) :: C)) nilp, lastP nilp ([] ++ ((i, (⟨hk, ha, hd⟩ : En)) :: C))]) := Lib.hid (by
        rw [show firstP ([] ++ ((i, (⟨hk, ha, hd⟩ : En)) :: C)) nilp = (ptr i) from rfl, show lastP nilp ([] ++ ((i, (⟨hk, ha, hd⟩ : En)) :: C)) = lp from HLP.out]
        exact t2)
      obtain ⟨w3, f1, f2, f3⟩ := (HT.out.map.keep (w' := w2.drew) HB).drop (fun q hq => (HT.out.ok q hq).k) HT.out.keys 0
      have F2 := Lib.hid (And.intro f2 f3)
      have G2 := Lib.hid g2
      clear hw2 t1 f2 f3 HB g1 K2
      go_region
      have := cut_fin (w2 := w2.drew) (w3 := w3) HT.out ⟨T2.out.out⟩ (seg_keep SG.out fun _ _ => rfl) ⟨G2.out.out⟩ KF.out.drew F2.out.1 F2.out.2
      refine bodyPost_end (results_none rfl _ _ _) rfl ?_
      rw [← RR.out]
      exact ⟨rfl, this⟩
  · rcases C with _ | ⟨⟨i, h⟩, C⟩
    · have HSJ := (seg_append _ _ _ _).1 SA
      have SA' : Hid (Seg W nilp A (ptr j)) := Lib.hid HSJ.1
      have bj : Blk W j 80 (ndE f (lastP nilp A) (ptr g)) := HSJ.2.1
      have hjg : j ≠ g := ND.out.1 (j, f) (by simp)
      have hjT : j ≠ T := HT.out.nT (j, f) (by simp)
      have hjB : j ≠ B := HT.out.nB (j, f) (by simp)
      have hfk := key_sz (HT.out.ok (j, f) (by simp)).k
      have hfa := at_sz (HT.out.ok (j, f) (by simp)).a
      have HAJ : Hid (∀ q ∈ A, q.1 ≠ j) := Lib.hid (by
        have := HT.out.nod
        rw [List.map_append, List.map_append, List.nodup_append, List.nodup_append] at this
        intro q hq e
        exact this.1.2.2 _ (List.mem_map_of_mem (f := fun q : Nat × En => q.1) hq) _ (List.mem_singleton.2 rfl) e)
      obtain ⟨fk, fa, fd⟩ := f
      simp only at hfk hfa
      clear HSJ
      rw [show lastP nilp (A ++ [(j, ⟨fk, fa, fd⟩)]) = (ptr j) from lastP_snoc _ _ _ _, show firstP [] nilp = nilp from rfl] at bg
      rw [firstP_snoc] at ht
      generalize hfp : firstP A (ptr j) = fp at *
      generalize hlq : lastP nilp A = lq at *
      have HFP := Lib.hid hfp
      have HLQ := Lib.hid hlq
      clear hfp hlq
      replace ht : Blk W T 75 #[.int .i64 room, .map (some B), fp, ptr g] := ht
      clear SA SC
      go_enter Try.func22, Try.ntmps22
      go_upto_region 2 with (fail)
      go_region
      try go_upto_region 3 with (fail)
      refine wp_name ?_
      intro w1 hw1
      have t1 : Blk w1 T 75 #[.int .i64 room, .map (some B), fp, ptr g] := by rw [hw1]; exact ⟨(blk_setCell_ne ht hjT 41 nilp).out⟩
      have j1 : Blk w1 j 80 (ndC fk fa fd lq nilp) := by
        have := blk_setCell bj 41 nilp
        rw [nd_set41] at this
        rw [hw1]; exact ⟨this.out⟩
      have g1 : Blk w1 g 80 (ndC ek ea ed (ptr j) nilp) := by rw [hw1]; exact ⟨(blk_setCell_ne bg hjg 41 nilp).out⟩
      have K1 : KpS (fun k => k = j) W w1 := by
        rw [hw1]; exact ((KpS.refl (fun k => k = j) W).cell rfl 41 _).drew
      have HK1 := Lib.hid K1
      clear hw1 K1 ht bg bj
      go_upto_region 6 with (fail)
      refine wp_name ?_
      intro w2 hw2
      have t2 : Blk w2 T 75 #[.int .i64 room, .map (some B), fp, (ptr j)] := by rw [hw2]; exact blk_setCell t1 3 (ptr j)
      have g2 : Blk w2 g 80 (ndC ek ea ed (ptr j) nilp) := by rw [hw2]; exact blk_setCell_ne g1 (Ne.symm hgT) 3 (ptr j)
      have K2 : KpS (fun k => k = T) w1 w2 := by
        rw [hw2]; exact (KpS.refl (fun k => k = T) w1).cell rfl 3 _
      have j2 : Blk w2 j 80 (ndC fk fa fd lq nilp) := by rw [hw2]; exact blk_setCell_ne j1 (Ne.symm hjT) 3 (ptr j)
      have KF : Hid (KpS (Foot T B ((A ++ [(j, (⟨fk, fa, fd⟩ : En))]) ++ (g, ⟨ek, ea, ed⟩) :: [])) W w2) := Lib.hid ((HK1.out.mono fun _ _ q => (.inr (.inr ⟨(j, ⟨fk, fa, fd⟩), by simp, q.symm⟩))).trans (K2.mono (S' := (Foot T B ((A ++ [(j, (⟨fk, fa, fd⟩ : En))]) ++ (g, ⟨ek, ea, ed⟩) :: []))) fun _ _ q => (.inl q)) fun _ _ q => q)
      have HB : w2.heap[B]? = W.heap[B]? := by
        rw [K2.block B (by have := HK1.out.size; have := HT.out.lt B (.inr (.inl rfl)); omega) (Ne.symm nTB)]
        exact HK1.out.block B (HT.out.lt B (.inr (.inl rfl))) (Ne.symm hjB)
      have KEEP : Hid (∀ k, k < W.heap.size → k ≠ j → k ≠ T → w2.heap[k]? = W.heap[k]?) := Lib.hid (fun k hk n1 n2 => by
        rw [K2.block k (by have := HK1.out.size; omega) n2]
        exact HK1.out.block k hk n1)
      have SG : Hid (Seg w2 nilp ((A ++ [(j, (⟨fk, fa, fd⟩ : En))]) ++ []) nilp) := Lib.hid (by
        rw [seg_append]
        refine ⟨?_, ?_⟩
        · exact (by rw [seg_append, HLQ.out]; exact ⟨seg_keep SA'.out fun q hq => KEEP.out q.1 (seg_lt SA'.out q hq) (HAJ.out q hq) (HT.out.nT q (by simp [hq])), j2, trivial⟩)
        · exact trivial)
      have T2 : Hid (Blk w2 T 75 #[.int .i64 room, .map (some B), firstP ((A ++ [(j, (⟨fk, fa, fd⟩ : En))]) ++ []) nilp, lastP nilp ((A ++ [(j, (⟨fk, fa, fd⟩ : En))]) ++ [])]) := Lib.hid (by
        rw [show firstP ((A ++ [(j, (⟨fk, fa, fd⟩ : En))]) ++ []) nilp = fp from by rw [firstP_append, firstP_snoc]; exact HFP.out, show lastP nilp ((A ++ [(j, (⟨fk, fa, fd⟩ : En))]) ++ []) = (ptr j) from by rw [lastP_append, lastP_snoc]; rfl]
        exact t2)
      obtain ⟨w3, f1, f2, f3⟩ := (HT.out.map.keep (w' := w2.drew) HB).drop (fun q hq => (HT.out.ok q hq).k) HT.out.keys 0
      have F2 := Lib.hid (And.intro f2 f3)
      have G2 := Lib.hid g2
      clear hw2 t1 f2 f3 HB g1 K2
      go_region
      have := cut_fin (w2 := w2.drew) (w3 := w3) HT.out ⟨T2.out.out⟩ (seg_keep SG.out fun _ _ => rfl) ⟨G2.out.out⟩ KF.out.drew F2.out.1 F2.out.2
      refine bodyPost_end (results_none rfl _ _ _) rfl ?_
      rw [← RR.out]
      exact ⟨rfl, this⟩
    · have HSJ := (seg_append _ _ _ _).1 SA
      have SA' : Hid (Seg W nilp A (ptr j)) := Lib.hid HSJ.1
      have bj : Blk W j 80 (ndE f (lastP nilp A) (ptr g)) := HSJ.2.1
      have hjg : j ≠ g := ND.out.1 (j, f) (by simp)
      have hjT : j ≠ T := HT.out.nT (j, f) (by simp)
      have hjB : j ≠ B := HT.out.nB (j, f) (by simp)
      have hfk := key_sz (HT.out.ok (j, f) (by simp)).k
      have hfa := at_sz (HT.out.ok (j, f) (by simp)).a
      have HAJ : Hid (∀ q ∈ A, q.1 ≠ j) := Lib.hid (by
        have := HT.out.nod
        rw [List.map_append, List.map_append, List.nodup_append, List.nodup_append] at this
        intro q hq e
        exact this.1.2.2 _ (List.mem_map_of_mem (f := fun q : Nat × En => q.1) hq) _ (List.mem_singleton.2 rfl) e)
      obtain ⟨fk, fa, fd⟩ := f
      simp only at hfk hfa
      clear HSJ
      have bi : Blk W i 80 (ndE h (ptr g) (firstP C nilp)) := SC.1
      have SC' : Hid (Seg W (ptr i) C nilp) := Lib.hid SC.2
      have hig : i ≠ g := ND.out.2 (i, h) (by simp)
      have hiT : i ≠ T := HT.out.nT (i, h) (by simp)
      have hiB : i ≠ B := HT.out.nB (i, h) (by simp)
      have hhk := key_sz (HT.out.ok (i, h) (by simp)).k
      have hha := at_sz (HT.out.ok (i, h) (by simp)).a
      have HCI : Hid (∀ q ∈ C, q.1 ≠ i) := Lib.hid (by
        have := HT.out.nod
        rw [List.map_append, List.nodup_append, List.map_cons, List.map_cons, List.nodup_cons, List.nodup_cons] at this
        intro q hq e
        exact this.2.1.2.1 (by rw [← e]; exact (mem_adr hq : q.1 ∈ C.map (fun x => x.1))))
      obtain ⟨hk, ha, hd⟩ := h
      simp only at hhk hha
      have hij : i ≠ j := by
        have := HT.out.nod
        rw [List.map_append, List.nodup_append] at this
        intro e
        exact this.2.2 j (by simp) i (by simp) e.symm
      have HAI : Hid (∀ q ∈ A, q.1 ≠ i) := Lib.hid (by
        have := HT.out.nod
        rw [List.map_append, List.nodup_append] at this
        intro q hq e
        exact this.2.2 q.1 (List.mem_map_of_mem (f := fun q : Nat × En => q.1) (List.mem_append_left _ hq)) i (by simp) e)
      have HCJ : Hid (∀ q ∈ C, q.1 ≠ j) := Lib.hid (by
        have := HT.out.nod
        rw [List.map_append, List.nodup_append] at this
        intro q hq e
        exact this.2.2 j (by simp) q.1 (List.mem_map_of_mem (f := fun q : Nat × En => q.1) (List.mem_cons_of_mem _ (List.mem_cons_of_mem _ hq))) e.symm)
      rw [show lastP nilp (A ++ [(j, ⟨fk, fa, fd⟩)]) = (ptr j) from lastP_snoc _ _ _ _, show firstP ((i, ⟨hk, ha, hd⟩) :: C) nilp = (ptr i) from rfl] at bg
      rw [firstP_snoc] at ht
      generalize hfp : firstP A (ptr j) = fp at *
      generalize hlq : lastP nilp A = lq at *
      have HFP := Lib.hid hfp
      have HLQ := Lib.hid hlq
      clear hfp hlq
      rw [show lastP (ptr g) ((i, ⟨hk, ha, hd⟩) :: C) = lastP (ptr i) C from rfl] at ht
      generalize hlp : lastP (ptr i) C = lp at *
      generalize hfc : firstP C nilp = fc at *
      have HLP := Lib.hid hlp
      have HFC := Lib.hid hfc
      clear hlp hfc
      replace ht : Blk W T 75 #[.int .i64 room, .map (some B), fp, lp] := ht
      clear SA SC
      go_enter Try.func22, Try.ntmps22
      go_upto_region 2 with (fail)
      go_region
      try go_upto_region 3 with (fail)
      refine wp_name ?_
      intro w1 hw1
      have t1 : Blk w1 T 75 #[.int .i64 room, .map (some B), fp, lp] := by rw [hw1]; exact ⟨(blk_setCell_ne ht hjT 41 (ptr i)).out⟩
      have j1 : Blk w1 j 80 (ndC fk fa fd lq (ptr i)) := by
        have := blk_setCell bj 41 (ptr i)
        rw [nd_set41] at this
        rw [hw1]; exact ⟨this.out⟩
      have g1 : Blk w1 g 80 (ndC ek ea ed (ptr j) (ptr i)) := by rw [hw1]; exact ⟨(blk_setCell_ne bg hjg 41 (ptr i)).out⟩
      have K1 : KpS (fun k => k = j) W w1 := by
        rw [hw1]; exact ((KpS.refl (fun k => k = j) W).cell rfl 41 _).drew
      have i1 : Blk w1 i 80 (ndC hk ha hd (ptr g) fc) := by rw [hw1]; exact ⟨(blk_setCell_ne bi (Ne.symm hij) 41 (ptr i)).out⟩
      have HK1 := Lib.hid K1
      clear hw1 K1 ht bg bj bi
      go_upto_region 5 with (fail)
      go_region
      try go_upto_region 6 with (fail)
      refine wp_name ?_
      intro w2 hw2
      have t2 : Blk w2 T 75 #[.int .i64 room, .map (some B), fp, lp] := by rw [hw2]; exact ⟨(blk_setCell_ne t1 hiT 40 (ptr j)).out⟩
      have i2 : Blk w2 i 80 (ndC hk ha hd (ptr j) fc) := by
        have := blk_setCell i1 40 (ptr j)
        rw [nd_set40] at this
        rw [hw2]; exact ⟨this.out⟩
      have g2 : Blk w2 g 80 (ndC ek ea ed (ptr j) (ptr i)) := by rw [hw2]; exact ⟨(blk_setCell_ne g1 hig 40 (ptr j)).out⟩
      have K2 : KpS (fun k => k = i) w1 w2 := by
        rw [hw2]; exact ((KpS.refl (fun k => k = i) w1).cell rfl 40 _).drew
      have j2 : Blk w2 j 80 (ndC fk fa fd lq (ptr i)) := by rw [hw2]; exact ⟨(blk_setCell_ne j1 hij 40 (ptr j)).out⟩
      have KF : Hid (KpS (Foot T B ((A ++ [(j, (⟨fk, fa, fd⟩ : En))]) ++ (g, ⟨ek, ea, ed⟩) :: ((i, (⟨hk, ha, hd⟩ : En)) :: C))) W w2) := Lib.hid ((HK1.out.mono fun _ _ q => (.inr (.inr ⟨(j, ⟨fk, fa, fd⟩), by simp, q.symm⟩))).trans (K2.mono (S' := (Foot T B ((A ++ [(j, (⟨fk, fa, fd⟩ : En))]) ++ (g, ⟨ek, ea, ed⟩) :: ((i, (⟨hk, ha, hd⟩ : En)) :: C)))) fun _ _ q => (.inr (.inr ⟨(i, ⟨hk, ha, hd⟩), by simp, q.symm⟩))) fun _ _ q => q)
      have HB : w2.heap[B]? = W.heap[B]? := by
        rw [K2.block B (by have := HK1.out.size; have := HT.out.lt B (.inr (.inl rfl)); omega) (Ne.symm hiB)]
        exact HK1.out.block B (HT.out.lt B (.inr (.inl rfl))) (Ne.symm hjB)
      have KEEP : Hid (∀ k, k < W.heap.size → k ≠ j → k ≠ i → w2.heap[k]? = W.heap[k]?) := Lib.hid (fun k hk n1 n2 => by
        rw [K2.block k (by have := HK1.out.size; omega) n2]
        exact HK1.out.block k hk n1)
      have SG : Hid (Seg w2 nilp ((A ++ [(j, (⟨fk, fa, fd⟩ : En))]) ++ ((i, (⟨hk, ha, hd⟩ : En)) :: C)) nilp) := Lib.hid (by
        rw [seg_append]
        refine ⟨?_, ?_⟩
        · exact (by rw [seg_append, HLQ.out]; exact ⟨seg_keep SA'.out fun q hq => KEEP.out q.1 (seg_lt SA'.out q hq) (HAJ.out q hq) (HAI.out q hq), j2, trivial⟩)
        · exact ⟨by rw [show lastP nilp (A ++ [(j, (⟨fk, fa, fd⟩ : En))]) = (ptr j) from lastP_snoc _ _ _ _, HFC.out]; exact i2, seg_keep SC'.out fun q hq => KEEP.out q.1 (seg_lt SC'.out q hq) (HCJ.out q hq) (HCI.out q hq)⟩)
      have T2 : Hid (Blk w2 T 75 #[.int .i64 room, .map (some B), firstP ((A ++ [(j, (⟨fk, fa, fd⟩ : En))]) ++ ((i, (⟨hk, ha, hd⟩ : En)) :: C)) nilp, lastP nilp ((A ++ [(j, (⟨fk, fa, fd⟩ : En))]) ++ ((i, (⟨hk, ha, hd⟩ : En)) :: C))]) := Lib.hid (by
        rw [show firstP ((A ++ [(j, (⟨fk, fa, fd⟩ : En))]) ++ ((i, (⟨hk, ha, hd⟩ : En)) :: C)) nilp = fp from by rw [firstP_append, firstP_snoc]; exact HFP.out, show lastP nilp ((A ++ [(j, (⟨fk, fa, fd⟩ : En))]) ++ ((i, (⟨hk, ha, hd⟩ : En)) :: C)) = lp from by rw [lastP_append, lastP_snoc]; exact HLP.out]
        exact t2)
      obtain ⟨w3, f1, f2, f3⟩ := (HT.out.map.keep (w' := w2.drew) HB).drop (fun q hq => (HT.out.ok q hq).k) HT.out.keys 0
      have F2 := Lib.hid (And.intro f2 f3)
      have G2 := Lib.hid g2
      clear hw2 t1 f2 f3 HB g1 K2
      go_region
      have := cut_fin (w2 := w2.drew) (w3 := w3) HT.out ⟨T2.out.out⟩ (seg_keep SG.out fun _ _ => rfl) ⟨G2.out.out⟩ KF.out.drew F2.out.1 F2.out.2
      refine bodyPost_end (results_none rfl _ _ _) rfl ?_
      rw [← RR.out]
      exact ⟨rfl, this⟩
end Go.Proofs.Ytlbkcjpnlnlmiaa
