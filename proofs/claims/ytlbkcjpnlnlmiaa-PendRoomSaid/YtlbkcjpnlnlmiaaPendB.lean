/- pend.right, push, cut: walks. -/
import Derived.Test.YtlbkcjpnlnlmiaaPendA
namespace Go.Proofs.Ytlbkcjpnlnlmiaa
open Go.RowKit Go.Maps

set_option maxRecDepth 20000 in
instance row_node : RowT 80 42 := ⟨by kernel_rfl, by kernel_rfl⟩
set_option maxRecDepth 20000 in
instance row_entry : RowT 45 40 := ⟨by kernel_rfl, by kernel_rfl⟩
set_option maxRecDepth 20000 in
instance fl_entry : FlatT 45 40 := ⟨by kernel_rfl, by kernel_rfl, by kernel_rfl, by kernel_rfl, by kernel_rfl, by kernel_rfl⟩
set_option maxRecDepth 20000 in
theorem loadF_key (v : Value) : Instr.loadAt 38 v = loadF 38 v := rfl
set_option maxRecDepth 20000 in
instance nd_sz (k a : Array Value) (d : Bool) (o n : Value) [hk : SzA k 37] [ha : SzA a 2] : SzA (ndC k a d o n) 42 := ⟨nd_size⟩
set_option maxRecDepth 20000 in
theorem key_sz {k : Array Value} (h : KeyP k) : SzA k 37 := ⟨by
  have h1 := fl_key.len
  have h2 := h.len
  rw [Array.length_toList] at h2
  omega⟩
set_option maxRecDepth 20000 in
theorem at_sz {a : Array Value} (h : Fits (ksOf 40) a.toList) : SzA a 2 := ⟨by
  have h1 := fl_wide.len
  have h2 := h.len
  rw [Array.length_toList] at h2
  omega⟩
set_option maxRecDepth 20000 in
theorem run_neq_mapN (w : World) (m : Option Nat) : (binOp .neq 72 (.map m) (.map none)).run Try.prog w = .ok (.bool (!m.isNone)) w := run_neq_map_nil w _ _ _ m under_map
attribute [local go_sem] run_neq_mapN
attribute [local go_sem] blk_cell' blk_frozen' nd_old nd_new nd_ans nd_key
attribute [local go_sem ↓] loadF_key
attribute [local go_sem] run_loadFo run_loadFz
set_option maxRecDepth 20000 in
set_option maxHeartbeats 2000000 in
theorem right_any (T B : Nat) (room : Int) (o y : Value) (W : World) [h : Blk W T 75 #[.int .i64 room, .map (some B), o, y]] :
    Calls Try.prog 21 #[ptr T] W fun e w' => e = .returned (.bool true) ∧ Mo W w' := by
  go_enter Try.func21, Try.ntmps21
  go_wp2_with fail
  go_ret
  exact ⟨rfl, Mor.out⟩
set_option maxRecDepth 20000 in
set_option maxHeartbeats 2000000 in
theorem right_nil (W : World) : Calls Try.prog 21 #[nilp] W fun e w' => e = .returned (.bool false) ∧ Mo W w' := by
  go_enter Try.func21, Try.ntmps21
  go_wp2_with fail
  go_ret
  exact ⟨rfl, Mor.out⟩
set_option maxRecDepth 20000 in
theorem snoc_cases {α : Type} (l : List α) : l = [] ∨ ∃ A q, l = A ++ [q] := by
  rcases List.eq_nil_or_concat l with h | ⟨A, q, h⟩
  · exact .inl h
  · exact .inr ⟨A, q, by rw [h, List.concat_eq_append]⟩
set_option maxRecDepth 20000 in
theorem TabAt.room {W : World} {T B : Nat} {room : Int} {L : List (Nat × En)} (h : TabAt W T B room L) : ∃ o y, Blk W T 75 #[.int .i64 room, .map (some B), o, y] := ⟨_, _, h.t⟩
/-- what lies behind push -/
def PushRet (S : Nat → Prop) (T B : Nat) (room : Int) (L : List (Nat × En)) (W : World) (e : Ending) (w' : World) : Prop := e = .returned (.tuple #[]) ∧ TabAt w' T B room L ∧ KpS S W w'
set_option maxRecDepth 20000 in
theorem push_fin {W w2 w3 : World} {T B g : Nat} {room : Int} {A : List (Nat × En)} {e : En} (h : TabAt W T B room A) (hg : g ≠ T) (hB : g ≠ B) (hn : ∀ q ∈ A, q.1 ≠ g) (ok : EnOk e) (hk : ∀ q ∈ A, q.2.k ≠ e.k)
    (bt : Blk w2 T 75 #[.int .i64 room, .map (some B), firstP (A ++ [(g, e)]) nilp, ptr g]) (seg : Seg w2 nilp (A ++ [(g, e)]) nilp) (kp : KpS (fun k => k = g ∨ Foot T B A k) W w2)
    (mp : MapIs w3 B (A ++ [(g, e)])) (tn : w2.mapTurned w3 B) :
    TabAt w3 T B room (A ++ [(g, e)]) ∧ KpS (fun k => k = g ∨ Foot T B A k) W w3 := by
  have gr := tn.grown
  have hk2 : ∀ k, k < w2.heap.size → k ≠ B → w3.heap[k]? = w2.heap[k]? := fun k hk n => gr.block k hk (fun e => n (by injection e))
  have nTB := h.nTB
  have nB := h.nB
  refine ⟨⟨?_, ?_, ?_, ?_, mp, ?_, ?_⟩, kp.trans (KpS.of_row gr (S := fun k => k = B) rfl) (fun i _ e => .inr (.inr (.inl e)))⟩
  · rw [lastP_snoc]; exact ⟨(hk2 T bt.lt nTB).trans bt.out⟩
  · refine seg_keep seg fun q hq => hk2 _ (seg_lt seg q hq) ?_
    rcases List.mem_append.1 hq with h | h
    · exact nB q h
    · rw [List.mem_singleton] at h; subst h; exact hB
  · rw [List.map_append, List.nodup_append]
    refine ⟨h.nod, by simp, ?_⟩
    intro a ha b hb e1
    obtain ⟨q, hq, rfl⟩ := List.mem_map.1 ha
    simp only [List.map_cons, List.map_nil, List.mem_singleton] at hb
    exact hn q hq (e1.trans hb)
  · intro q hq
    rcases List.mem_append.1 hq with k | k
    · exact h.nT q k
    · rw [List.mem_singleton] at k; subst k; exact hg
  · rw [List.map_append, List.nodup_append]
    refine ⟨h.keys, by simp, ?_⟩
    intro a ha b hb e1
    obtain ⟨q, hq, rfl⟩ := List.mem_map.1 ha
    simp only [List.map_cons, List.map_nil, List.mem_singleton] at hb
    exact hk q hq (e1.trans hb)
  · intro q hq
    rcases List.mem_append.1 hq with k | k
    · exact h.ok q k
    · rw [List.mem_singleton] at k; subst k; exact ok
set_option maxRecDepth 20000 in
set_option maxHeartbeats 8000000 in
theorem push_any (T B g : Nat) (room : Int) (L : List (Nat × En)) (e : En) (x y : Value) (W : World) (h : TabAt W T B room L) (b : Blk W g 80 (ndE e x y)) (hg : g ≠ T) (hn : ∀ q ∈ L, q.1 ≠ g) (ok : EnOk e) (hk : ∀ q ∈ L, q.2.k ≠ e.k) (hl : L.length ≤ 65536) :
    Calls Try.prog 23 #[ptr T, ptr g] W (PushRet (fun k => k = g ∨ Foot T B L k) T B room (L ++ [(g, e)]) W) := by
  have zk := key_sz ok.k
  have za := at_sz ok.a
  have hB : g ≠ B := by
    intro e1
    obtain ⟨es, clock, hb⟩ := h.map.isMap
    have h1 := b.out
    rw [e1, hb] at h1
    cases h1
  have nTB := h.nTB
  have ht := h.t
  have MP := Lib.hid h.map
  have HT := Lib.hid h
  have HOK := Lib.hid ok
  have HK := Lib.hid hk
  have HN := Lib.hid hn
  have HL := Lib.hid hl
  obtain ⟨R, hR⟩ : ∃ R, PushRet (fun k => k = g ∨ Foot T B L k) T B room (L ++ [(g, e)]) W = R := ⟨_, rfl⟩
  rw [hR]
  have RR := Lib.hid hR
  clear hR hk hn hl ok
  obtain ⟨ek, ea, ed⟩ := e
  rcases snoc_cases L with rfl | ⟨A, ⟨j, f⟩, rfl⟩
  · simp only [firstP, lastP] at ht
    clear h
    go_enter Try.func23, Try.ntmps23
    go_upto_region 1 with (fail)
    refine wp_name ?_
    intro w1 hw1
    have b1 : Blk w1 g 80 (ndC ek ea ed nilp nilp) := by
      have := blk_setCell (blk_setCell b 40 nilp) 41 nilp
      rw [nd_set40, nd_set41] at this
      rw [hw1]; exact this
    have t1 : Blk w1 T 75 #[.int .i64 room, .map (some B), nilp, nilp] := by
      rw [hw1]; exact blk_setCell_ne (blk_setCell_ne ht hg _ _) hg _ _
    have K1 : KpS (fun k => k = g) W w1 := by
      rw [hw1]; exact ((KpS.refl (fun k => k = g) W).cell rfl 40 _).cell rfl 41 _
    have HKP := Lib.hid K1
    clear hw1 b ht K1
    go_upto_region 5 with (fail)
    refine wp_name ?_
    intro w2 hw2
    have t2 : Blk w2 T 75 #[.int .i64 room, .map (some B), ptr g, ptr g] := by
      rw [hw2]; exact blk_setCell (blk_setCell t1 2 (ptr g)) 3 (ptr g)
    have b2 : Blk w2 g 80 (ndC ek ea ed nilp nilp) := by
      rw [hw2]; exact blk_setCell_ne (blk_setCell_ne b1 (Ne.symm hg) _ _) (Ne.symm hg) _ _
    have K2 : KpS (fun k => k = g ∨ Foot T B [] k) W w2 := by
      rw [hw2]
      exact ((HKP.out.mono fun _ _ q => .inl q).cell (.inr (.inl rfl)) 2 _).cell (.inr (.inl rfl)) 3 _
    have HB : w2.heap[B]? = W.heap[B]? := by
      rw [hw2, heap_setCell_other _ _ _ _ (Ne.symm nTB), heap_setCell_other _ _ _ _ (Ne.symm nTB)]
      exact HKP.out.block B (by obtain ⟨_, _, hb⟩ := MP.out.isMap; exact (Array.getElem?_eq_some_iff.1 hb).1) (Ne.symm hB)
    obtain ⟨w3, f1, f2, f3⟩ := (MP.out.keep (w' := w2.drew) HB).put (g := g) (e := ⟨ek, ea, ed⟩) (by decide) (fun q hq => by cases hq) HOK.out.k (fun q hq => by cases hq)
    have F2 := Lib.hid (And.intro f2 f3)
    clear hw2 t1 b1 f2 f3 HB
    go_region
    have := push_fin (w2 := w2.drew) (w3 := w3) HT.out hg hB HN.out HOK.out HK.out ⟨t2.out⟩ ⟨⟨b2.out⟩, trivial⟩ (K2.trans (KpS.of_mo (S := fun k => k = g ∨ Foot T B [] k) Mor.out) fun _ _ q => q) F2.out.1 F2.out.2
    refine bodyPost_end (results_none rfl _ _ _) rfl ?_
    rw [← RR.out]
    exact ⟨rfl, this⟩
  · rw [firstP_snoc, lastP_snoc] at ht
    have hj := h.seg
    rw [seg_append] at hj
    obtain ⟨hjA, hj, -⟩ := hj
    replace hjA : Seg W nilp A (ptr j) := hjA
    replace hj : Blk W j 80 (ndE f (lastP nilp A) nilp) := hj
    have hnj : j ≠ g := HN.out (j, f) (by simp)
    have hjT : j ≠ T := h.nT (j, f) (by simp)
    have hfk := key_sz (h.ok (j, f) (by simp)).k
    have hfa := at_sz (h.ok (j, f) (by simp)).a
    have hjn : ∀ q ∈ A, q.1 ≠ j := by
      have := h.nod
      rw [List.map_append, List.nodup_append] at this
      intro q hq e
      exact this.2.2 _ (List.mem_map_of_mem hq) _ (List.mem_singleton.2 rfl) e
    obtain ⟨fk, fa, fd⟩ := f
    simp only at hfk hfa
    have HSA := Lib.hid hjA
    have HJN := Lib.hid hjn
    generalize hfp : firstP A (ptr j) = fp at *
    generalize hlq : lastP nilp A = lq at *
    have HFP := Lib.hid hfp
    have HLQ := Lib.hid hlq
    clear h hjA hjn hfp hlq
    go_enter Try.func23, Try.ntmps23
    go_upto_region 1 with (fail)
    refine wp_name ?_
    intro w1 hw1
    have b1 : Blk w1 g 80 (ndC ek ea ed (ptr j) nilp) := by
      have := blk_setCell (blk_setCell b 40 (ptr j)) 41 nilp
      rw [nd_set40, nd_set41] at this
      rw [hw1]; exact this
    have t1 : Blk w1 T 75 #[.int .i64 room, .map (some B), fp, ptr j] := by
      rw [hw1]; exact blk_setCell_ne (blk_setCell_ne ht hg _ _) hg _ _
    have j1 : Blk w1 j 80 (ndC fk fa fd lq nilp) := by
      rw [hw1]; exact blk_setCell_ne (blk_setCell_ne hj (Ne.symm hnj) _ _) (Ne.symm hnj) _ _
    have K1 : KpS (fun k => k = g) W w1 := by
      rw [hw1]; exact ((KpS.refl (fun k => k = g) W).cell rfl 40 _).cell rfl 41 _
    have HKP := Lib.hid K1
    clear hw1 b ht K1 hj
    go_upto_region 5 with (fail)
    refine wp_name ?_
    intro w2 hw2
    have t2 : Blk w2 T 75 #[.int .i64 room, .map (some B), fp, ptr g] := by
      rw [hw2]; exact blk_setCell (blk_setCell_ne t1 hjT _ _) 3 (ptr g)
    have b2 : Blk w2 g 80 (ndC ek ea ed (ptr j) nilp) := by
      rw [hw2]; exact blk_setCell_ne (blk_setCell_ne b1 hnj _ _) (Ne.symm hg) _ _
    have j2 : Blk w2 j 80 (ndC fk fa fd lq (ptr g)) := by
      have := blk_setCell j1 41 (ptr g)
      rw [nd_set41] at this
      rw [hw2]; exact blk_setCell_ne this (Ne.symm hjT) _ _
    have hA : ∀ q ∈ A, w2.heap[q.1]? = W.heap[q.1]? := by
      intro q hq
      have n1 := HJN.out q hq
      have n2 := HT.out.nT q (List.mem_append_left _ hq)
      rw [hw2, heap_setCell_other _ _ _ _ n2, heap_setCell_other _ _ _ _ n1]
      exact HKP.out.block _ (seg_lt HT.out.seg q (List.mem_append_left _ hq)) (HN.out q (List.mem_append_left _ hq))
    have K2 : KpS (fun k => k = g ∨ Foot T B (A ++ [(j, ⟨fk, fa, fd⟩)]) k) W w2 := by
      rw [hw2]
      exact ((HKP.out.mono fun _ _ q => .inl q).cell (.inr (.inr (.inr ⟨(j, ⟨fk, fa, fd⟩), by simp, rfl⟩))) 41 _).cell (.inr (.inl rfl)) 3 _
    have HB : w2.heap[B]? = W.heap[B]? := by
      have hjB : j ≠ B := HT.out.nB (j, ⟨fk, fa, fd⟩) (by simp)
      rw [hw2, heap_setCell_other _ _ _ _ (Ne.symm nTB), heap_setCell_other _ _ _ _ (Ne.symm hjB)]
      exact HKP.out.block B (by obtain ⟨_, _, hb⟩ := MP.out.isMap; exact (Array.getElem?_eq_some_iff.1 hb).1) (Ne.symm hB)
    obtain ⟨w3, f1, f2, f3⟩ := (MP.out.keep (w' := w2.drew) HB).put (g := g) (e := ⟨ek, ea, ed⟩) (by have := HL.out; unfold maxLen; omega) (fun q hq => (HT.out.ok q hq).k) HOK.out.k HK.out
    have F2 := Lib.hid (And.intro f2 f3)
    have SG : Hid (Seg w2 nilp (A ++ [(j, ⟨fk, fa, fd⟩)] ++ [(g, ⟨ek, ea, ed⟩)]) nilp) := Lib.hid (by
      rw [List.append_assoc, seg_append, HLQ.out]
      exact ⟨seg_keep HSA.out hA, j2, b2, trivial⟩)
    clear hw2 t1 b1 j1 f2 f3 HB hA j2
    go_region
    have := push_fin (w2 := w2.drew) (w3 := w3) HT.out hg hB HN.out HOK.out HK.out (by rw [List.append_assoc, firstP_append]; exact ⟨(t2.out).trans (by rw [← HFP.out]; rfl)⟩) (seg_keep SG.out fun _ _ => rfl) (K2.trans (KpS.of_mo (S := fun k => k = g ∨ Foot T B (A ++ [(j, ⟨fk, fa, fd⟩)]) k) Mor.out) fun _ _ q => q) F2.out.1 F2.out.2
    refine bodyPost_end (results_none rfl _ _ _) rfl ?_
    rw [← RR.out]
    exact ⟨rfl, this⟩
end Go.Proofs.Ytlbkcjpnlnlmiaa
