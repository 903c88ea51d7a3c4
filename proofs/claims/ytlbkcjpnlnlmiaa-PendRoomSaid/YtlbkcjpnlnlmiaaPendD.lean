/- pend.New, Len, Find, Answer: walks (printed by gen/genpendd.py). -/
import Derived.Test.YtlbkcjpnlnlmiaaPendC
namespace Go.Proofs.Ytlbkcjpnlnlmiaa
open Go.RowKit Go.Maps

abbrev wdz : Array Value := #[.int .i64 0, .int .u64 0]
abbrev key0 : Array Value := #[.bool false, .int .u8 0, .int .u8 0, .int .u8 0, .int .u8 0, .int .u8 0, .int .u8 0, .int .u8 0, .int .u8 0, .int .u8 0, .int .u8 0, .int .u8 0, .int .u8 0, .int .u8 0, .int .u8 0, .int .u8 0, .int .u8 0, .int .u16 0, .bool false, .int .u8 0, .int .u8 0, .int .u8 0, .int .u8 0, .int .u8 0, .int .u8 0, .int .u8 0, .int .u8 0, .int .u8 0, .int .u8 0, .int .u8 0, .int .u8 0, .int .u8 0, .int .u8 0, .int .u8 0, .int .u8 0, .int .u16 0, .int .u64 0]
set_option maxRecDepth 20000 in
instance : SzA wdz 2 := ⟨rfl⟩
set_option maxRecDepth 20000 in
instance : SzA key0 37 := ⟨rfl⟩
set_option maxRecDepth 20000 in
instance : OneA wdz := ⟨by kernel_rfl⟩
set_option maxRecDepth 20000 in
instance : OneA key0 := ⟨by kernel_rfl⟩
set_option maxRecDepth 20000 in
instance en_sz (k a : Array Value) (d : Bool) [hk : SzA k 37] [ha : SzA a 2] : SzA (enC k a d) 40 := ⟨en_size⟩
set_option maxRecDepth 20000 in
instance en_one (k a : Array Value) (d : Bool) [hk : OneA k] [ha : OneA a] : OneA (enC k a d) := by
  unfold enC
  have : OneA #[Value.bool d] := ⟨by rw [Array.all_eq_true_iff_forall_mem]; intro v hv; simp at hv; subst hv; rfl⟩
  infer_instance
set_option maxRecDepth 20000 in
/-- the zero entry, as alloc lays it -/
theorem blk_en0 {w : World} {g : Nat} (h : Blk w g 45 (key0 ++ wdz ++ #[.bool false])) : Blk w g 45 (enC key0 wdz false) := h
set_option maxRecDepth 20000 in
theorem mo_drew {a b : World} (h : Mo a b) : Mo a b.drew := h.trans (Mor.out : Mo b b.drew)
set_option maxRecDepth 20000 in
theorem loadF_entry (v : Value) : Instr.loadAt 45 v = loadF 45 v := rfl
set_option maxRecDepth 20000 in
theorem storeF_entry (v x : Value) : Instr.storeAt 45 v x = storeF 45 v x := rfl
set_option maxRecDepth 20000 in
theorem buildF_entry (l : Array (Nat × Value)) : Instr.build 45 l = buildF 45 l := rfl
set_option maxRecDepth 20000 in
theorem arr37 {cs : Array Value} (h : cs.size = 37) : ∃ x0 x1 x2 x3 x4 x5 x6 x7 x8 x9 x10 x11 x12 x13 x14 x15 x16 x17 x18 x19 x20 x21 x22 x23 x24 x25 x26 x27 x28 x29 x30 x31 x32 x33 x34 x35 x36, cs = #[x0, x1, x2, x3, x4, x5, x6, x7, x8, x9, x10, x11, x12, x13, x14, x15, x16, x17, x18, x19, x20, x21, x22, x23, x24, x25, x26, x27, x28, x29, x30, x31, x32, x33, x34, x35, x36] := by
  obtain ⟨l⟩ := cs
  match l, h with
  | x0 :: x1 :: x2 :: x3 :: x4 :: x5 :: x6 :: x7 :: x8 :: x9 :: x10 :: x11 :: x12 :: x13 :: x14 :: x15 :: x16 :: x17 :: x18 :: x19 :: x20 :: x21 :: x22 :: x23 :: x24 :: x25 :: x26 :: x27 :: x28 :: x29 :: x30 :: x31 :: x32 :: x33 :: x34 :: x35 :: x36 :: [], _ => exact ⟨_, _, _, _, _, _, _, _, _, _, _, _, _, _, _, _, _, _, _, _, _, _, _, _, _, _, _, _, _, _, _, _, _, _, _, _, _, rfl⟩
set_option maxRecDepth 20000 in
theorem run_build_entry0 (w : World) : (buildF 45 #[]).run Try.prog w = .ok (.agg (enC key0 wdz false)) w := run_build w _ _ _ (by kernel_rfl)
set_option maxRecDepth 20000 in
theorem run_build_entryk (k : Array Value) [hk : SzA k 37] (w : World) : (buildF 45 #[(0, .agg k)]).run Try.prog w = .ok (.agg (enC k wdz false)) w := by
  obtain ⟨x0, x1, x2, x3, x4, x5, x6, x7, x8, x9, x10, x11, x12, x13, x14, x15, x16, x17, x18, x19, x20, x21, x22, x23, x24, x25, x26, x27, x28, x29, x30, x31, x32, x33, x34, x35, x36, rfl⟩ := arr37 hk.out
  exact run_build w _ _ _ (by kernel_rfl)
set_option maxRecDepth 20000 in
theorem ret_cell2 {fn : Func} {p u : Tmp} {T : TypeId} {R : Ending → World → Prop} {a : Act} {w : World} (hr : fn.results = #[.cell p T, .tmp u]) (g : Nat) (cs : Array Value) (hp : a.tmps.getD p undef = .pointer (some ⟨g, 0, none⟩)) (hd : a.defers = []) {n : Nat} [h : RowT T n] [z : SzA cs n] (b : Blk w g T cs)
    (hR : R (.returned (.tuple #[.agg cs, a.tmps.getD u undef])) w) : bodyPost Try.prog fn R .ret a w := ret_cell_tmp hr g _ hp hd (loadVar_flat T b z.out) hR
attribute [local go_sem] run_neq_mapN
attribute [local go_sem] blk_cell' blk_frozen' nd_old nd_new nd_ans nd_key nd_en
attribute [local go_sem ↓] loadF_key loadF_entry storeF_entry buildF_entry
attribute [local go_sem] run_loadFo run_loadFz run_loadF0 run_storeF0 run_build_entry0 run_build_entryk
def NewRet (k : Int) (W : World) (e : Ending) (w' : World) : Prop :=
  Mo W w' ∧ ((1 ≤ k ∧ k ≤ 65536 ∧ ∃ T B, e = .returned (.tuple #[ptr T, .int .i64 0]) ∧ TabAt w' T B k [] ∧ W.heap.size ≤ T ∧ W.heap.size ≤ B) ∨ (¬ (1 ≤ k ∧ k ≤ 65536) ∧ e = .returned (.tuple #[nilp, .int .i64 2])))
set_option maxRecDepth 20000 in
set_option maxHeartbeats 4000000 in
theorem new_any (k : Int) (W : World) : Calls Try.prog 8 #[.int .i64 k] W (NewRet k W) := by
  have mk : ∀ w : World, (Instr.makeMap 72 none).run Try.prog w = .ok (.map (some w.heap.size)) (w.alloc (.map #[] 0)) := run_makeMap _
  have hb : ∀ (w : World) (x : Int) (b : Nat), (Instr.build 75 #[(0, .int .i64 x), (1, .map (some b))]).run Try.prog w = .ok (.agg #[.int .i64 x, .map (some b), .pointer none, .pointer none]) w := fun w x b => run_build w _ _ _ (by kernel_rfl)
  by_cases c1 : k < 1
  · have d1 : decide (k < 1) = true := decide_eq_true c1
    go_enter Try.func8, Try.ntmps8
    go_wp2_with fail
    go_ret2
    exact ⟨Mor.out, .inr ⟨by omega, rfl⟩⟩
  · have d1 : decide (k < 1) = false := decide_eq_false c1
    by_cases c2 : 65536 < k
    · have d2 : decide (65536 < k) = true := decide_eq_true c2
      go_enter Try.func8, Try.ntmps8
      go_wp2_with fail
      go_ret2
      exact ⟨Mor.out, .inr ⟨by omega, rfl⟩⟩
    · have d2 : decide (65536 < k) = false := decide_eq_false c2
      go_enter Try.func8, Try.ntmps8
      go_wp2_with fail
      go_ret2
      refine ⟨Mo.trans (Mo.of ((Below.refl _ _).alloc (Nat.le_refl _) _) : Mo W (W.alloc (.map #[] 0))) Mor.out, .inl ⟨by omega, by omega, W.heap.size + 1, W.heap.size, ?_, ?_, by omega, by omega⟩⟩
      · simp [ptr]
      · exact ⟨⟨by rw [show W.heap.size + 1 = (W.alloc (.map #[] 0)).heap.size by simp]; exact (inferInstance : Blk ((W.alloc (.map #[] 0)).alloc (.cells #[.int .i64 k, .map (some W.heap.size), nilp, nilp] 75)) _ _ _).out⟩, trivial, by simp, fun q hq => (by cases hq), (MapIs.made W).keep (by rw [Below.heap_alloc]; simp), by simp, fun q hq => (by cases hq)⟩
set_option maxRecDepth 20000 in
set_option maxHeartbeats 4000000 in
theorem len_any (T B : Nat) (room : Int) (L : List (Nat × En)) (W : World) (h : TabAt W T B room L) :
    Calls Try.prog 13 #[ptr T] W fun e w' => e = .returned (.int .i64 L.length) ∧ Mo W w' := by
  have ht := h.t
  have HM := Lib.hid h.map
  clear h
  generalize firstP L nilp = fp at *
  generalize lastP nilp L = lp at *
  go_enter Try.func13, Try.ntmps13
  go_wp2_with fail
  refine (right_any T B room fp lp _).mono ?_
  rintro e w1 ⟨rfl, M1⟩
  have t1 : Blk w1 T 75 #[.int .i64 room, .map (some B), fp, lp] := M1.blk ht
  have hl := (HM.out.keep (w' := w1) (M1.below.block B (by obtain ⟨_, _, hb⟩ := HM.out.isMap; exact (Array.getElem?_eq_some_iff.1 hb).1))).len 3
  go_wp2_with fail
  go_ret
  exact ⟨rfl, M1⟩
/-- what Find answers -/
def FindRet (L : List (Nat × En)) (k : Array Value) (W : World) (e : Ending) (w' : World) : Prop :=
  Mo W w' ∧ ((∃ q ∈ L, q.2.k = k ∧ e = .returned (.tuple #[.agg (enC q.2.k q.2.a q.2.d), .bool true])) ∨ ((∀ q ∈ L, q.2.k ≠ k) ∧ e = .returned (.tuple #[.agg (enC key0 wdz false), .bool false])))
set_option maxRecDepth 20000 in
set_option maxHeartbeats 8000000 in
theorem find_any (T B : Nat) (room : Int) (L : List (Nat × En)) (k : Array Value) (W : World) (h : TabAt W T B room L) (hk : KeyP k) :
    Calls Try.prog 10 #[ptr T, .agg k] W (FindRet L k W) := by
  obtain ⟨R, hR⟩ : ∃ R, FindRet L k W = R := ⟨_, rfl⟩
  rw [hR]
  have RR := Lib.hid hR
  clear hR
  have HT := Lib.hid h
  have ht := h.t
  have zk0 := key_sz hk
  have HK := Lib.hid hk
  clear h hk
  generalize firstP L nilp = fp at *
  generalize lastP nilp L = lp at *
  go_enter Try.func10, Try.ntmps10
  go_wp2_with fail
  refine (right_any T B room fp lp _).mono ?_
  rintro e w1 ⟨rfl, M1⟩
  have N1 := (Mor.out : Mo W _).trans M1
  have t1 : Blk w1 T 75 #[.int .i64 room, .map (some B), fp, lp] := N1.blk ht
  have k1 : Blk w1 W.heap.size 38 k := M1.blk inferInstance
  have r1 : Blk w1 (W.heap.size + 1) 45 (enC key0 wdz false) := M1.blk (blk_en0 inferInstance)
  have T1 := Lib.hid (HT.out.mo N1)
  clear M1 ht
  by_cases c : ∃ q ∈ L, q.2.k = k
  · obtain ⟨⟨g, en⟩, hq, rfl⟩ := c
    have lk := (T1.out.map.keep (w' := w1.drew) rfl).yes hq HK.out
    obtain ⟨o, x, bg⟩ := seg_blk T1.out.seg _ hq
    have za := at_sz (T1.out.ok _ hq).a
    have oa := one_of_fits (T1.out.ok _ hq).a
    have ok' := one_of_fits HK.out
    have HQ := Lib.hid hq
    obtain ⟨ek, ea, ed⟩ := en
    simp only at zk0 lk bg za oa ok' k1
    go_upto_region 3 with (fail)
    go_region
    go_wp2_with fail
    refine ret_cell2 Try.results10 (W.heap.size + 1) (enC ek ea ed) rfl rfl ⟨(blk_setRow r1).out⟩ ?_
    rw [← RR.out]
    exact ⟨mo_drew (mo_setRow N1 (Nat.le_succ _) _), .inl ⟨_, HQ.out, rfl, rfl⟩⟩
  · have hn : ∀ q ∈ L, q.2.k ≠ k := fun q hq e => c ⟨q, hq, e⟩
    have lk := (T1.out.map.keep (w' := w1.drew) rfl).no HK.out (fun q hq => (T1.out.ok q hq).k) hn
    have HN := Lib.hid hn
    clear hn c
    go_upto_region 3 with (fail)
    go_region
    go_wp2_with fail
    refine ret_cell2 Try.results10 (W.heap.size + 1) (enC key0 wdz false) rfl rfl ⟨(blk_setRow r1).out⟩ ?_
    rw [← RR.out]
    exact ⟨mo_drew (mo_setRow N1 (Nat.le_succ _) _), .inr ⟨HN.out, rfl⟩⟩
/-- what Answer answers -/
noncomputable def AnsL (L : List (Nat × En)) (k : Array Value) : List (Nat × En) := L.map fun q => if eqA q.2.k k then (q.1, ⟨q.2.k, q.2.a, true⟩) else q
def AnswerRet (T B : Nat) (room : Int) (L : List (Nat × En)) (k : Array Value) (W : World) (e : Ending) (w' : World) : Prop :=
  TabAt w' T B room (AnsL L k) ∧ KpS (Foot T B L) W w' ∧ ((∃ q ∈ L, q.2.k = k ∧ e = .returned (.tuple #[.agg (enC q.2.k q.2.a q.2.d), .int .u8 (if q.2.d then 6 else 4)])) ∨ ((∀ q ∈ L, q.2.k ≠ k) ∧ e = .returned (.tuple #[.agg (enC k wdz false), .int .u8 7])))
set_option maxRecDepth 20000 in
theorem ansL_none {L : List (Nat × En)} {k : Array Value} (h : ∀ q ∈ L, q.2.k ≠ k) : AnsL L k = L := by
  unfold AnsL
  conv => rhs; rw [← List.map_id L]
  refine List.map_congr_left fun q hq => ?_
  rw [if_neg]
  · rfl
  · intro e; exact h q hq (eqA_iff.1 e)
set_option maxRecDepth 20000 in
theorem ansL_split {A C : List (Nat × En)} {g : Nat} {e : En} (nd : ((A ++ (g, e) :: C).map (·.2.k)).Nodup) : AnsL (A ++ (g, e) :: C) e.k = A ++ (g, ⟨e.k, e.a, true⟩) :: C := by
  rw [List.map_append, List.map_cons, List.nodup_append, List.nodup_cons] at nd
  have h1 : AnsL A e.k = A := ansL_none fun q hq c => nd.2.2 _ (List.mem_map_of_mem hq) _ List.mem_cons_self c
  have h2 : AnsL C e.k = C := ansL_none fun q hq c => nd.2.1.1 (by rw [← c]; exact List.mem_map.2 ⟨q, hq, rfl⟩)
  have h3 : AnsL (A ++ (g, e) :: C) e.k = AnsL A e.k ++ (if eqA e.k e.k then (g, ⟨e.k, e.a, true⟩) else (g, e)) :: AnsL C e.k := by
    unfold AnsL; rw [List.map_append, List.map_cons]
  rw [h3, h1, h2, if_pos (eqA_self _)]
set_option maxRecDepth 20000 in
theorem seg_set {W : World} : ∀ {A C : List (Nat × En)} {p n : Value} {g : Nat} {e e' : En} {o x : Value} {w' : World}, Seg W p (A ++ (g, e) :: C) n → Blk W g 80 (ndE e o x) → Blk w' g 80 (ndE e' o x) → SzA e.k 37 → SzA e.a 2 → (∀ q ∈ A ++ C, w'.heap[q.1]? = W.heap[q.1]?) → Seg w' p (A ++ (g, e') :: C) n := by
  intro A C p n g e e' o x w' h b b' z1 z2 k
  rw [seg_append] at h ⊢
  obtain ⟨h1, h2, h3⟩ := h
  have h1' : firstP ((g, e) :: C) n = firstP ((g, e') :: C) n := rfl
  rw [h1'] at h1
  refine ⟨seg_keep h1 fun q hq => k q (List.mem_append_left _ hq), ?_, seg_keep h3 fun q hq => k q (List.mem_append_right _ hq)⟩
  have e1 := h2.out.symm.trans b.out
  have e2 : ndE e (lastP p A) (firstP C n) = ndE e o x := by
    injection e1 with e1
    injection e1
  have f1 := congrArg (fun a => a[40]?) e2
  have f2 := congrArg (fun a => a[41]?) e2
  simp only [ndE, nd_old, nd_new, Option.some.injEq] at f1 f2
  rw [f1, f2]
  exact b'
set_option maxRecDepth 20000 in
theorem tab_set {W w' : World} {T B : Nat} {room : Int} {A C : List (Nat × En)} {g : Nat} {e : En} {o x : Value} {d : Bool} (h : TabAt W T B room (A ++ (g, e) :: C)) (b : Blk W g 80 (ndE e o x)) (b' : Blk w' g 80 (ndC e.k e.a d o x)) (k : KpS (fun k => k = g) W w') :
    TabAt w' T B room (A ++ (g, ⟨e.k, e.a, d⟩) :: C) := by
  have hm : (g, e) ∈ A ++ (g, e) :: C := by simp
  have z1 := key_sz (h.ok _ hm).k
  have z2 := at_sz (h.ok _ hm).a
  have hgT := h.nT _ hm
  have hgB := h.nB _ hm
  have nd := h.nod
  rw [List.map_append, List.map_cons, List.nodup_append, List.nodup_cons] at nd
  refine ⟨?_, ?_, ?_, ?_, ?_, ?_, ?_⟩
  · have := h.t
    rw [firstP_append, lastP_append] at this ⊢
    exact ⟨(k.block T h.t.lt (Ne.symm hgT)).trans this.out⟩
  · refine seg_set (e' := ⟨e.k, e.a, d⟩) h.seg b b' z1 z2 fun q hq => ?_
    have hq' : q ∈ A ++ (g, e) :: C := by
      rcases List.mem_append.1 hq with k | k
      · exact List.mem_append_left _ k
      · exact List.mem_append_right _ (List.mem_cons_of_mem _ k)
    refine k.block _ (seg_lt h.seg q hq') ?_
    rcases List.mem_append.1 hq with k | k
    · exact fun c => nd.2.2 _ (List.mem_map_of_mem k) _ List.mem_cons_self c
    · exact fun c => nd.2.1.1 (by rw [show (g, e).1 = q.1 from c.symm]; exact List.mem_map.2 ⟨q, k, rfl⟩)
  · have := h.nod; simpa using this
  · intro q hq
    rcases List.mem_append.1 hq with k | k
    · exact h.nT q (List.mem_append_left _ k)
    · rcases List.mem_cons.1 k with rfl | k
      · exact hgT
      · exact h.nT q (List.mem_append_right _ (List.mem_cons_of_mem _ k))
  · have hm2 := h.map.keep (k.block B (h.lt B (.inr (.inl rfl))) (Ne.symm hgB))
    obtain ⟨D, h1, h2, h3, h4, h5⟩ := hm2
    refine ⟨D, by simpa using h1, h2, by simpa using h3, fun q hq => ?_, fun kl => ?_⟩
    · rcases List.mem_append.1 hq with k | k
      · exact h4 q (List.mem_append_left _ k)
      · rcases List.mem_cons.1 k with rfl | k
        · exact h4 (g, e) hm
        · exact h4 q (List.mem_append_right _ (List.mem_cons_of_mem _ k))
    · rw [h5 kl]
      constructor
      · rintro ⟨q, hq, e1⟩
        rcases List.mem_append.1 hq with k | k
        · exact ⟨q, List.mem_append_left _ k, e1⟩
        · rcases List.mem_cons.1 k with rfl | k
          · exact ⟨(g, ⟨e.k, e.a, d⟩), by simp, e1⟩
          · exact ⟨q, List.mem_append_right _ (List.mem_cons_of_mem _ k), e1⟩
      · rintro ⟨q, hq, e1⟩
        rcases List.mem_append.1 hq with k | k
        · exact ⟨q, List.mem_append_left _ k, e1⟩
        · rcases List.mem_cons.1 k with rfl | k
          · exact ⟨(g, e), by simp, e1⟩
          · exact ⟨q, List.mem_append_right _ (List.mem_cons_of_mem _ k), e1⟩
  · have := h.keys; simpa using this
  · intro q hq
    rcases List.mem_append.1 hq with k | k
    · exact h.ok q (List.mem_append_left _ k)
    · rcases List.mem_cons.1 k with rfl | k
      · exact ⟨(h.ok _ hm).k, (h.ok _ hm).a⟩
      · exact h.ok q (List.mem_append_right _ (List.mem_cons_of_mem _ k))
set_option maxRecDepth 20000 in
set_option maxHeartbeats 8000000 in
theorem answer_any (T B : Nat) (room : Int) (L : List (Nat × En)) (k : Array Value) (W : World) (h : TabAt W T B room L) (hk : KeyP k) :
    Calls Try.prog 12 #[ptr T, .agg k] W (AnswerRet T B room L k W) := by
  obtain ⟨R, hR⟩ : ∃ R, AnswerRet T B room L k W = R := ⟨_, rfl⟩
  rw [hR]
  have RR := Lib.hid hR
  clear hR
  have HT := Lib.hid h
  have ht := h.t
  have zk0 := key_sz hk
  have HK := Lib.hid hk
  clear h hk
  generalize firstP L nilp = fp at *
  generalize lastP nilp L = lp at *
  go_enter Try.func12, Try.ntmps12
  go_wp2_with fail
  refine (right_any T B room fp lp _).mono ?_
  rintro e w1 ⟨rfl, M1⟩
  have N1 := (Mor.out : Mo W _).trans M1
  have t1 : Blk w1 T 75 #[.int .i64 room, .map (some B), fp, lp] := N1.blk ht
  have k1 : Blk w1 W.heap.size 38 k := M1.blk inferInstance
  have r1 : Blk w1 (W.heap.size + 1) 45 (enC key0 wdz false) := M1.blk (blk_en0 inferInstance)
  have T1 := Lib.hid (HT.out.mo N1)
  clear M1 ht
  by_cases c : ∃ q ∈ L, q.2.k = k
  · obtain ⟨⟨g, en⟩, hq, rfl⟩ := c
    obtain ⟨A, C, hs⟩ := List.append_of_mem hq
    have lk := (T1.out.map.keep (w' := w1.drew) rfl).yes hq HK.out
    obtain ⟨o, x, bg⟩ := seg_blk T1.out.seg _ hq
    have za := at_sz (T1.out.ok _ hq).a
    have oa := one_of_fits (T1.out.ok _ hq).a
    have ok' := one_of_fits HK.out
    have hgl : g < W.heap.size := seg_lt HT.out.seg _ hq
    have HQ := Lib.hid hq
    have HS := Lib.hid hs
    obtain ⟨ek, ea, ed⟩ := en
    simp only at zk0 lk bg za oa ok' k1
    clear hq hs
    have AL : Hid (AnsL L ek = A ++ (g, ⟨ek, ea, true⟩) :: C) := Lib.hid (by
      have := HT.out.keys
      rw [HS.out] at this ⊢
      exact ansL_split (e := ⟨ek, ea, ed⟩) this)
    cases ed with
    | true =>
      go_upto_region 3 with (fail)
      go_region
      go_wp2_with fail
      have rr := blk_setRow (cs' := enC ek ea true) r1
      refine ret_cell2 Try.results12 (W.heap.size + 1) (enC ek ea true) rfl rfl ⟨(inferInstance : Blk ((w1.setRow (W.heap.size + 1) (enC ek ea true)).alloc (.cells (enC ek ea true) 45)) (W.heap.size + 1) 45 (enC ek ea true)).out⟩ ?_
      rw [← RR.out]
      have M8 : Mo W (w1.setRow (W.heap.size + 1) (enC ek ea true)) := mo_setRow N1 (Nat.le_succ _) _
      have M9 : Mo W ((w1.setRow (W.heap.size + 1) (enC ek ea true)).alloc (.cells (enC ek ea true) 45)).drew := mo_drew (M8.trans Mor.out)
      exact ⟨by rw [AL.out, ← HS.out]; exact HT.out.mo M9, KpS.of_mo M9, .inl ⟨_, HQ.out, rfl, rfl⟩⟩
    | false =>
      go_upto_region 3 with (fail)
      go_region
      go_upto_region 9 with (fail)
      refine wp_name ?_
      intro w2 hw2
      have b2 : Blk w2 g 80 (ndC ek ea false o x) := by rw [hw2]; exact ⟨(inferInstance : Blk (w1.alloc (.cells (enC ek ea false) 45)) g 80 (ndC ek ea false o x)).out⟩
      have r2 : Blk w2 (W.heap.size + 1) 45 (enC key0 wdz false) := by rw [hw2]; exact ⟨(inferInstance : Blk (w1.alloc (.cells (enC ek ea false) 45)) (W.heap.size + 1) 45 (enC key0 wdz false)).out⟩
      have s2 : Blk w2 w1.heap.size 45 (enC ek ea false) := by rw [hw2]; exact ⟨(inferInstance : Blk (w1.alloc (.cells (enC ek ea false) 45)) w1.heap.size 45 (enC ek ea false)).out⟩
      have M2 : Mo W w2 := by rw [hw2]; exact mo_drew (N1.trans Mor.out)
      have hgr : g ≠ W.heap.size + 1 := by omega
      have hgs : g ≠ w1.heap.size := by have := N1.size; omega
      clear hw2 r1 bg k1 t1
      go_upto_region 10 with (fail)
      refine wp_name ?_
      intro w3 hw3
      have b3 : Blk w3 g 80 (ndC ek ea true o x) := by
        have := blk_setCell b2 39 (.bool true)
        rw [nd_set39] at this
        rw [hw3]; exact this
      have r3 : Blk w3 (W.heap.size + 1) 45 (enC key0 wdz false) := by rw [hw3]; exact blk_setCell_ne r2 hgr _ _
      have s3 : Blk w3 w1.heap.size 45 (enC ek ea false) := by rw [hw3]; exact blk_setCell_ne s2 hgs _ _
      have K3' : KpS (fun k => k = g) W w3 := by rw [hw3]; exact (KpS.of_mo (S := fun k => k = g) M2).cell rfl 39 _
      clear hw3 r2 s2
      go_wp2_with fail
      have rr := blk_setRow (cs' := enC ek ea false) r3
      refine ret_cell2 Try.results12 (W.heap.size + 1) (enC ek ea false) rfl rfl rr ?_
      rw [← RR.out]
      have K3 : KpS (fun k => k = g) W (w3.setRow (W.heap.size + 1) (enC ek ea false)) := by
        refine ⟨K3'.os, K3'.tape, K3'.output, ?_, fun k h1 h2 => ?_⟩
        · rw [setRow_size']
          exact K3'.size
        · rw [setRow_get_ne _ _ _ _ (by omega)]
          exact K3'.block k h1 h2
      replace b3 := blk_setRow_ne (cs' := enC ek ea false) b3 (Ne.symm hgr)
      refine ⟨?_, K3.mono fun i hi e => .inr (.inr ⟨_, HQ.out, e.symm⟩), .inl ⟨_, HQ.out, rfl, rfl⟩⟩
      have hT := HT.out
      rw [AL.out]
      rw [HS.out] at hT
      obtain ⟨o', x', b0⟩ := seg_blk HT.out.seg _ HQ.out
      have e1 := (M2.blk b0).out.symm.trans b2.out
      have e2 : ndE ⟨ek, ea, false⟩ o' x' = ndC ek ea false o x := by
        injection e1 with e1
        injection e1
      have f1 := congrArg (fun a => a[40]?) e2
      have f2 := congrArg (fun a => a[41]?) e2
      simp only [ndE, nd_old, nd_new, Option.some.injEq] at f1 f2
      subst f1 f2
      exact tab_set hT b0 b3 K3
  · have hn : ∀ q ∈ L, q.2.k ≠ k := fun q hq e => c ⟨q, hq, e⟩
    have lk := (T1.out.map.keep (w' := w1.drew) rfl).no HK.out (fun q hq => (T1.out.ok q hq).k) hn
    have HN := Lib.hid hn
    have ok' := one_of_fits HK.out
    clear hn c
    go_upto_region 3 with (fail)
    go_region
    go_wp2_with fail
    refine ret_cell2 Try.results12 (W.heap.size + 1) (enC k wdz false) rfl rfl ⟨(blk_setRow r1).out⟩ ?_
    rw [← RR.out]
    have M9 : Mo W (w1.setRow (W.heap.size + 1) (enC k wdz false)).drew := mo_drew (mo_setRow N1 (Nat.le_succ _) _)
    exact ⟨by rw [ansL_none HN.out]; exact HT.out.mo M9, KpS.of_mo M9, .inr ⟨HN.out, rfl⟩⟩
end Go.Proofs.Ytlbkcjpnlnlmiaa
