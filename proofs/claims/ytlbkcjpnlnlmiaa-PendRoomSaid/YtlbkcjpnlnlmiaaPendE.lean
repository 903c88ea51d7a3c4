/- pend.Ask: the walk (printed by gen/genpende.py). -/
import Derived.Test.YtlbkcjpnlnlmiaaPendD
namespace Go.Proofs.Ytlbkcjpnlnlmiaa
open Go.RowKit Go.Maps

noncomputable def strike (E : List En) (k : Array Value) : List En := E.filter fun e => !eqA e.k k
noncomputable def hasE (E : List En) (k : Array Value) : Bool := E.any fun e => eqA e.k k
/-- what Ask answers: again, what goes, and what is left -/
noncomputable def askE (room : Int) (E : List En) (k a : Array Value) : Bool × Option En × List En :=
  if ((strike E k ++ [(⟨k, a, false⟩ : En)]).length : Int) ≤ room then (hasE E k, none, strike E k ++ [(⟨k, a, false⟩ : En)]) else (hasE E k, (strike E k ++ [(⟨k, a, false⟩ : En)]).head?, (strike E k ++ [(⟨k, a, false⟩ : En)]).tail)
def outV : Option En → Value
  | none => .agg (enC key0 wdz false)
  | some e => .agg (enC e.k e.a e.d)
def AskRet (T B : Nat) (room : Int) (L : List (Nat × En)) (k a : Array Value) (W : World) (e : Ending) (w' : World) : Prop :=
  ∃ L', TabAt w' T B room L' ∧ KpS (Foot T B L) W w' ∧ (∀ i, i < W.heap.size → Foot T B L' i → Foot T B L i) ∧ L'.map (·.2) = (askE room (L.map (·.2)) k a).2.2 ∧
    e = .returned (.tuple #[.bool (askE room (L.map (·.2)) k a).1, outV (askE room (L.map (·.2)) k a).2.1, .bool (askE room (L.map (·.2)) k a).2.1.isSome])
set_option maxRecDepth 20000 in
theorem ask_le {room : Int} {E X : List En} {k a : Array Value} (h : X = strike E k ++ [(⟨k, a, false⟩ : En)]) (c : (X.length : Int) ≤ room) : askE room E k a = (hasE E k, none, X) := by
  unfold askE
  rw [← h, if_pos c]
set_option maxRecDepth 20000 in
theorem ask_gt {room : Int} {E X : List En} {x : En} {k a : Array Value} (h : x :: X = strike E k ++ [(⟨k, a, false⟩ : En)]) (c : ¬ ((x :: X).length : Int) ≤ room) : askE room E k a = (hasE E k, some x, X) := by
  unfold askE
  rw [← h, if_neg c]
  rfl
set_option maxRecDepth 20000 in
theorem strike_split {A C : List (Nat × En)} {g : Nat} {e : En} (nd : ((A ++ (g, e) :: C).map (·.2.k)).Nodup) : strike ((A ++ (g, e) :: C).map (·.2)) e.k = (A ++ C).map (·.2) := by
  rw [List.map_append, List.map_cons, List.nodup_append, List.nodup_cons] at nd
  unfold strike
  rw [List.map_append, List.map_cons, List.filter_append, List.filter_cons_of_neg (by simp [eqA_self]), List.map_append]
  congr 1
  · rw [List.filter_eq_self]
    intro x hx
    obtain ⟨q, hq, rfl⟩ := List.mem_map.1 hx
    simp only [Bool.not_eq_true', Bool.eq_false_iff]
    exact fun c => nd.2.2 _ (List.mem_map_of_mem hq) _ List.mem_cons_self (eqA_iff.1 c)
  · rw [List.filter_eq_self]
    intro x hx
    obtain ⟨q, hq, rfl⟩ := List.mem_map.1 hx
    simp only [Bool.not_eq_true', Bool.eq_false_iff]
    exact fun c => nd.2.1.1 (by rw [← eqA_iff.1 c]; exact List.mem_map.2 ⟨q, hq, rfl⟩)
set_option maxRecDepth 20000 in
theorem strike_none {L : List (Nat × En)} {k : Array Value} (h : ∀ q ∈ L, q.2.k ≠ k) : strike (L.map (·.2)) k = L.map (·.2) := by
  unfold strike
  rw [List.filter_eq_self]
  intro x hx
  obtain ⟨q, hq, rfl⟩ := List.mem_map.1 hx
  simp only [Bool.not_eq_true', Bool.eq_false_iff]
  exact fun c => h q hq (eqA_iff.1 c)
set_option maxRecDepth 20000 in
theorem hasE_yes {L : List (Nat × En)} {q : Nat × En} (h : q ∈ L) : hasE (L.map (·.2)) q.2.k = true := by
  unfold hasE
  rw [List.any_eq_true]
  exact ⟨q.2, List.mem_map.2 ⟨q, h, rfl⟩, eqA_self _⟩
set_option maxRecDepth 20000 in
theorem hasE_no {L : List (Nat × En)} {k : Array Value} (h : ∀ q ∈ L, q.2.k ≠ k) : hasE (L.map (·.2)) k = false := by
  unfold hasE
  rw [Bool.eq_false_iff]
  intro c
  obtain ⟨x, hx, e⟩ := List.any_eq_true.1 c
  obtain ⟨q, hq, rfl⟩ := List.mem_map.1 hx
  exact h q hq (eqA_iff.1 e)
set_option maxRecDepth 20000 in
theorem KpS.row' {S : Nat → Prop} {w w' : World} (h : KpS S w w') {g : Nat} (s : w.heap.size ≤ g) (cs : Array Value) : KpS S w (w'.setRow g cs).drew :=
  ⟨h.os, h.tape, h.output, by show _ ≤ (w'.setRow g cs).heap.size; rw [setRow_size']; exact h.size, fun k h1 h2 => (setRow_get_ne w' g k cs (by omega)).trans (h.block k h1 h2)⟩
set_option maxRecDepth 20000 in
theorem arr2' {cs : Array Value} (h : cs.size = 2) : ∃ x0 x1, cs = #[x0, x1] := by
  obtain ⟨l⟩ := cs
  match l, h with
  | [x0, x1], _ => exact ⟨_, _, rfl⟩
set_option maxRecDepth 20000 in
theorem run_build_entryka (k a : Array Value) [hk : SzA k 37] [ha : SzA a 2] (w : World) : (buildF 45 #[(0, .agg k), (1, .agg a)]).run Try.prog w = .ok (.agg (enC k a false)) w := by
  obtain ⟨x0, x1, x2, x3, x4, x5, x6, x7, x8, x9, x10, x11, x12, x13, x14, x15, x16, x17, x18, x19, x20, x21, x22, x23, x24, x25, x26, x27, x28, x29, x30, x31, x32, x33, x34, x35, x36, rfl⟩ := arr37 hk.out
  obtain ⟨y0, y1, rfl⟩ := arr2' ha.out
  exact run_build w _ _ _ (by kernel_rfl)
set_option maxRecDepth 20000 in
theorem buildF_node (l : Array (Nat × Value)) : Instr.build 80 l = buildF 80 l := rfl
set_option maxRecDepth 20000 in
theorem run_build_node (k a : Array Value) [hk : SzA k 37] [ha : SzA a 2] (w : World) : (buildF 80 #[(0, .agg (enC k a false))]).run Try.prog w = .ok (.agg (ndC k a false nilp nilp)) w := by
  obtain ⟨x0, x1, x2, x3, x4, x5, x6, x7, x8, x9, x10, x11, x12, x13, x14, x15, x16, x17, x18, x19, x20, x21, x22, x23, x24, x25, x26, x27, x28, x29, x30, x31, x32, x33, x34, x35, x36, rfl⟩ := arr37 hk.out
  obtain ⟨y0, y1, rfl⟩ := arr2' ha.out
  exact run_build w _ _ _ (by kernel_rfl)
set_option maxRecDepth 20000 in
theorem results_tct {fn : Func} {s p u : Tmp} {ty : TypeId} (h : fn.results = #[.tmp s, .cell p ty, .tmp u]) (tmps : Array Value) (P : Program) (w : World) :
    (results fn tmps).run P w =
      ((asAddr (tmps.getD p undef)).run P w).andThen fun a w₁ => ((loadVar ty a).run P w₁).andThen fun v w₂ => .ok (.tuple #[tmps.getD s undef, v, tmps.getD u undef]) w₂ := by
  simp only [results, h]
  simp [Sem.run_bind, Result.andThen]
set_option maxRecDepth 20000 in
theorem ret_tct {fn : Func} {s p u : Tmp} {T : TypeId} {R : Ending → World → Prop} {a : Act} {w : World} (hr : fn.results = #[.tmp s, .cell p T, .tmp u]) (g : Nat) (cs : Array Value) (hp : a.tmps.getD p undef = .pointer (some ⟨g, 0, none⟩)) (hd : a.defers = []) {n : Nat} [h : RowT T n] [z : SzA cs n] (b : Blk w g T cs)
    (hR : R (.returned (.tuple #[a.tmps.getD s undef, .agg cs, a.tmps.getD u undef])) w) : bodyPost Try.prog fn R .ret a w :=
  bodyPost_ret (v := .tuple #[a.tmps.getD s undef, .agg cs, a.tmps.getD u undef]) (by
    rw [results_tct hr, hp]
    have e : (asAddr (.pointer (some ⟨g, 0, none⟩))).run Try.prog w = .ok (⟨g, 0, none⟩ : Addr) w := rfl
    rw [e, Result.andThen_ok, loadVar_flat T b z.out, Result.andThen_ok]) hd hR
set_option maxRecDepth 20000 in
theorem loadF_wide' (v : Value) : Instr.loadAt 40 v = loadF 40 v := rfl
attribute [local go_sem] run_neq_mapN
attribute [local go_sem] blk_cell' blk_frozen' nd_old nd_new nd_ans nd_key nd_en
attribute [local go_sem ↓] loadF_key loadF_entry storeF_entry buildF_entry loadF_wide' buildF_node
attribute [local go_sem] run_loadFo run_loadFz run_loadF0 run_storeF0 run_build_entry0 run_build_entryka run_build_node
set_option maxRecDepth 20000 in
set_option maxHeartbeats 16000000 in
theorem ask_any (T B : Nat) (room : Int) (L : List (Nat × En)) (k a : Array Value) (W : World) (h : TabAt W T B room L) (hk : KeyP k) (ha : Fits (ksOf 40) a.toList) (hl : L.length ≤ 65536) :
    Calls Try.prog 11 #[ptr T, .agg k, .agg a] W (AskRet T B room L k a W) := by
  obtain ⟨R, hR⟩ : ∃ R, AskRet T B room L k a W = R := ⟨_, rfl⟩
  rw [hR]
  have RR := Lib.hid hR
  have HT := Lib.hid h
  have ht := h.t
  have zk0 := key_sz hk
  have za0 := at_sz ha
  have ok0 := one_of_fits hk
  have oa0 := one_of_fits ha
  have HK := Lib.hid hk
  have HA := Lib.hid ha
  have HL := Lib.hid hl
  clear hR h hk ha hl
  generalize firstP L nilp = fp at *
  generalize lastP nilp L = lp at *
  go_enter Try.func11, Try.ntmps11
  go_wp2_with fail
  refine (right_any T B room fp lp _).mono ?_
  rintro e w1 ⟨rfl, M1⟩
  have N1 := (Mor.out : Mo W _).trans M1
  have t1 : Blk w1 T 75 #[.int .i64 room, .map (some B), fp, lp] := N1.blk ht
  have k1 : Blk w1 W.heap.size 38 k := M1.blk inferInstance
  have a1 : Blk w1 (W.heap.size + 1) 40 a := M1.blk inferInstance
  have r1 : Blk w1 (W.heap.size + 2) 45 (enC key0 wdz false) := M1.blk (blk_en0 inferInstance)
  have T1 := Lib.hid (HT.out.mo N1)
  clear M1 ht
  by_cases c : ∃ q ∈ L, q.2.k = k
  · obtain ⟨⟨g, en⟩, hq, rfl⟩ := c
    obtain ⟨A, C, hs⟩ := List.append_of_mem hq
    have lk := (T1.out.map.keep (w' := w1.drew) rfl).yes hq HK.out
    have HQ := Lib.hid hq
    obtain ⟨k, ea, ed⟩ := en
    simp only at zk0 lk k1 ok0 RR HK
    subst hs
    clear hq
    go_upto_region 3 with (fail)
    go_region
    go_wp2_with fail
    refine (cut_any T B g room A C ⟨k, ea, ed⟩ _ (T1.out.mo Mor.out)).mono ?_
    rintro e w3 ⟨rfl, T3, -, K3⟩
    have l1 : ∀ i, Foot T B (A ++ (g, ⟨k, ea, ed⟩) :: C) i → i < W.heap.size := HT.out.lt
    have k3 : Blk w3 W.heap.size 38 k := K3.blk inferInstance (fun e => by have := l1 _ e; omega)
    have a3 : Blk w3 (W.heap.size + 1) 40 a := K3.blk inferInstance (fun e => by have := l1 _ e; omega)
    have r3 : Blk w3 (W.heap.size + 2) 45 (enC key0 wdz false) := K3.blk inferInstance (fun e => by have := l1 _ e; omega)
    replace K3 : Hid (KpS (Foot T B (A ++ (g, ⟨k, ea, ed⟩) :: C)) W w3) := Lib.hid ((KpS.of_mo (mo_drew N1)).trans K3 fun _ _ q => q)
    replace T3 := Lib.hid T3
    have SUB : Hid (∀ i, Foot T B (A ++ C) i → Foot T B (A ++ (g, ⟨k, ea, ed⟩) :: C) i) := Lib.hid (by
      rintro i (q | q | ⟨q, hq, e⟩)
      · exact .inl q
      · exact .inr (.inl q)
      · refine .inr (.inr ⟨q, ?_, e⟩)
        rcases List.mem_append.1 hq with h | h
        · exact List.mem_append_left _ h
        · exact List.mem_append_right _ (List.mem_cons_of_mem _ h))
    have HN1 : Hid (∀ q ∈ A ++ C, q.2.k ≠ k) := Lib.hid (by
      have nd := HT.out.keys
      rw [List.map_append, List.map_cons, List.nodup_append, List.nodup_cons] at nd
      intro q hq c
      rcases List.mem_append.1 hq with h | h
      · exact nd.2.2 _ (List.mem_map_of_mem h) _ List.mem_cons_self c
      · exact nd.2.1.1 (by rw [← c]; exact List.mem_map.2 ⟨q, h, rfl⟩))
    have HL1 : Hid ((A ++ C).length ≤ 65536) := Lib.hid (by have := HL.out; simp only [List.length_append, List.length_cons] at this ⊢; omega)
    have HE1 : Hid ((A ++ C).map (·.2) = strike ((A ++ (g, ⟨k, ea, ed⟩) :: C).map (·.2)) k) := Lib.hid (strike_split (e := ⟨k, ea, ed⟩) HT.out.keys).symm
    have HB : Hid (hasE ((A ++ (g, ⟨k, ea, ed⟩) :: C).map (·.2)) k = true) := Lib.hid (hasE_yes HQ.out)
    clear l1 k1 a1 r1 lk t1
    generalize A ++ C = L1 at *
    generalize A ++ (g, (⟨k, ea, ed⟩ : En)) :: C = L at *
    go_wp2_with fail
    refine (push_any T B w3.heap.size room L1 ⟨k, a, false⟩ nilp nilp _ (T3.out.mo Mor.out) inferInstance (by have := T3.out.t.lt; omega) (fun q hq e => by have := seg_lt T3.out.seg q hq; omega) ⟨HK.out, HA.out⟩ HN1.out HL1.out).mono ?_
    rintro e w4 ⟨rfl, T4, K4⟩
    have hr4 : ¬ (W.heap.size + 2 = w3.heap.size ∨ Foot T B L1 (W.heap.size + 2)) := by
      rintro (e | e)
      · have := r3.lt; omega
      · have := HT.out.lt _ (SUB.out _ e); omega
    have r4 : Blk w4 (W.heap.size + 2) 45 (enC key0 wdz false) := K4.blk inferInstance hr4
    have KW : Hid (KpS (Foot T B L) W w4) := Lib.hid ((K3.out.trans (S' := Foot T B L) (KpS.of_mo (Mor.out : Mo w3 (w3.alloc (.cells (ndC k a false nilp nilp) 80)))) fun _ _ q => q).trans K4 fun i hi q => by
      rcases q with q | q
      · exfalso; have := K3.out.size; omega
      · exact SUB.out _ q)
    have FT : Hid (∀ i, i < W.heap.size → Foot T B (L1 ++ [(w3.heap.size, ⟨k, a, false⟩)]) i → Foot T B L i) := Lib.hid (fun i hi q => by
      rcases q with q | q | ⟨q, hq, e⟩
      · exact .inl q
      · exact .inr (.inl q)
      · rcases List.mem_append.1 hq with h | h
        · exact SUB.out i (.inr (.inr ⟨q, h, e⟩))
        · rw [List.mem_singleton] at h
          subst h
          exfalso
          have := K3.out.size
          simp only at e
          omega)
    have NR : Hid (∀ i, Foot T B (L1 ++ [(w3.heap.size, ⟨k, a, false⟩)]) i → i ≠ W.heap.size + 2) := Lib.hid (fun i q e => by
      have h3 := r3.lt
      rcases q with q | q | ⟨q, hq, e'⟩
      · have := HT.out.lt i (.inl q); omega
      · have := HT.out.lt i (.inr (.inl q)); omega
      · rcases List.mem_append.1 hq with h | h
        · have := HT.out.lt _ (SUB.out i (.inr (.inr ⟨q, h, e'⟩))); omega
        · rw [List.mem_singleton] at h
          subst h
          simp only at e'
          omega)
    have T4' := Lib.hid T4
    have hl4 := (T4.map.keep (w' := w4.drew) rfl).len 3
    have t4 := T4.t
    have E1 : Hid ((L1 ++ [(w3.heap.size, (⟨k, a, false⟩ : En))]).map (·.2) = strike (L.map (·.2)) k ++ [⟨k, a, false⟩]) := Lib.hid (by rw [List.map_append, HE1.out]; rfl)
    clear K4 K3 T4 k3 a3 r3 hr4
    generalize hL2 : L1 ++ [(w3.heap.size, (⟨k, a, false⟩ : En))] = L2 at *
    have HL2 := Lib.hid hL2
    clear hL2
    rcases L2 with _ | ⟨⟨g1, e1⟩, L2⟩
    · exact absurd HL2.out (by simp)
    have z1 := key_sz (T4'.out.ok (g1, e1) (by simp)).k
    have z2 := at_sz (T4'.out.ok (g1, e1) (by simp)).a
    have y1 := one_of_fits (T4'.out.ok (g1, e1) (by simp)).k
    have y2 := one_of_fits (T4'.out.ok (g1, e1) (by simp)).a
    rw [show firstP ((g1, e1) :: L2) nilp = ptr g1 from rfl] at t4
    generalize lastP nilp ((g1, e1) :: L2) = lp4 at *
    obtain ⟨n4, hn4⟩ : ∃ n4, ((g1, e1) :: L2).length = n4 := ⟨_, rfl⟩
    rw [hn4] at hl4
    have HN4 := Lib.hid hn4
    clear hn4
    by_cases c : (n4 : Int) ≤ room
    · have d4 : decide ((n4 : Int) ≤ room) = true := decide_eq_true c
      have HC := Lib.hid c
      clear c
      go_upto_region 7 with (fail)
      go_region
      go_wp2_with fail
      have rr := blk_setRow (cs' := enC key0 wdz false) r4
      refine ret_tct Try.results11 (W.heap.size + 2) (enC key0 wdz false) rfl rfl ⟨rr.out⟩ ?_
      rw [← RR.out]
      have AE := ask_le E1.out (room := room) (by rw [List.length_map, HN4.out]; exact HC.out)
      refine ⟨(g1, e1) :: L2, T4'.out.keep (fun i hi hf => setRow_get_ne w4 _ i _ (Ne.symm (NR.out i hf))), KW.out.row' (by omega) _, FT.out, by rw [AE], ?_⟩
      rw [AE, HB.out]
      rfl
    · have d4 : decide ((n4 : Int) ≤ room) = false := decide_eq_false c
      have HC := Lib.hid c
      clear c
      go_upto_region 7 with (fail)
      go_region
      go_wp2_with fail
      refine (cut_any T B g1 room [] L2 e1 _ (T4'.out.mo Mor.out)).mono ?_
      rintro e w5 ⟨rfl, T5, ⟨o, x, bg⟩, K5⟩
      have KX : Hid (KpS (Foot T B ((g1, e1) :: L2)) w4 w5) := Lib.hid ((KpS.of_mo (mo_drew (Mo.refl w4))).trans K5 fun _ _ q => q)
      have r5 : Blk w5 (W.heap.size + 2) 45 (enC key0 wdz false) := KX.out.blk r4 fun e => NR.out _ e rfl
      have T5' := Lib.hid T5
      have hgr : g1 ≠ W.heap.size + 2 := NR.out g1 (.inr (.inr ⟨(g1, e1), by simp, rfl⟩))
      obtain ⟨ek1, ea1, ed1⟩ := e1
      simp only at z1 z2 y1 y2
      clear T5 K5 r4 t4 hl4
      go_upto_region 11 with (fail)
      go_region
      go_wp2_with fail
      have rr := blk_setRow (cs' := enC ek1 ea1 ed1) r5
      refine ret_tct Try.results11 (W.heap.size + 2) (enC ek1 ea1 ed1) rfl rfl ⟨rr.out⟩ ?_
      rw [← RR.out]
      have AE := ask_gt (x := ⟨ek1, ea1, ed1⟩) (X := L2.map (fun x => x.2)) (by have := E1.out; rwa [List.map_cons] at this) (room := room) (by rw [List.length_cons, List.length_map]; have := HN4.out; rw [List.length_cons] at this; rw [this]; have := HC.out; omega)
      have SB : ∀ i, Foot T B L2 i → Foot T B ((g1, (⟨ek1, ea1, ed1⟩ : En)) :: L2) i := by
        rintro i (q | q | ⟨q, hq, e⟩)
        · exact .inl q
        · exact .inr (.inl q)
        · exact .inr (.inr ⟨q, List.mem_cons_of_mem _ hq, e⟩)
      refine ⟨L2, T5'.out.keep (fun i hi hf => setRow_get_ne w5 _ i _ (Ne.symm (NR.out i (SB i hf)))), (KW.out.trans KX.out fun i hi q => FT.out i hi q).row' (by omega) _, fun i hi q => FT.out i hi (SB i q), by rw [AE], ?_⟩
      rw [AE, HB.out]
      rfl
  · have hn : ∀ q ∈ L, q.2.k ≠ k := fun q hq e => c ⟨q, hq, e⟩
    have lk := (T1.out.map.keep (w' := w1.drew) rfl).no HK.out (fun q hq => (T1.out.ok q hq).k) hn
    have HN1 := Lib.hid hn
    have HE1 : Hid (L.map (·.2) = strike (L.map (·.2)) k) := Lib.hid (strike_none hn).symm
    have HB : Hid (hasE (L.map (·.2)) k = false) := Lib.hid (hasE_no hn)
    have SUB : Hid (∀ i, Foot T B L i → Foot T B L i) := Lib.hid fun _ q => q
    have HL1 := HL
    clear hn c
    go_upto_region 3 with (fail)
    go_region
    go_upto_region 6 with (fail)
    refine wp_name ?_
    intro w3 hw3
    have k3 : Blk w3 W.heap.size 38 k := by rw [hw3]; exact ⟨k1.out⟩
    have a3 : Blk w3 (W.heap.size + 1) 40 a := by rw [hw3]; exact ⟨a1.out⟩
    have r3 : Blk w3 (W.heap.size + 2) 45 (enC key0 wdz false) := by rw [hw3]; exact ⟨r1.out⟩
    have K3 : Hid (KpS (Foot T B L) W w3) := Lib.hid (by rw [hw3]; exact KpS.of_mo (mo_drew N1))
    have T3 : Hid (TabAt w3 T B room L) := Lib.hid (by rw [hw3]; exact HT.out.mo (mo_drew N1))
    clear hw3 k1 a1 r1 lk t1
    obtain ⟨L1, hL1⟩ : ∃ L1, L1 = L := ⟨_, rfl⟩
    rw [← hL1] at T3 SUB HE1 HN1 HL1
    rw [hL1] at HE1
    replace HE1 : Hid (L1.map (·.2) = strike (L.map (·.2)) k) := Lib.hid (by rw [hL1]; exact HE1.out)
    replace SUB : Hid (∀ i, Foot T B L1 i → Foot T B L i) := Lib.hid (by rw [hL1]; exact fun _ q => q)
    clear hL1
    go_wp2_with fail
    refine (push_any T B w3.heap.size room L1 ⟨k, a, false⟩ nilp nilp _ (T3.out.mo Mor.out) inferInstance (by have := T3.out.t.lt; omega) (fun q hq e => by have := seg_lt T3.out.seg q hq; omega) ⟨HK.out, HA.out⟩ HN1.out HL1.out).mono ?_
    rintro e w4 ⟨rfl, T4, K4⟩
    have hr4 : ¬ (W.heap.size + 2 = w3.heap.size ∨ Foot T B L1 (W.heap.size + 2)) := by
      rintro (e | e)
      · have := r3.lt; omega
      · have := HT.out.lt _ (SUB.out _ e); omega
    have r4 : Blk w4 (W.heap.size + 2) 45 (enC key0 wdz false) := K4.blk inferInstance hr4
    have KW : Hid (KpS (Foot T B L) W w4) := Lib.hid ((K3.out.trans (S' := Foot T B L) (KpS.of_mo (Mor.out : Mo w3 (w3.alloc (.cells (ndC k a false nilp nilp) 80)))) fun _ _ q => q).trans K4 fun i hi q => by
      rcases q with q | q
      · exfalso; have := K3.out.size; omega
      · exact SUB.out _ q)
    have FT : Hid (∀ i, i < W.heap.size → Foot T B (L1 ++ [(w3.heap.size, ⟨k, a, false⟩)]) i → Foot T B L i) := Lib.hid (fun i hi q => by
      rcases q with q | q | ⟨q, hq, e⟩
      · exact .inl q
      · exact .inr (.inl q)
      · rcases List.mem_append.1 hq with h | h
        · exact SUB.out i (.inr (.inr ⟨q, h, e⟩))
        · rw [List.mem_singleton] at h
          subst h
          exfalso
          have := K3.out.size
          simp only at e
          omega)
    have NR : Hid (∀ i, Foot T B (L1 ++ [(w3.heap.size, ⟨k, a, false⟩)]) i → i ≠ W.heap.size + 2) := Lib.hid (fun i q e => by
      have h3 := r3.lt
      rcases q with q | q | ⟨q, hq, e'⟩
      · have := HT.out.lt i (.inl q); omega
      · have := HT.out.lt i (.inr (.inl q)); omega
      · rcases List.mem_append.1 hq with h | h
        · have := HT.out.lt _ (SUB.out i (.inr (.inr ⟨q, h, e'⟩))); omega
        · rw [List.mem_singleton] at h
          subst h
          simp only at e'
          omega)
    have T4' := Lib.hid T4
    have hl4 := (T4.map.keep (w' := w4.drew) rfl).len 3
    have t4 := T4.t
    have E1 : Hid ((L1 ++ [(w3.heap.size, (⟨k, a, false⟩ : En))]).map (·.2) = strike (L.map (·.2)) k ++ [⟨k, a, false⟩]) := Lib.hid (by rw [List.map_append, HE1.out]; rfl)
    clear K4 K3 T4 k3 a3 r3 hr4
    generalize hL2 : L1 ++ [(w3.heap.size, (⟨k, a, false⟩ : En))] = L2 at *
    have HL2 := Lib.hid hL2
    clear hL2
    rcases L2 with _ | ⟨⟨g1, e1⟩, L2⟩
    · exact absurd HL2.out (by simp)
    have z1 := key_sz (T4'.out.ok (g1, e1) (by simp)).k
    have z2 := at_sz (T4'.out.ok (g1, e1) (by simp)).a
    have y1 := one_of_fits (T4'.out.ok (g1, e1) (by simp)).k
    have y2 := one_of_fits (T4'.out.ok (g1, e1) (by simp)).a
    rw [show firstP ((g1, e1) :: L2) nilp = ptr g1 from rfl] at t4
    generalize lastP nilp ((g1, e1) :: L2) = lp4 at *
    obtain ⟨n4, hn4⟩ : ∃ n4, ((g1, e1) :: L2).length = n4 := ⟨_, rfl⟩
    rw [hn4] at hl4
    have HN4 := Lib.hid hn4
    clear hn4
    by_cases c : (n4 : Int) ≤ room
    · have d4 : decide ((n4 : Int) ≤ room) = true := decide_eq_true c
      have HC := Lib.hid c
      clear c
      go_upto_region 7 with (fail)
      go_region
      go_wp2_with fail
      have rr := blk_setRow (cs' := enC key0 wdz false) r4
      refine ret_tct Try.results11 (W.heap.size + 2) (enC key0 wdz false) rfl rfl ⟨rr.out⟩ ?_
      rw [← RR.out]
      have AE := ask_le E1.out (room := room) (by rw [List.length_map, HN4.out]; exact HC.out)
      refine ⟨(g1, e1) :: L2, T4'.out.keep (fun i hi hf => setRow_get_ne w4 _ i _ (Ne.symm (NR.out i hf))), KW.out.row' (by omega) _, FT.out, by rw [AE], ?_⟩
      rw [AE, HB.out]
      rfl
    · have d4 : decide ((n4 : Int) ≤ room) = false := decide_eq_false c
      have HC := Lib.hid c
      clear c
      go_upto_region 7 with (fail)
      go_region
      go_wp2_with fail
      refine (cut_any T B g1 room [] L2 e1 _ (T4'.out.mo Mor.out)).mono ?_
      rintro e w5 ⟨rfl, T5, ⟨o, x, bg⟩, K5⟩
      have KX : Hid (KpS (Foot T B ((g1, e1) :: L2)) w4 w5) := Lib.hid ((KpS.of_mo (mo_drew (Mo.refl w4))).trans K5 fun _ _ q => q)
      have r5 : Blk w5 (W.heap.size + 2) 45 (enC key0 wdz false) := KX.out.blk r4 fun e => NR.out _ e rfl
      have T5' := Lib.hid T5
      have hgr : g1 ≠ W.heap.size + 2 := NR.out g1 (.inr (.inr ⟨(g1, e1), by simp, rfl⟩))
      obtain ⟨ek1, ea1, ed1⟩ := e1
      simp only at z1 z2 y1 y2
      clear T5 K5 r4 t4 hl4
      go_upto_region 11 with (fail)
      go_region
      go_wp2_with fail
      have rr := blk_setRow (cs' := enC ek1 ea1 ed1) r5
      refine ret_tct Try.results11 (W.heap.size + 2) (enC ek1 ea1 ed1) rfl rfl ⟨rr.out⟩ ?_
      rw [← RR.out]
      have AE := ask_gt (x := ⟨ek1, ea1, ed1⟩) (X := L2.map (fun x => x.2)) (by have := E1.out; rwa [List.map_cons] at this) (room := room) (by rw [List.length_cons, List.length_map]; have := HN4.out; rw [List.length_cons] at this; rw [this]; have := HC.out; omega)
      have SB : ∀ i, Foot T B L2 i → Foot T B ((g1, (⟨ek1, ea1, ed1⟩ : En)) :: L2) i := by
        rintro i (q | q | ⟨q, hq, e⟩)
        · exact .inl q
        · exact .inr (.inl q)
        · exact .inr (.inr ⟨q, List.mem_cons_of_mem _ hq, e⟩)
      refine ⟨L2, T5'.out.keep (fun i hi hf => setRow_get_ne w5 _ i _ (Ne.symm (NR.out i (SB i hf)))), (KW.out.trans KX.out fun i hi q => FT.out i hi q).row' (by omega) _, fun i hi q => FT.out i hi (SB i q), by rw [AE], ?_⟩
      rw [AE, HB.out]
      rfl
end Go.Proofs.Ytlbkcjpnlnlmiaa
