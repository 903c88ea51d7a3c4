/- server: copied. -/
import Derived.Test.YthgkhllkhhnlpaaCpA
import Derived.Test.YthgkhllkhhnlpaaSvN
namespace Go.Proofs.Ythgkhllkhhnlpaa
open Go.RowKit Go.Maps

/-- a grid, a detector, steps in blocks from b on -/
def PG (full : Bool) (o : Nat) (x : Int) (M : List Slot) (b : Nat) (v : Value) (w : World) : Prop := if full then ∃ p r C, v = ptrS p ∧ GAt w p r C o x M ∧ b ≤ p ∧ b ≤ r else v = nilS
def PS (full : Bool) (D : Sd) (b : Nat) (v : Value) (w : World) : Prop := if full then ∃ p v', v = ptrS p ∧ ShIs w p b v' D ∧ b ≤ p else v = nilS
def PT (L : List (Nat × Int × Int)) (b : Nat) (v : Value) (w : World) : Prop := w.ownsRow b 85 3 v L.length (stpL L)
set_option maxRecDepth 20000 in
theorem PG.keep (full : Bool) (o : Nat) (x : Int) (M : List Slot) (y : Nat) : KeepV y (PG full o x M (y + 1)) := fun v w w' h k => by
  unfold PG at h ⊢
  cases full with
  | true =>
    obtain ⟨p, r, C, e, g, l1, l2⟩ := h
    exact ⟨p, r, C, e, g.kpS k (by omega) (by omega), l1, l2⟩
  | false => exact h
set_option maxRecDepth 20000 in
theorem PS.keep (full : Bool) (D : Sd) (y : Nat) : KeepV y (PS full D (y + 1)) := fun v w w' h k => by
  unfold PS at h ⊢
  cases full with
  | true =>
    obtain ⟨p, v', e, g, l1⟩ := h
    refine ⟨p, v', e, g.kpS k (by omega) (fun g' hg e' => ?_), l1⟩
    rcases g.row.2 with ⟨e2, _⟩ | ⟨g2, _, _, e2, hb, _⟩
    · rw [e2] at hg; simp [Value.ownBlock] at hg
    · rw [e2] at hg
      have e3 : g2 = g' := by simpa [Value.ownBlock] using hg
      omega
  | false => exact h
set_option maxRecDepth 20000 in
theorem PT.keep (L : List (Nat × Int × Int)) (y : Nat) : KeepV y (PT L (y + 1)) := fun _ _ _ h k => own_past k h (Nat.lt_succ_self y)
set_option maxRecDepth 20000 in
theorem PG.ptr {full : Bool} {o : Nat} {x : Int} {M : List Slot} {b : Nat} {v : Value} {w : World} (h : PG full o x M b v w) : ∃ A, v = .pointer A := by
  unfold PG at h
  cases full with
  | true =>
    obtain ⟨p, r, C, e, _⟩ := h
    exact ⟨_, e⟩
  | false => exact ⟨_, h⟩
set_option maxRecDepth 20000 in
theorem PS.ptr {full : Bool} {D : Sd} {b : Nat} {v : Value} {w : World} (h : PS full D b v w) : ∃ A, v = .pointer A := by
  unfold PS at h
  cases full with
  | true =>
    obtain ⟨p, v', e, _⟩ := h
    exact ⟨_, e⟩
  | false => exact ⟨_, h⟩
set_option maxRecDepth 20000 in
theorem PT.ptr {L : List (Nat × Int × Int)} {b : Nat} {v : Value} {w : World} (h : PT L b v w) : ∃ A : Option Addr × Nat, v = .slice A.1 L.length A.2 := by
  obtain ⟨A, c, e⟩ := own_slS (h : w.ownsRow b 85 3 v L.length (stpL L))
  exact ⟨(A, c), e⟩
set_option maxRecDepth 20000 in
theorem PG.low {full : Bool} {o : Nat} {x : Int} {M : List Slot} {b b' : Nat} {v : Value} {w : World} (h : PG full o x M b v w) (l : b' ≤ b) : PG full o x M b' v w := by
  unfold PG at h ⊢
  cases full with
  | true =>
    obtain ⟨p, r, C, e, g, l1, l2⟩ := h
    exact ⟨p, r, C, e, g, by omega, by omega⟩
  | false => exact h
set_option maxRecDepth 20000 in
theorem PS.low {full : Bool} {D : Sd} {b b' : Nat} {v : Value} {w : World} (h : PS full D b v w) (l : b' ≤ b) : PS full D b' v w := by
  unfold PS at h ⊢
  cases full with
  | true =>
    obtain ⟨p, v', e, g, l1⟩ := h
    exact ⟨p, v', e, ⟨g.m, owns_baseS g.row l, g.ok⟩, by omega⟩
  | false => exact h
section
variable {a : Array Value} {c : Nat → Int} {p1 p2 p3 gv sv stv : Value} {more : Nat}
set_option maxRecDepth 20000 in
theorem entC_s1 (ha : a.size = 17) (v : Value) : (entC a c p1 p2 p3 gv sv stv more).setIfInBounds 26 v = entC a c v p2 p3 gv sv stv more := by
  refine entC_split ha (by rw [Array.size_setIfInBounds, entC_size ha]) (fun i hi => ?_) (fun i hi => ?_) (fun i hi => ?_)
  · rw [Array.getElem?_setIfInBounds, if_neg (by omega), entC_lo ha i hi]
  · rw [Array.getElem?_setIfInBounds, if_neg (by omega), entC_cnt ha i hi]
  · rw [Array.getElem?_setIfInBounds, entC_hi ha]
    match i, hi with
    | 1, _ | 2, _ | 3, _ | 4, _ | 5, _ | 6, _ => rfl
    | 0, _ => rw [if_pos rfl, if_pos (by rw [entC_size ha]; omega)]; rfl
set_option maxRecDepth 20000 in
theorem entC_s2 (ha : a.size = 17) (v : Value) : (entC a c p1 p2 p3 gv sv stv more).setIfInBounds 27 v = entC a c p1 v p3 gv sv stv more := by
  refine entC_split ha (by rw [Array.size_setIfInBounds, entC_size ha]) (fun i hi => ?_) (fun i hi => ?_) (fun i hi => ?_)
  · rw [Array.getElem?_setIfInBounds, if_neg (by omega), entC_lo ha i hi]
  · rw [Array.getElem?_setIfInBounds, if_neg (by omega), entC_cnt ha i hi]
  · rw [Array.getElem?_setIfInBounds, entC_hi ha]
    match i, hi with
    | 0, _ | 2, _ | 3, _ | 4, _ | 5, _ | 6, _ => rfl
    | 1, _ => rw [if_pos rfl, if_pos (by rw [entC_size ha]; omega)]; rfl
set_option maxRecDepth 20000 in
theorem entC_s3 (ha : a.size = 17) (v : Value) : (entC a c p1 p2 p3 gv sv stv more).setIfInBounds 28 v = entC a c p1 p2 v gv sv stv more := by
  refine entC_split ha (by rw [Array.size_setIfInBounds, entC_size ha]) (fun i hi => ?_) (fun i hi => ?_) (fun i hi => ?_)
  · rw [Array.getElem?_setIfInBounds, if_neg (by omega), entC_lo ha i hi]
  · rw [Array.getElem?_setIfInBounds, if_neg (by omega), entC_cnt ha i hi]
  · rw [Array.getElem?_setIfInBounds, entC_hi ha]
    match i, hi with
    | 0, _ | 1, _ | 3, _ | 4, _ | 5, _ | 6, _ => rfl
    | 2, _ => rw [if_pos rfl, if_pos (by rw [entC_size ha]; omega)]; rfl
set_option maxRecDepth 20000 in
theorem entC_sums (ha : a.size = 17) : (entC a c p1 p2 p3 gv sv stv more).extract 26 29 = #[p1, p2, p3] := by
  refine Array.ext_getElem? fun k => ?_
  have hz : (entC a c p1 p2 p3 gv sv stv more).size = 33 := entC_size ha
  rw [Array.getElem?_extract]
  by_cases hk : k < 3
  · rw [if_pos (by omega), entC_hi ha]
    rcases (show k = 0 ∨ k = 1 ∨ k = 2 by omega) with rfl | rfl | rfl <;> rfl
  · rw [if_neg (by omega), Array.getElem?_eq_none (by simp; omega)]
end
set_option maxRecDepth 20000 in
instance row_ent : RowT 99 33 := ⟨by kernel_rfl, by kernel_rfl⟩
set_option maxRecDepth 20000 in
instance row_acs : RowT 97 3 := ⟨by kernel_rfl, by kernel_rfl⟩
set_option maxRecDepth 20000 in
theorem loadF_ent (v : Value) : Instr.loadAt 99 v = loadF 99 v := rfl
set_option maxRecDepth 20000 in
theorem storeF_ent (v x : Value) : Instr.storeAt 99 v x = storeF 99 v x := rfl
set_option maxRecDepth 20000 in
theorem loadF_acs (v : Value) : Instr.loadAt 97 v = loadF 97 v := rfl
set_option maxRecDepth 20000 in
theorem cntL_one (c : Nat → Int) : ∀ v ∈ cntL c, v.oneCell' = true := fun v hv => by
  unfold cntL at hv
  obtain ⟨k, _, rfl⟩ := List.mem_map.1 hv
  rfl
set_option maxRecDepth 20000 in
theorem entC_one {a : Array Value} (h : OneA a) (c : Nat → Int) (p1 p2 p3 : Nat) {gv sv stv : Value} (h1 : gv.oneCell' = true) (h2 : sv.oneCell' = true) (h3 : stv.oneCell' = true) (more : Nat) : OneA (entC a c (ptrS p1) (ptrS p2) (ptrS p3) gv sv stv more) := ⟨by
  rw [Array.all_eq_true_iff_forall_mem]
  intro v hv
  unfold entC at hv
  rw [List.mem_toArray, List.mem_append, List.mem_append] at hv
  rcases hv with (hv | hv) | hv
  · exact (Array.all_eq_true_iff_forall_mem.1 h.out) v (Array.mem_toList_iff.1 hv)
  · exact cntL_one c v hv
  · simp only [List.mem_cons, List.not_mem_nil, or_false] at hv
    rcases hv with rfl | rfl | rfl | rfl | rfl | rfl | rfl <;> first | rfl | assumption⟩
attribute [local go_sem] blk_cell' blk_frozen'
attribute [local go_sem ↓] loadF_ent storeF_ent loadF_acs
attribute [local go_sem] run_loadF0 run_storeF0
def L9 (y : Nat) (full : Bool) (o : Nat) (x : Int) (M : List Slot) (D : Sd) (L : List (Nat × Int × Int)) : List (Nat × (Value → World → Prop)) := [(29, PG full o x M (y + 1)), (30, PS full D (y + 1)), (31, PT L (y + 1))]
set_option maxRecDepth 20000 in
theorem L9_keep (y : Nat) (full : Bool) (o : Nat) (x : Int) (M : List Slot) (D : Sd) (L : List (Nat × Int × Int)) : ∀ q ∈ L9 y full o x M D L, KeepV y q.2 := fun q hq => by
  unfold L9 at hq
  simp only [List.mem_cons, List.not_mem_nil, or_false] at hq
  rcases hq with rfl | rfl | rfl
  · exact PG.keep full o x M y
  · exact PS.keep full D y
  · exact PT.keep L y
/-- what each operation yields -/
def fl9c (g y : Nat) (gv sv stv : Value) (full : Bool) (o : Nat) (x : Int) (M : List Slot) (D : Sd) (L : List (Nat × Int × Int)) : List (Value → World → Prop) := [
  fun v _ => v = .pointer (some ⟨g, 0, none⟩),
  fun v _ => v = .pointer (some ⟨g, 0, none⟩),
  fun v _ => v = .pointer (some ⟨g, 29, none⟩),
  fun v _ => v = gv,
  fun v w => PG full o x M (y + 1) v w,
  fun v _ => v = .pointer (some ⟨g, 0, none⟩),
  fun v _ => v = .pointer (some ⟨g, 0, none⟩),
  fun v _ => v = .pointer (some ⟨g, 30, none⟩),
  fun v _ => v = sv,
  fun v w => PS full D (y + 1) v w,
  fun v _ => v = .pointer (some ⟨g, 0, none⟩),
  fun v _ => v = .pointer (some ⟨g, 0, none⟩),
  fun v _ => v = .pointer (some ⟨g, 31, none⟩),
  fun v _ => v = stv,
  fun v w => PT L (y + 1) v w,
  fun v _ => v = .pointer (some ⟨y, 29, none⟩),
  fun _ w => CellP y 99 33 29 (PG full o x M (y + 1)) w,
  fun v _ => v = .pointer (some ⟨y, 30, none⟩),
  fun _ w => CellP y 99 33 30 (PS full D (y + 1)) w,
  fun v _ => v = .pointer (some ⟨y, 31, none⟩),
  fun _ w => CellP y 99 33 31 (PT L (y + 1)) w]
set_option maxRecDepth 20000 in
theorem fl9c_mono (g y : Nat) (gv sv stv : Value) (full : Bool) (o : Nat) (x : Int) (M : List Slot) (D : Sd) (L : List (Nat × Int × Int)) : MonoR (RelE y 99 33 (L9 y full o x M D L)) (fl9c g y gv sv stv full o x M D L) := by
  unfold fl9c
  refine MonoR.eq _ ?_
  refine MonoR.eq _ ?_
  refine MonoR.eq _ ?_
  refine MonoR.eq _ ?_
  refine MonoR.cons (fun v w w' h m => PG.keep full o x M y _ _ _ h m.k) ?_
  refine MonoR.eq _ ?_
  refine MonoR.eq _ ?_
  refine MonoR.eq _ ?_
  refine MonoR.eq _ ?_
  refine MonoR.cons (fun v w w' h m => PS.keep full D y _ _ _ h m.k) ?_
  refine MonoR.eq _ ?_
  refine MonoR.eq _ ?_
  refine MonoR.eq _ ?_
  refine MonoR.eq _ ?_
  refine MonoR.cons (fun v w w' h m => PT.keep L y _ _ _ h m.k) ?_
  refine MonoR.eq _ ?_
  refine MonoR.cons (fun v w w' h m => m.p _ (by unfold L9; exact .head _) h) ?_
  refine MonoR.eq _ ?_
  refine MonoR.cons (fun v w w' h m => m.p _ (by unfold L9; exact .tail _ (.head _)) h) ?_
  refine MonoR.eq _ ?_
  refine MonoR.cons (fun v w w' h m => m.p _ (by unfold L9; exact .tail _ (.tail _ (.head _))) h) ?_
  exact MonoR.nil
def fl9c_deps : List (List Nat) := [[], [0], [1], [2], [3], [], [5], [6], [7], [8], [], [10], [11], [12], [13], [], [4, 15], [], [9, 17], [], [14, 19]]

set_option maxRecDepth 20000 in
set_option maxHeartbeats 8000000 in
theorem copied_core (W : World) (g : Nat) (a : Array Value) (c : Nat → Int) (s1 s2 s3 : St) (more : Nat) (p1 p2 p3 : Nat) (gv sv stv : Value) (full : Bool) (o : Nat) (x : Int) (M : List Slot) (D : Sd) (L : List (Nat × Int × Int)) (hz : a.size = 17) (ho : OneA (entC a c (ptrS p1) (ptrS p2) (ptrS p3) gv sv stv more))
    (bE : Blk W g 99 (entC a c (ptrS p1) (ptrS p2) (ptrS p3) gv sv stv more))
    (J1 : ∀ w, Mo W w → Calls Try.prog 73 #[ptrS p1, nilS] w (JoinRet s1 w))
    (J2 : ∀ w, Mo W w → Calls Try.prog 73 #[ptrS p2, nilS] w (JoinRet s2 w))
    (J3 : ∀ w, Mo W w → Calls Try.prog 73 #[ptrS p3, nilS] w (JoinRet s3 w))
    (CG : ∀ w, Mo W w → Calls Try.prog 74 #[gv] w fun e w' => ∃ v, e = .returned v ∧ PG full o x M w.heap.size v w' ∧ Mo w w')
    (CS : ∀ w, Mo W w → Calls Try.prog 75 #[sv] w fun e w' => ∃ v, e = .returned v ∧ PS full D w.heap.size v w' ∧ Mo w w')
    (CT : ∀ w, Mo W w → Calls Try.prog 37 #[stv] w fun e w' => ∃ v, e = .returned v ∧ PT L w.heap.size v w' ∧ Mo w w') :
    Calls Try.prog 46 #[ptrS g] W fun e w' => ∃ y q1 q2 q3 gv' sv' stv', e = .returned (ptrS y) ∧ Blk w' y 99 (entC a c (ptrS q1) (ptrS q2) (ptrS q3) gv' sv' stv' more) ∧ Blk w' q1 136 (accC true s1) ∧ Blk w' q2 136 (accC true s2) ∧ Blk w' q3 136 (accC true s3) ∧ q1 ≠ q2 ∧ q1 ≠ q3 ∧ q2 ≠ q3 ∧ W.heap.size ≤ y ∧ W.heap.size ≤ q1 ∧ W.heap.size ≤ q2 ∧ W.heap.size ≤ q3 ∧ PG full o x M W.heap.size gv' w' ∧ PS full D W.heap.size sv' w' ∧ PT L W.heap.size stv' w' ∧ Mo W w' := by
  have H1 := Lib.hid J1
  have H2 := Lib.hid J2
  have H3 := Lib.hid J3
  have HG := Lib.hid CG
  have HS := Lib.hid CS
  have HT := Lib.hid CT
  have HZ := Lib.hid hz
  have HB := Lib.hid bE
  have iz : SzA (entC a c (ptrS p1) (ptrS p2) (ptrS p3) gv sv stv more) 33 := ⟨entC_size hz⟩
  have lS : ∀ w, Blk w g 99 (entC a c (ptrS p1) (ptrS p2) (ptrS p3) gv sv stv more) → (loadF 97 (.pointer (some ⟨g, 26, none⟩))).run Try.prog w = .ok (.agg #[ptrS p1, ptrS p2, ptrS p3]) w := fun w b => by
    rw [run_loadFo 97 3 w g 26 99 (entC a c (ptrS p1) (ptrS p2) (ptrS p3) gv sv stv more) 33 (by omega) (by omega), entC_sums hz]
  have yy := Lib.hid (entC_hi (p1 := ptrS p1) (p2 := ptrS p2) (p3 := ptrS p3) (gv := gv) (sv := sv) (stv := stv) (more := more) (c := c) hz)
  have ix0 : ∀ w, (Instr.index 97 (.agg #[ptrS p1, ptrS p2, ptrS p3]) (.int .i64 0)).run Try.prog w = .ok (ptrS p1) w := fun w => by kernel_rfl
  have ix1 : ∀ w, (Instr.index 97 (.agg #[ptrS p1, ptrS p2, ptrS p3]) (.int .i64 1)).run Try.prog w = .ok (ptrS p2) w := fun w => by kernel_rfl
  have ix2 : ∀ w, (Instr.index 97 (.agg #[ptrS p1, ptrS p2, ptrS p3]) (.int .i64 2)).run Try.prog w = .ok (ptrS p3) w := fun w => by kernel_rfl
  clear J1 J2 J3 CG CS CT hz
  generalize hX : entC a c (ptrS p1) (ptrS p2) (ptrS p3) gv sv stv more = X at *
  have HX := Lib.hid hX
  clear hX
  go_enter Try.func46, Try.ntmps46
  --@@ r3
  go_upto_region 4 with (fail)
  refine wp_name ?_
  intro w1 hw1
  have by1 : Blk w1 W.heap.size 99 X := by rw [hw1]; infer_instance
  have M1 : Mo W w1 := by rw [hw1]; exact Mor.out
  have bE1 := M1.blk bE
  have ls1 := lS _ bE1
  have gy : g < W.heap.size := bE.lt
  generalize hy : W.heap.size = y at *
  have HY := Lib.hid hy
  clear hw1 bE hy
  --@@ loop
  go_wp2_with fail
  go_loopw [15] (fun i wr => ∃ (j q1 q2 q3 : Nat), j ≤ 3 ∧ i = .int .i64 j ∧ Blk wr y 99 (entC a c (ptrS (if 0 < j then q1 else p1)) (ptrS (if 1 < j then q2 else p2)) (ptrS (if 2 < j then q3 else p3)) gv sv stv more) ∧ (0 < j → Blk wr q1 136 (accC true s1) ∧ y < q1) ∧ (1 < j → Blk wr q2 136 (accC true s2) ∧ q1 < q2) ∧ (2 < j → Blk wr q3 136 (accC true s3) ∧ q2 < q3) ∧ KpS (fun i => i = y) w1 wr) (fun i _ => 3 - (intOf i).toNat)
  case atStart => exact ⟨0, 0, 0, 0, by omega, rfl, by rw [show (entC a c (ptrS (if 0 < 0 then 0 else p1)) (ptrS (if 1 < 0 then 0 else p2)) (ptrS (if 2 < 0 then 0 else p3)) gv sv stv more) = X from HX.out]; exact (Mor.out : Mo w1 _).blk by1, (fun h => by omega), (fun h => by omega), (fun h => by omega), KpS.of_mo Mor.out⟩
  case round =>
    obtain ⟨j, q1, q2, q3, hj, rfl, BY, C1, C2, C3, K⟩ := hrel
    have N : Mo W wr := K.mo M1 fun k _ e => by rw [e]; exact Nat.le_of_eq HY.out
    have ly : y < wr.heap.size := BY.lt
    match j, hj with
    | 0, _ =>
      simp only [show (0 < 0) = False by simp, show (1 < 0) = False by simp, show (2 < 0) = False by simp, if_false] at BY
      --@@ acc0
      go_wp2_with fail
      refine (H1.out _ (N.trans Mor.out)).mono ?_
      rintro e wz ⟨qn, rfl, ln, Bn, Mz⟩
      have Mrz : Mo wr wz := (Mor.out : Mo wr _).trans Mz
      have BYz := Mrz.blk BY
      have lyq : wr.heap.size ≤ qn := Nat.le_trans (Mo.size (Mor.out : Mo wr _)) ln
      have yv := entC_hi (p1 := (ptrS p1)) (p2 := (ptrS p2)) (p3 := (ptrS p3)) (gv := gv) (sv := sv) (stv := stv) (more := more) (c := c) (a := a) HZ.out 0
      simp only [List.getElem?_cons_zero] at yv
      clear Mz ln BY ls1
      go_upto_region 8 with (fail)
      refine wp_name ?_
      intro wv hwv
      have KV : KpS (fun i => i = y) wz wv := by rw [hwv]; exact kpS_setCell wz y 26 _ rfl
      have BV : Blk wv y 99 ((entC a c (ptrS p1) (ptrS p2) (ptrS p3) gv sv stv more).setIfInBounds 26 (ptrS qn)) := by rw [hwv]; exact blk_setCell BYz 26 _
      rw [entC_s1 HZ.out] at BV
      have Kn := (K.trans (KpS.of_mo (S := fun i => i = y) Mrz) fun _ _ e => e).trans KV fun _ _ e => e
      clear hwv
      go_wp2_with fail
      go_roundw
      case rel => exact ⟨1, qn, 0, 0, by omega, by first | rfl | go_num, (Mor.out : Mo wv _).blk BV, (fun _ => ⟨(Mor.out : Mo wv _).blk (KV.blk Bn (by omega)), by omega⟩), (fun h => by omega), (fun h => by omega), Kn.trans (KpS.of_mo (S := fun i => i = y) Mor.out) fun _ _ e => e⟩
      case measure => simp [intOf]
    | 1, _ =>
      simp only [show (0 < 1) = True by simp, show (1 < 1) = False by simp, show (2 < 1) = False by simp, if_true, if_false] at BY
      --@@ acc1
      go_wp2_with fail
      refine (H2.out _ (N.trans Mor.out)).mono ?_
      rintro e wz ⟨qn, rfl, ln, Bn, Mz⟩
      have Mrz : Mo wr wz := (Mor.out : Mo wr _).trans Mz
      have BYz := Mrz.blk BY
      have lyq : wr.heap.size ≤ qn := Nat.le_trans (Mo.size (Mor.out : Mo wr _)) ln
      obtain ⟨B1, m1⟩ := C1 (by omega)
      have B1z := Mrz.blk B1
      have m1z : q1 < wr.heap.size := B1.lt
      have yv := entC_hi (p1 := (ptrS q1)) (p2 := (ptrS p2)) (p3 := (ptrS p3)) (gv := gv) (sv := sv) (stv := stv) (more := more) (c := c) (a := a) HZ.out 1
      simp only [List.getElem?_cons_zero, List.getElem?_cons_succ] at yv
      clear Mz ln BY ls1
      go_upto_region 8 with (fail)
      refine wp_name ?_
      intro wv hwv
      have KV : KpS (fun i => i = y) wz wv := by rw [hwv]; exact kpS_setCell wz y 27 _ rfl
      have BV : Blk wv y 99 ((entC a c (ptrS q1) (ptrS p2) (ptrS p3) gv sv stv more).setIfInBounds 27 (ptrS qn)) := by rw [hwv]; exact blk_setCell BYz 27 _
      rw [entC_s2 HZ.out] at BV
      have Kn := (K.trans (KpS.of_mo (S := fun i => i = y) Mrz) fun _ _ e => e).trans KV fun _ _ e => e
      clear hwv
      go_wp2_with fail
      go_roundw
      case rel => exact ⟨2, q1, qn, 0, by omega, by first | rfl | go_num, (Mor.out : Mo wv _).blk BV, (fun _ => ⟨(Mor.out : Mo wv _).blk (KV.blk B1z (by omega)), m1⟩), (fun _ => ⟨(Mor.out : Mo wv _).blk (KV.blk Bn (by omega)), by omega⟩), (fun h => by omega), Kn.trans (KpS.of_mo (S := fun i => i = y) Mor.out) fun _ _ e => e⟩
      case measure => simp [intOf]
    | 2, _ =>
      simp only [show (0 < 2) = True by simp, show (1 < 2) = True by simp, show (2 < 2) = False by simp, if_true, if_false] at BY
      --@@ acc2
      go_wp2_with fail
      refine (H3.out _ (N.trans Mor.out)).mono ?_
      rintro e wz ⟨qn, rfl, ln, Bn, Mz⟩
      have Mrz : Mo wr wz := (Mor.out : Mo wr _).trans Mz
      have BYz := Mrz.blk BY
      have lyq : wr.heap.size ≤ qn := Nat.le_trans (Mo.size (Mor.out : Mo wr _)) ln
      obtain ⟨B1, m1⟩ := C1 (by omega)
      have B1z := Mrz.blk B1
      have m1z : q1 < wr.heap.size := B1.lt
      obtain ⟨B2, m2⟩ := C2 (by omega)
      have B2z := Mrz.blk B2
      have m2z : q2 < wr.heap.size := B2.lt
      have yv := entC_hi (p1 := (ptrS q1)) (p2 := (ptrS q2)) (p3 := (ptrS p3)) (gv := gv) (sv := sv) (stv := stv) (more := more) (c := c) (a := a) HZ.out 2
      simp only [List.getElem?_cons_zero, List.getElem?_cons_succ] at yv
      clear Mz ln BY ls1
      go_upto_region 8 with (fail)
      refine wp_name ?_
      intro wv hwv
      have KV : KpS (fun i => i = y) wz wv := by rw [hwv]; exact kpS_setCell wz y 28 _ rfl
      have BV : Blk wv y 99 ((entC a c (ptrS q1) (ptrS q2) (ptrS p3) gv sv stv more).setIfInBounds 28 (ptrS qn)) := by rw [hwv]; exact blk_setCell BYz 28 _
      rw [entC_s3 HZ.out] at BV
      have Kn := (K.trans (KpS.of_mo (S := fun i => i = y) Mrz) fun _ _ e => e).trans KV fun _ _ e => e
      clear hwv
      go_wp2_with fail
      go_roundw
      case rel => exact ⟨3, q1, q2, qn, by omega, by first | rfl | go_num, (Mor.out : Mo wv _).blk BV, (fun _ => ⟨(Mor.out : Mo wv _).blk (KV.blk B1z (by omega)), m1⟩), (fun _ => ⟨(Mor.out : Mo wv _).blk (KV.blk B2z (by omega)), m2⟩), (fun _ => ⟨(Mor.out : Mo wv _).blk (KV.blk Bn (by omega)), by omega⟩), Kn.trans (KpS.of_mo (S := fun i => i = y) Mor.out) fun _ _ e => e⟩
      case measure => simp [intOf]
    | 3, _ =>
      obtain ⟨B1, l1⟩ := C1 (by omega)
      obtain ⟨B2, l2⟩ := C2 (by omega)
      obtain ⟨B3, l3⟩ := C3 (by omega)
      simp only [show (0 < 3) = True by simp, show (1 < 3) = True by simp, show (2 < 3) = True by simp, if_true] at BY
      clear C1 C2 C3 ix0 ix1 ix2 ls1
      obtain ⟨w2, hw2⟩ : ∃ w, w = wr := ⟨_, rfl⟩
      subst hw2
      have bE2 := N.blk HB.out
      have ne : g ≠ y := by omega
      have y3 := yy.out 3
      have y4 := yy.out 4
      have y5 := yy.out 5
      simp only [List.getElem?_cons_zero, List.getElem?_cons_succ] at y3 y4 y5
      have br0 : ∃ cs, Blk w2 y 99 cs ∧ cs.size = 33 := ⟨_, BY, entC_size HZ.out⟩
      --@@ r9
      go_upto_region 9 with (fail)
      go_cut [42] (fun _ wx => CellP y 99 33 29 (PG full o x M (y + 1)) wx ∧ CellP y 99 33 30 (PS full D (y + 1)) wx ∧ CellP y 99 33 31 (PT L (y + 1)) wx ∧ RelE y 99 33 (L9 y full o x M D L) w2 wx)
      case first =>
        rename_i hJ hK
        refine wp_region_factsH (RelE y 99 33 (L9 y full o x M D L)) (fun _ _ => RelE.mo (L9_keep y full o x M D L)) (fun _ _ _ => RelE.trans) (fun k => fl9c_deps.getD k []) (ofFL (fl9c g y gv sv stv full o x M D L)) (by kernel_rfl) (by kernel_rfl) (ofFL_monoR (fl9c_mono g y gv sv stv full o x M D L)) ?_ ?_
        · intro k hk a' w' hs hM hb hd
          have bb0 : a'.tmps.getD 0 undef = .pointer (some ⟨g, 0, none⟩) := (hb 0 (rg_free (by kernel_rfl))).trans rfl
          have bb3 : a'.tmps.getD 3 undef = .pointer (some ⟨y, 0, none⟩) := (hb 3 (rg_free (by kernel_rfl))).trans rfl
          have hk' : k < 21 := hk
          clear hs hk hb
          rcases (show k = 0 ∨ k = 1 ∨ k = 2 ∨ k = 3 ∨ k = 4 ∨ k = 5 ∨ k = 6 ∨ k = 7 ∨ k = 8 ∨ k = 9 ∨ k = 10 ∨ k = 11 ∨ k = 12 ∨ k = 13 ∨ k = 14 ∨ k = 15 ∨ k = 16 ∨ k = 17 ∨ k = 18 ∨ k = 19 ∨ k = 20 by omega) with rfl | rfl | rfl | rfl | rfl | rfl | rfl | rfl | rfl | rfl | rfl | rfl | rfl | rfl | rfl | rfl | rfl | rfl | rfl | rfl | rfl
          · -- 0
            exact rh_val rfl (rg_w0 rfl) rfl (RelE.refl _) rfl bb0
          · -- 1
            have e0 : a'.tmps.getD 25 undef = .pointer (some ⟨g, 0, none⟩) := (rg_dep (hd 0 (by decide)) (by kernel_rfl) : ofFL (fl9c g y gv sv stv full o x M D L) 0 (a'.tmps.getD 25 undef) w')
            exact rh_val (v := .pointer (some ⟨g, 0, none⟩)) rfl (rg_w0 rfl) (by simp [execOp, Act.eval, go_sem, e0]) (RelE.refl _) rfl rfl
          · -- 2
            have e1 : a'.tmps.getD 26 undef = .pointer (some ⟨g, 0, none⟩) := (rg_dep (hd 1 (by decide)) (by kernel_rfl) : ofFL (fl9c g y gv sv stv full o x M D L) 1 (a'.tmps.getD 26 undef) w')
            exact rh_val (v := .pointer (some ⟨g, 29, none⟩)) rfl (rg_w0 rfl) (by simp [execOp, Act.eval, go_sem, e1]) (RelE.refl _) rfl rfl
          · -- 3
            have e2 : a'.tmps.getD 27 undef = .pointer (some ⟨g, 29, none⟩) := (rg_dep (hd 2 (by decide)) (by kernel_rfl) : ofFL (fl9c g y gv sv stv full o x M D L) 2 (a'.tmps.getD 27 undef) w')
            have q := hM.k.blk bE2 ne
            exact rh_val (v := gv) rfl (rg_w0 rfl) (by simp [execOp, Act.eval, go_sem, e2, y3]) (RelE.refl _) rfl rfl
          · -- 4
            have e3 : a'.tmps.getD 28 undef = gv := (rg_dep (hd 3 (by decide)) (by kernel_rfl) : ofFL (fl9c g y gv sv stv full o x M D L) 3 (a'.tmps.getD 28 undef) w')
            have NN : Mo W w' := hM.k.mo N fun k _ e => by rw [e]; exact Nat.le_of_eq HY.out
            have sz : y + 1 ≤ w'.heap.size := Nat.le_trans ly hM.k.size
            refine rh_call rfl (rg_w0 rfl) (by simp [execOp, Act.eval, go_sem, e3]) ((HG.out _ NN).mono ?_)
            rintro e wz ⟨v, rfl, hp, M9⟩
            exact ⟨v, rfl, RelE.mo (L9_keep y full o x M D L) M9, hp.low sz⟩
          · -- 5
            exact rh_val rfl (rg_w0 rfl) rfl (RelE.refl _) rfl bb0
          · -- 6
            have e5 : a'.tmps.getD 30 undef = .pointer (some ⟨g, 0, none⟩) := (rg_dep (hd 5 (by decide)) (by kernel_rfl) : ofFL (fl9c g y gv sv stv full o x M D L) 5 (a'.tmps.getD 30 undef) w')
            exact rh_val (v := .pointer (some ⟨g, 0, none⟩)) rfl (rg_w0 rfl) (by simp [execOp, Act.eval, go_sem, e5]) (RelE.refl _) rfl rfl
          · -- 7
            have e6 : a'.tmps.getD 31 undef = .pointer (some ⟨g, 0, none⟩) := (rg_dep (hd 6 (by decide)) (by kernel_rfl) : ofFL (fl9c g y gv sv stv full o x M D L) 6 (a'.tmps.getD 31 undef) w')
            exact rh_val (v := .pointer (some ⟨g, 30, none⟩)) rfl (rg_w0 rfl) (by simp [execOp, Act.eval, go_sem, e6]) (RelE.refl _) rfl rfl
          · -- 8
            have e7 : a'.tmps.getD 32 undef = .pointer (some ⟨g, 30, none⟩) := (rg_dep (hd 7 (by decide)) (by kernel_rfl) : ofFL (fl9c g y gv sv stv full o x M D L) 7 (a'.tmps.getD 32 undef) w')
            have q := hM.k.blk bE2 ne
            exact rh_val (v := sv) rfl (rg_w0 rfl) (by simp [execOp, Act.eval, go_sem, e7, y4]) (RelE.refl _) rfl rfl
          · -- 9
            have e8 : a'.tmps.getD 33 undef = sv := (rg_dep (hd 8 (by decide)) (by kernel_rfl) : ofFL (fl9c g y gv sv stv full o x M D L) 8 (a'.tmps.getD 33 undef) w')
            have NN : Mo W w' := hM.k.mo N fun k _ e => by rw [e]; exact Nat.le_of_eq HY.out
            have sz : y + 1 ≤ w'.heap.size := Nat.le_trans ly hM.k.size
            refine rh_call rfl (rg_w0 rfl) (by simp [execOp, Act.eval, go_sem, e8]) ((HS.out _ NN).mono ?_)
            rintro e wz ⟨v, rfl, hp, M9⟩
            exact ⟨v, rfl, RelE.mo (L9_keep y full o x M D L) M9, hp.low sz⟩
          · -- 10
            exact rh_val rfl (rg_w0 rfl) rfl (RelE.refl _) rfl bb0
          · -- 11
            have e10 : a'.tmps.getD 35 undef = .pointer (some ⟨g, 0, none⟩) := (rg_dep (hd 10 (by decide)) (by kernel_rfl) : ofFL (fl9c g y gv sv stv full o x M D L) 10 (a'.tmps.getD 35 undef) w')
            exact rh_val (v := .pointer (some ⟨g, 0, none⟩)) rfl (rg_w0 rfl) (by simp [execOp, Act.eval, go_sem, e10]) (RelE.refl _) rfl rfl
          · -- 12
            have e11 : a'.tmps.getD 36 undef = .pointer (some ⟨g, 0, none⟩) := (rg_dep (hd 11 (by decide)) (by kernel_rfl) : ofFL (fl9c g y gv sv stv full o x M D L) 11 (a'.tmps.getD 36 undef) w')
            exact rh_val (v := .pointer (some ⟨g, 31, none⟩)) rfl (rg_w0 rfl) (by simp [execOp, Act.eval, go_sem, e11]) (RelE.refl _) rfl rfl
          · -- 13
            have e12 : a'.tmps.getD 37 undef = .pointer (some ⟨g, 31, none⟩) := (rg_dep (hd 12 (by decide)) (by kernel_rfl) : ofFL (fl9c g y gv sv stv full o x M D L) 12 (a'.tmps.getD 37 undef) w')
            have q := hM.k.blk bE2 ne
            exact rh_val (v := stv) rfl (rg_w0 rfl) (by simp [execOp, Act.eval, go_sem, e12, y5]) (RelE.refl _) rfl rfl
          · -- 14
            have e13 : a'.tmps.getD 38 undef = stv := (rg_dep (hd 13 (by decide)) (by kernel_rfl) : ofFL (fl9c g y gv sv stv full o x M D L) 13 (a'.tmps.getD 38 undef) w')
            have NN : Mo W w' := hM.k.mo N fun k _ e => by rw [e]; exact Nat.le_of_eq HY.out
            have sz : y + 1 ≤ w'.heap.size := Nat.le_trans ly hM.k.size
            refine rh_call rfl (rg_w0 rfl) (by simp [execOp, Act.eval, go_sem, e13]) ((HT.out _ NN).mono ?_)
            rintro e wz ⟨v, rfl, hp, M9⟩
            exact ⟨v, rfl, RelE.mo (L9_keep y full o x M D L) M9, owns_baseS hp sz⟩
          · -- 15
            exact rh_val (v := .pointer (some ⟨y, 29, none⟩)) rfl (rg_w0 rfl) (by simp [execOp, Act.eval, go_sem, bb3]) (RelE.refl _) rfl rfl
          · -- 16
            obtain hF := (rg_dep (hd 4 (by decide)) (by kernel_rfl) : ofFL (fl9c g y gv sv stv full o x M D L) 4 (a'.tmps.getD 29 undef) w')
            have e15 : a'.tmps.getD 40 undef = .pointer (some ⟨y, 29, none⟩) := (rg_dep (hd 15 (by decide)) (by kernel_rfl) : ofFL (fl9c g y gv sv stv full o x M D L) 15 (a'.tmps.getD 40 undef) w')
            obtain ⟨cs, bq, hcs⟩ : ∃ cs, Blk w' y 99 cs ∧ cs.size = 33 := by
              obtain ⟨cs0, b0, s0⟩ := br0
              obtain ⟨cs1, b1, s1, _⟩ := hM.b cs0 b0 s0
              exact ⟨cs1, b1, s1⟩
            have yv : w'.cell? ⟨y, 29, none⟩ = some cs[29] := by rw [blk_cell bq]; exact Array.getElem?_eq_getElem (by omega)
            have yf := blk_frozen bq 29
            have hF0 : PG full o x M (y + 1) (a'.tmps.getD 29 undef) w' := hF
            obtain ⟨pv, epv⟩ := hF0.ptr
            have hF1 : PG full o x M (y + 1) (.pointer pv) w' := by rw [← epv]; exact hF0
            have RC : RelE y 99 33 (L9 y full o x M D L) w' (w'.setCell ⟨y, 29, none⟩ (.pointer pv)) := RelE.cell (L9_keep y full o x M D L) (by unfold L9; simp) bq hcs (by unfold L9; exact .head _) (by omega) hF1
            exact rh_unit (w2 := w'.setCell ⟨y, 29, none⟩ (.pointer pv)) rfl (rg_w0 rfl) (by simp [execOp, Act.eval, go_sem, e15, epv, yv, yf]) RC rfl ⟨_, _, blk_setCell bq 29 _, by rw [Array.size_setIfInBounds, hcs], by rw [Array.getElem?_setIfInBounds, if_pos rfl, if_pos (by omega)], (L9_keep y full o x M D L _ (by unfold L9; exact .head _)) _ _ _ hF1 RC.k⟩
          · -- 17
            exact rh_val (v := .pointer (some ⟨y, 30, none⟩)) rfl (rg_w0 rfl) (by simp [execOp, Act.eval, go_sem, bb3]) (RelE.refl _) rfl rfl
          · -- 18
            obtain hF := (rg_dep (hd 9 (by decide)) (by kernel_rfl) : ofFL (fl9c g y gv sv stv full o x M D L) 9 (a'.tmps.getD 34 undef) w')
            have e17 : a'.tmps.getD 41 undef = .pointer (some ⟨y, 30, none⟩) := (rg_dep (hd 17 (by decide)) (by kernel_rfl) : ofFL (fl9c g y gv sv stv full o x M D L) 17 (a'.tmps.getD 41 undef) w')
            obtain ⟨cs, bq, hcs⟩ : ∃ cs, Blk w' y 99 cs ∧ cs.size = 33 := by
              obtain ⟨cs0, b0, s0⟩ := br0
              obtain ⟨cs1, b1, s1, _⟩ := hM.b cs0 b0 s0
              exact ⟨cs1, b1, s1⟩
            have yv : w'.cell? ⟨y, 30, none⟩ = some cs[30] := by rw [blk_cell bq]; exact Array.getElem?_eq_getElem (by omega)
            have yf := blk_frozen bq 30
            have hF0 : PS full D (y + 1) (a'.tmps.getD 34 undef) w' := hF
            obtain ⟨pv, epv⟩ := hF0.ptr
            have hF1 : PS full D (y + 1) (.pointer pv) w' := by rw [← epv]; exact hF0
            have RC : RelE y 99 33 (L9 y full o x M D L) w' (w'.setCell ⟨y, 30, none⟩ (.pointer pv)) := RelE.cell (L9_keep y full o x M D L) (by unfold L9; simp) bq hcs (by unfold L9; exact .tail _ (.head _)) (by omega) hF1
            exact rh_unit (w2 := w'.setCell ⟨y, 30, none⟩ (.pointer pv)) rfl (rg_w0 rfl) (by simp [execOp, Act.eval, go_sem, e17, epv, yv, yf]) RC rfl ⟨_, _, blk_setCell bq 30 _, by rw [Array.size_setIfInBounds, hcs], by rw [Array.getElem?_setIfInBounds, if_pos rfl, if_pos (by omega)], (L9_keep y full o x M D L _ (by unfold L9; exact .tail _ (.head _))) _ _ _ hF1 RC.k⟩
          · -- 19
            exact rh_val (v := .pointer (some ⟨y, 31, none⟩)) rfl (rg_w0 rfl) (by simp [execOp, Act.eval, go_sem, bb3]) (RelE.refl _) rfl rfl
          · -- 20
            obtain hF := (rg_dep (hd 14 (by decide)) (by kernel_rfl) : ofFL (fl9c g y gv sv stv full o x M D L) 14 (a'.tmps.getD 39 undef) w')
            have e19 : a'.tmps.getD 42 undef = .pointer (some ⟨y, 31, none⟩) := (rg_dep (hd 19 (by decide)) (by kernel_rfl) : ofFL (fl9c g y gv sv stv full o x M D L) 19 (a'.tmps.getD 42 undef) w')
            obtain ⟨cs, bq, hcs⟩ : ∃ cs, Blk w' y 99 cs ∧ cs.size = 33 := by
              obtain ⟨cs0, b0, s0⟩ := br0
              obtain ⟨cs1, b1, s1, _⟩ := hM.b cs0 b0 s0
              exact ⟨cs1, b1, s1⟩
            have yv : w'.cell? ⟨y, 31, none⟩ = some cs[31] := by rw [blk_cell bq]; exact Array.getElem?_eq_getElem (by omega)
            have yf := blk_frozen bq 31
            have hF0 : PT L (y + 1) (a'.tmps.getD 39 undef) w' := hF
            obtain ⟨pv, epv⟩ := hF0.ptr
            have hF1 : PT L (y + 1) (.slice pv.1 L.length pv.2) w' := by rw [← epv]; exact hF0
            have RC : RelE y 99 33 (L9 y full o x M D L) w' (w'.setCell ⟨y, 31, none⟩ (.slice pv.1 L.length pv.2)) := RelE.cell (L9_keep y full o x M D L) (by unfold L9; simp) bq hcs (by unfold L9; exact .tail _ (.tail _ (.head _))) (by omega) hF1
            exact rh_unit (w2 := w'.setCell ⟨y, 31, none⟩ (.slice pv.1 L.length pv.2)) rfl (rg_w0 rfl) (by simp [execOp, Act.eval, go_sem, e19, epv, yv, yf]) RC rfl ⟨_, _, blk_setCell bq 31 _, by rw [Array.size_setIfInBounds, hcs], by rw [Array.getElem?_setIfInBounds, if_pos rfl, if_pos (by omega)], (L9_keep y full o x M D L _ (by unfold L9; exact .tail _ (.tail _ (.head _)))) _ _ _ hF1 RC.k⟩
        · intro a' w' hI
          have hsz : a'.tmps.size = 43 := hI.asz
          have hdf : a'.defers = [] := hI.df
          have hbs := hI.base
          have f1 := (hI.val 16 (of_decide_eq_true (by kernel_rfl)) (by kernel_rfl) : ofFL (fl9c g y gv sv stv full o x M D L) 16 undef w')
          have f2 := (hI.val 18 (of_decide_eq_true (by kernel_rfl)) (by kernel_rfl) : ofFL (fl9c g y gv sv stv full o x M D L) 18 undef w')
          have f3 := (hI.val 20 (of_decide_eq_true (by kernel_rfl)) (by kernel_rfl) : ofFL (fl9c g y gv sv stv full o x M D L) 20 undef w')
          refine hK a' w' (Met.intro (hJ a' w' ⟨a'.tmps.getD 6 undef, a'.tmps.getD 7 undef, a'.tmps.getD 8 undef, a'.tmps.getD 9 undef, a'.tmps.getD 10 undef, a'.tmps.getD 11 undef, a'.tmps.getD 12 undef, a'.tmps.getD 13 undef, a'.tmps.getD 16 undef, a'.tmps.getD 17 undef, a'.tmps.getD 18 undef, a'.tmps.getD 19 undef, a'.tmps.getD 20 undef, a'.tmps.getD 21 undef, a'.tmps.getD 22 undef, a'.tmps.getD 23 undef, a'.tmps.getD 24 undef, a'.tmps.getD 25 undef, a'.tmps.getD 26 undef, a'.tmps.getD 27 undef, a'.tmps.getD 28 undef, a'.tmps.getD 29 undef, a'.tmps.getD 30 undef, a'.tmps.getD 31 undef, a'.tmps.getD 32 undef, a'.tmps.getD 33 undef, a'.tmps.getD 34 undef, a'.tmps.getD 35 undef, a'.tmps.getD 36 undef, a'.tmps.getD 37 undef, a'.tmps.getD 38 undef, a'.tmps.getD 39 undef, a'.tmps.getD 40 undef, a'.tmps.getD 41 undef, a'.tmps.getD 42 undef, ⟨f1, f2, f3, hI.mo⟩, ?_⟩))
          refine act_eqG hdf (arr_eqG hsz ?_)
          intro i hi
          have hi' : i < 43 := hi
          clear hI hi hsz hdf
          rcases (show i = 0 ∨ i = 1 ∨ i = 2 ∨ i = 3 ∨ i = 4 ∨ i = 5 ∨ i = 6 ∨ i = 7 ∨ i = 8 ∨ i = 9 ∨ i = 10 ∨ i = 11 ∨ i = 12 ∨ i = 13 ∨ i = 14 ∨ i = 15 ∨ i = 16 ∨ i = 17 ∨ i = 18 ∨ i = 19 ∨ i = 20 ∨ i = 21 ∨ i = 22 ∨ i = 23 ∨ i = 24 ∨ i = 25 ∨ i = 26 ∨ i = 27 ∨ i = 28 ∨ i = 29 ∨ i = 30 ∨ i = 31 ∨ i = 32 ∨ i = 33 ∨ i = 34 ∨ i = 35 ∨ i = 36 ∨ i = 37 ∨ i = 38 ∨ i = 39 ∨ i = 40 ∨ i = 41 ∨ i = 42 by omega) with rfl | rfl | rfl | rfl | rfl | rfl | rfl | rfl | rfl | rfl | rfl | rfl | rfl | rfl | rfl | rfl | rfl | rfl | rfl | rfl | rfl | rfl | rfl | rfl | rfl | rfl | rfl | rfl | rfl | rfl | rfl | rfl | rfl | rfl | rfl | rfl | rfl | rfl | rfl | rfl | rfl | rfl | rfl
          · exact (hbs 0 (rg_free (by kernel_rfl))).trans rfl
          · exact (hbs 1 (rg_free (by kernel_rfl))).trans rfl
          · exact (hbs 2 (rg_free (by kernel_rfl))).trans rfl
          · exact (hbs 3 (rg_free (by kernel_rfl))).trans rfl
          · exact (hbs 4 (rg_free (by kernel_rfl))).trans rfl
          · exact (hbs 5 (rg_free (by kernel_rfl))).trans rfl
          · rfl
          · rfl
          · rfl
          · rfl
          · rfl
          · rfl
          · rfl
          · rfl
          · exact (hbs 14 (rg_free (by kernel_rfl))).trans rfl
          · exact (hbs 15 (rg_free (by kernel_rfl))).trans rfl
          · rfl
          · rfl
          · rfl
          · rfl
          · rfl
          · rfl
          · rfl
          · rfl
          · rfl
          · rfl
          · rfl
          · rfl
          · rfl
          · rfl
          · rfl
          · rfl
          · rfl
          · rfl
          · rfl
          · rfl
          · rfl
          · rfl
          · rfl
          · rfl
          · rfl
          · rfl
          · rfl
      obtain ⟨c1, c2, c3, R9⟩ := hcut
      rename World => w3
      --@@ ret
      go_wp2_with fail
      go_ret
      have B1' := R9.k.blk B1 (by omega)
      have B2' := R9.k.blk B2 (by omega)
      have B3' := R9.k.blk B3 (by omega)
      obtain ⟨X3, bX, sX, eX⟩ := R9.b _ BY (entC_size HZ.out)
      obtain ⟨Y1, v1, b1, z1, e1, h1⟩ := c1
      obtain ⟨Y2, v2, b2, z2, e2, h2⟩ := c2
      obtain ⟨Y3, v3, b3, z3, e3, h3⟩ := c3
      have uq : ∀ {Y : Array Value}, Blk w3 y 99 Y → Y = X3 := fun b => by
        have := b.out.symm.trans bX.out
        simp at this
        exact this
      obtain rfl := uq b1
      obtain rfl := uq b2
      obtain rfl := uq b3
      have nk : ∀ i, i ≠ 29 → i ≠ 30 → i ≠ 31 → ∀ q ∈ L9 y full o x M D L, q.1 ≠ i := fun i n1 n2 n3 q hq => by
        unfold L9 at hq
        simp only [List.mem_cons, List.not_mem_nil, or_false] at hq
        rcases hq with rfl | rfl | rfl
        · exact Ne.symm n1
        · exact Ne.symm n2
        · exact Ne.symm n3
      have eq3 : Y3 = entC a c (ptrS q1) (ptrS q2) (ptrS q3) v1 v2 v3 more := by
        refine entC_split HZ.out sX (fun k hk => ?_) (fun k hk => ?_) (fun k hk => ?_)
        · rw [eX k (nk k (by omega) (by omega) (by omega)), entC_lo HZ.out k hk]
        · rw [eX (17 + k) (nk _ (by omega) (by omega) (by omega)), entC_cnt HZ.out k hk]
        · by_cases k3 : k = 3
          · subst k3; exact e1
          · by_cases k4 : k = 4
            · subst k4; exact e2
            · by_cases k5 : k = 5
              · subst k5; exact e3
              · rw [eX (26 + k) (nk _ (by omega) (by omega) (by omega)), entC_hi HZ.out]
                rcases (show k = 0 ∨ k = 1 ∨ k = 2 ∨ k = 6 by omega) with rfl | rfl | rfl | rfl <;> rfl
      subst eq3
      have lw := HY.out
      refine ⟨y, q1, q2, q3, v1, v2, v3, rfl, bX, B1', B2', B3', by omega, by omega, by omega, by omega, by omega, by omega, by omega, h1.low (by omega), h2.low (by omega), owns_baseS h3 (by omega), R9.k.mo N fun k _ e => by rw [e]; exact Nat.le_of_eq HY.out⟩
end Go.Proofs.Ythgkhllkhhnlpaa
