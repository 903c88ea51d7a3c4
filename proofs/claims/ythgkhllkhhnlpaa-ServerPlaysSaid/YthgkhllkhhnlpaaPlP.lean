/- ServerPlays, plain: what the document says of a server, and that an entry is that. -/
import Derived.Test.YthgkhllkhhnlpaaSvP
namespace Go.Proofs.Ythgkhllkhhnlpaa
open Go.RowKit Go.Maps

/-! ### numbers -/
open Classical in
noncomputable def numI (ns : List (Array Value)) (a : Array Value) : Int := if a ∈ ns then (ns.findIdx (fun b => decide (b = a)) : Nat) else -1
set_option maxRecDepth 20000 in
theorem numI_no {ns : List (Array Value)} {a : Array Value} (h : a ∉ ns) : numI ns a = -1 := by
  unfold numI
  rw [if_neg h]
set_option maxRecDepth 20000 in
theorem numI_at {ns : List (Array Value)} {a : Array Value} {i : Nat} (h : a ∉ ns.take i) (hi : ns[i]? = some a) : numI ns a = i := by
  obtain ⟨l, e⟩ := List.getElem?_eq_some_iff.1 hi
  unfold numI
  rw [if_pos (List.mem_of_getElem? hi)]
  congr 1
  rw [List.findIdx_eq l]
  refine ⟨by simp [e], fun j hj => ?_⟩
  have hne : ns[j] ≠ a := fun q => h (by
    rw [← q]
    exact List.mem_take_iff_getElem.2 ⟨j, by omega, rfl⟩)
  simp [hne]
set_option maxRecDepth 20000 in
theorem numI_get {ns : List (Array Value)} (hn : ns.Nodup) {a : Array Value} {i : Nat} (hi : ns[i]? = some a) : numI ns a = i := by
  refine numI_at (fun q => ?_) hi
  obtain ⟨j, hj, e⟩ := List.mem_take_iff_getElem.1 q
  have := nodup_inj hn hi ((List.getElem?_eq_getElem (by omega)).trans (congrArg some e))
  omega
set_option maxRecDepth 20000 in
theorem numI_neg {ns : List (Array Value)} {a : Array Value} : numI ns a < 0 ↔ a ∉ ns := by
  constructor
  · intro h q
    obtain ⟨i, hi⟩ := List.getElem?_of_mem q
    unfold numI at h
    rw [if_pos q] at h
    omega
  · intro h
    rw [numI_no h]
    decide
set_option maxRecDepth 20000 in
theorem numI_lt {ns : List (Array Value)} {a : Array Value} : numI ns a = -1 ∨ ∃ i : Nat, numI ns a = i ∧ ns[i]? = some a := by
  classical
  by_cases c : a ∈ ns
  · refine .inr ⟨ns.findIdx (fun b => decide (b = a)), by unfold numI; rw [if_pos c], ?_⟩
    have l : ns.findIdx (fun b => decide (b = a)) < ns.length := List.findIdx_lt_length_of_exists ⟨a, c, by simp⟩
    rw [List.getElem?_eq_getElem l]
    have := List.findIdx_getElem (w := l)
    simpa using this
  · exact .inl (numI_no c)
/-! ### the deeds of a number -/
open Classical in
noncomputable def selD (ns : List (Array Value)) (num : Int) (l : List Deed) : List Deed := l.filter fun d => decide (numI ns (whoD d) = num)
set_option maxRecDepth 20000 in
theorem sel_nil (ns : List (Array Value)) (num : Int) : selD ns num [] = [] := rfl
set_option maxRecDepth 20000 in
theorem sel_yes {ns : List (Array Value)} {num : Int} {l : List Deed} {d : Deed} (h : numI ns (whoD d) = num) : selD ns num (l ++ [d]) = selD ns num l ++ [d] := by
  unfold selD
  rw [List.filter_append]
  simp [h]
set_option maxRecDepth 20000 in
theorem sel_no {ns : List (Array Value)} {num : Int} {l : List Deed} {d : Deed} (h : numI ns (whoD d) ≠ num) : selD ns num (l ++ [d]) = selD ns num l := by
  unfold selD
  rw [List.filter_append]
  simp [h]
set_option maxRecDepth 20000 in
theorem sel_len (ns : List (Array Value)) (num : Int) (l : List Deed) : (selD ns num l).length ≤ l.length := List.length_filter_le _ _
set_option maxRecDepth 20000 in
theorem sel_of {ns : List (Array Value)} (hn : ns.Nodup) {a : Array Value} {k : Nat} (hk : ns[k]? = some a) (l : List Deed) : selD ns k l = ofA a l := by
  unfold selD ofA
  refine List.filter_congr fun d _ => ?_
  congr 1
  apply propext
  constructor
  · intro e
    rcases numI_lt (ns := ns) (a := whoD d) with h | ⟨i, h, hi⟩
    · omega
    · obtain rfl : i = k := by omega
      rw [hk] at hi
      injection hi with hi
      exact hi.symm
  · rintro rfl
    exact numI_get hn hk
set_option maxRecDepth 20000 in
theorem sel_oth (ns : List (Array Value)) (l : List Deed) : selD ns (-1) l = notIn ns l := by
  unfold selD notIn
  refine List.filter_congr fun d _ => ?_
  congr 1
  apply propext
  constructor
  · intro e
    exact numI_neg.1 (by omega)
  · exact numI_no
/-! ### what the document says of deeds -/
def cntF (c : Nat → Int) (d : Deed) : Nat → Int := if d.put then c else if d.k < 9 then incF c d.k else c
def cntD (L : List Deed) : Nat → Int := L.foldl cntF fun _ => 0
def smpD (L : List Deed) : List Smp := (L.filter (·.put)).map (·.S)
def odS (S : Smp) : OD := (S.o, S.d)
def gridD (x : Int) (l : List Smp) : List Slot := l.foldl (fun M S => (putM M (clip (S.t4 / x)) S.o S.d).1) []
/-- the step at a place -/
def stepAt (w : Nat) (bd : Int) (xs : List OD) (k : Nat) : List (Nat × Int × Int) :=
  if bd < farI (bestO ((xs.drop (k - w)).take w)) (bestO ((xs.drop k).take w)) then [(k, bestO ((xs.drop (k - w)).take w), bestO ((xs.drop k).take w))] else []
def stepsN (w : Nat) (bd : Int) (xs : List OD) : Nat → List (Nat × Int × Int)
  | 0 => []
  | m + 1 => stepsN w bd xs m ++ stepAt w bd xs (w + m)
def stepsR (w : Nat) (bd : Int) (xs : List OD) : List (Nat × Int × Int) := stepsN w bd xs (xs.length + 1 - 2 * w)
set_option maxRecDepth 20000 in
theorem stepsN_len (w : Nat) (bd : Int) (xs : List OD) (m : Nat) : (stepsN w bd xs m).length ≤ m := by
  induction m with
  | zero => exact Nat.le_refl _
  | succ m ih =>
    unfold stepsN
    rw [List.length_append]
    have : (stepAt w bd xs (w + m)).length ≤ 1 := by unfold stepAt; split <;> simp
    omega
set_option maxRecDepth 20000 in
theorem win_snoc (xs : List OD) (x : OD) (k w : Nat) (h : k + w ≤ xs.length) : (((xs ++ [x]).drop k).take w) = (xs.drop k).take w := by
  rw [List.drop_append_of_le_length (by omega), List.take_append_of_le_length (by rw [List.length_drop]; omega)]
set_option maxRecDepth 20000 in
theorem stepsN_snoc (w : Nat) (bd : Int) (xs : List OD) (x : OD) (m : Nat) (h : m + 2 * w ≤ xs.length + 1) : stepsN w bd (xs ++ [x]) m = stepsN w bd xs m := by
  induction m with
  | zero => rfl
  | succ m ih =>
    unfold stepsN
    rw [ih (by omega)]
    congr 1
    unfold stepAt
    rw [win_snoc xs x _ _ (by omega), win_snoc xs x _ _ (by omega)]
set_option maxRecDepth 20000 in
theorem stepsR_short (w : Nat) (bd : Int) (xs : List OD) (h : xs.length < 2 * w) : stepsR w bd xs = [] := by
  unfold stepsR
  rw [show xs.length + 1 - 2 * w = 0 by omega]
  rfl
set_option maxRecDepth 20000 in
theorem stepsN_nil0 {w : Nat} (h : 1 ≤ w) {bd : Int} : stepsR w bd ((smpD []).map odS) = [] := by
  show stepsN w bd [] (0 + 1 - 2 * w) = []
  rw [show 0 + 1 - 2 * w = 0 by omega]
  rfl
/-- the detector behind samples -/
def DetF (w : Nat) (bd : Int) (xs : List OD) (D : Sd) : Prop := D = ⟨w, bd, xs.drop (xs.length - 2 * w), xs.length⟩
set_option maxRecDepth 20000 in
theorem det_add {w : Nat} {bd : Int} {xs : List OD} {D : Sd} (h : DetF w bd xs D) (x : OD) : DetF w bd (xs ++ [x]) (addD D x) ∧ stepsR w bd (xs ++ [x]) = stepsR w bd xs ++ (tellD D x).toList := by
  unfold DetF at h
  subst h
  have e : addL ⟨w, bd, xs.drop (xs.length - 2 * w), xs.length⟩ x = (xs ++ [x]).drop ((xs ++ [x]).length - 2 * w) := by
    unfold addL
    simp only [List.length_drop, List.length_append, List.length_singleton]
    by_cases c : xs.length < 2 * w
    · rw [show xs.length - 2 * w = 0 by omega, List.drop_zero]
      rfl
    · have e : (xs ++ [x]).drop (xs.length - 2 * w) = xs.drop (xs.length - 2 * w) ++ [x] := List.drop_append_of_le_length (by omega)
      rw [show xs.length + 1 - 2 * w = (xs.length - 2 * w) + (xs.length - (xs.length - 2 * w) + 1 - 2 * w) by omega, ← List.drop_drop, e]
  refine ⟨?_, ?_⟩
  · unfold DetF addD
    rw [e]
    simp
  · unfold tellD
    rw [e]
    show _ = _ ++ (stepO w bd _ (xs.length + 1)).toList
    unfold stepO
    have hl : ((xs ++ [x]).drop ((xs ++ [x]).length - 2 * w)).length = min (xs.length + 1) (2 * w) := by simp; omega
    rw [hl]
    by_cases c : xs.length + 1 < 2 * w
    · rw [if_pos (by omega), stepsR_short _ _ _ (by rw [List.length_append, List.length_singleton]; omega), stepsR_short _ _ _ (by omega)]
      rfl
    · rw [if_neg (by omega)]
      have h1 : stepsR w bd (xs ++ [x]) = stepsN w bd xs (xs.length + 1 - 2 * w) ++ stepAt w bd (xs ++ [x]) (w + (xs.length + 1 - 2 * w)) := by
        unfold stepsR
        rw [show (xs ++ [x]).length + 1 - 2 * w = (xs.length + 1 - 2 * w) + 1 by simp; omega]
        show stepsN w bd (xs ++ [x]) _ ++ _ = _
        rw [stepsN_snoc _ _ _ _ _ (by omega)]
      rw [h1]
      congr 1
      unfold stepAt
      have e1 : (xs ++ [x]).length - 2 * w = w + (xs.length + 1 - 2 * w) - w := by rw [List.length_append, List.length_singleton]; omega
      have e2 : ((xs ++ [x]).drop ((xs ++ [x]).length - 2 * w)).drop w = ((xs ++ [x]).drop (w + (xs.length + 1 - 2 * w))).take w := by
        rw [List.drop_drop, List.take_of_length_le (by simp; omega)]
        congr 1
        simp
        omega
      rw [e2, e1, show xs.length + 1 - w = w + (xs.length + 1 - 2 * w) by omega]
      split <;> rfl
/-! ### an entry is that -/
structure EntD (x : Int) (w : Nat) (bd : Int) (L : List Deed) (E : Ent) : Prop where
  c : E.c = cntD L
  s1 : E.s1 = sumL ((smpD L).map (·.o))
  s2 : E.s2 = sumL ((smpD L).map (·.d))
  s3 : E.s3 = sumL ((smpD L).map (·.s))
  m : E.M = gridD x (smpD L)
  d : DetF w bd ((smpD L).map odS) E.D
  st : E.st = (stepsR w bd ((smpD L).map odS)).take 16
  more : E.more = (stepsR w bd ((smpD L).map odS)).length - 16
set_option maxRecDepth 20000 in
theorem sumL_add (l : List Int) (x : Int) : sumL (l ++ [x]) = addN (sumL l) x := by unfold sumL; rw [List.foldl_append]; rfl
set_option maxRecDepth 20000 in
theorem smp_yes {L : List Deed} {d : Deed} (h : d.put = true) : smpD (L ++ [d]) = smpD L ++ [d.S] := by
  unfold smpD
  rw [List.filter_append, List.map_append]
  simp [h]
set_option maxRecDepth 20000 in
theorem smp_no {L : List Deed} {d : Deed} (h : d.put = false) : smpD (L ++ [d]) = smpD L := by
  unfold smpD
  rw [List.filter_append]
  simp [h]
set_option maxRecDepth 20000 in
theorem cnt_snoc (L : List Deed) (d : Deed) : cntD (L ++ [d]) = cntF (cntD L) d := by unfold cntD; rw [List.foldl_append]; rfl
set_option maxRecDepth 20000 in
theorem cnt_yes {L : List Deed} {d : Deed} (h : d.put = true) : cntD (L ++ [d]) = cntD L := by
  rw [cnt_snoc]
  unfold cntF
  rw [if_pos h]
set_option maxRecDepth 20000 in
theorem cnt_no {L : List Deed} {d : Deed} (h : d.put = false) : cntD (L ++ [d]) = if d.k < 9 then incF (cntD L) d.k else cntD L := by
  rw [cnt_snoc]
  unfold cntF
  rw [if_neg (by simp [h])]
set_option maxRecDepth 20000 in
theorem smp_len (L : List Deed) : (smpD L).length ≤ L.length := by
  unfold smpD
  rw [List.length_map]
  exact List.length_filter_le _ _
set_option maxRecDepth 20000 in
theorem entD_step {x : Int} {w : Nat} {bd : Int} {L : List Deed} {E : Ent} (h : EntD x w bd L E) (d : Deed) : EntD x w bd (L ++ [d]) (actE x E d) := by
  by_cases c : d.put = true
  · have e : actE x E d = putE x E d.S := by unfold actE; rw [if_pos c]
    rw [e]
    obtain ⟨D1, D2⟩ := det_add h.d (odS d.S)
    have es : smpD (L ++ [d]) = smpD L ++ [d.S] := smp_yes c
    have em : (smpD (L ++ [d])).map odS = (smpD L).map odS ++ [odS d.S] := by rw [es, List.map_append]; rfl
    have key : ∀ z, (stpE (detE (grdE x (sumE E d.S) d.S) d.S) z).c = E.c ∧ (stpE (detE (grdE x (sumE E d.S) d.S) d.S) z).s1 = addN E.s1 d.S.o ∧ (stpE (detE (grdE x (sumE E d.S) d.S) d.S) z).s2 = addN E.s2 d.S.d ∧ (stpE (detE (grdE x (sumE E d.S) d.S) d.S) z).s3 = addN E.s3 d.S.s ∧ (stpE (detE (grdE x (sumE E d.S) d.S) d.S) z).M = (putM E.M (clip (d.S.t4 / x)) d.S.o d.S.d).1 ∧ (stpE (detE (grdE x (sumE E d.S) d.S) d.S) z).D = addD E.D (d.S.o, d.S.d) := by
      intro z
      cases z with
      | none => exact ⟨rfl, rfl, rfl, rfl, rfl, rfl⟩
      | some z => unfold stpE; simp only; split <;> exact ⟨rfl, rfl, rfl, rfl, rfl, rfl⟩
    obtain ⟨k1, k2, k3, k4, k5, k6⟩ := key (tellD E.D (d.S.o, d.S.d))
    refine ⟨?_, ?_, ?_, ?_, ?_, ?_, ?_, ?_⟩
    · rw [cnt_yes c, ← h.c]; exact k1
    · rw [es, List.map_append, List.map_cons, List.map_nil, sumL_add, ← h.s1]; exact k2
    · rw [es, List.map_append, List.map_cons, List.map_nil, sumL_add, ← h.s2]; exact k3
    · rw [es, List.map_append, List.map_cons, List.map_nil, sumL_add, ← h.s3]; exact k4
    · rw [es]
      unfold gridD
      rw [List.foldl_append]
      refine k5.trans ?_
      rw [h.m]
      rfl
    · rw [em]
      unfold putE
      rw [k6]
      exact D1
    · rw [em, D2]
      unfold putE
      show (stpE _ (tellD E.D (odS d.S))).st = _
      have hs := h.st
      have hl : E.st.length = min 16 (stepsR w bd ((smpD L).map odS)).length := by rw [hs, List.length_take]
      cases tellD E.D (odS d.S) with
      | none =>
        show E.st = _
        rw [hs]
        simp
      | some z =>
        unfold stpE
        simp only
        show (if E.st.length < 16 then _ else _ : Ent).st = _
        by_cases q : E.st.length < 16
        · rw [if_pos q]
          show E.st ++ [z] = _
          rw [hs, List.take_of_length_le (by omega), List.take_of_length_le (by simp; omega)]
          rfl
        · rw [if_neg q]
          show E.st = _
          rw [hs, List.take_append_of_le_length (by omega)]
    · rw [em, D2]
      unfold putE
      show (stpE _ (tellD E.D (odS d.S))).more = _
      have hs := h.st
      have hm := h.more
      have hl : E.st.length = min 16 (stepsR w bd ((smpD L).map odS)).length := by rw [hs, List.length_take]
      cases tellD E.D (odS d.S) with
      | none =>
        show E.more = _
        rw [hm]
        simp
      | some z =>
        unfold stpE
        simp only
        show (if E.st.length < 16 then _ else _ : Ent).more = _
        by_cases q : E.st.length < 16
        · rw [if_pos q]
          show E.more = _
          rw [hm]
          simp
          omega
        · rw [if_neg q]
          show E.more + 1 = _
          rw [hm]
          simp
          omega
  · have c' : d.put = false := by simpa using c
    have e : actE x E d = if d.k < 9 then incE E d.k else E := by unfold actE; rw [if_neg c]
    have es := smp_no (L := L) c'
    have key : (actE x E d).c = (if d.k < 9 then incF E.c d.k else E.c) ∧ (actE x E d).s1 = E.s1 ∧ (actE x E d).s2 = E.s2 ∧ (actE x E d).s3 = E.s3 ∧ (actE x E d).M = E.M ∧ (actE x E d).D = E.D ∧ (actE x E d).st = E.st ∧ (actE x E d).more = E.more := by
      rw [e]
      split <;> exact ⟨rfl, rfl, rfl, rfl, rfl, rfl, rfl, rfl⟩
    obtain ⟨k1, k2, k3, k4, k5, k6, k7, k8⟩ := key
    exact ⟨by rw [k1, cnt_no c', ← h.c], by rw [k2, es]; exact h.s1, by rw [k3, es]; exact h.s2, by rw [k4, es]; exact h.s3, by rw [k5, es]; exact h.m, by rw [k6, es]; exact h.d, by rw [k7, es]; exact h.st, by rw [k8, es]; exact h.more⟩
set_option maxRecDepth 20000 in
theorem entD_fold (x : Int) (w : Nat) (hw : 1 ≤ w) (bd : Int) (a : Array Value) (L : List Deed) : EntD x w bd L (L.foldl (actE x) (ent0 a (sd0 w bd))) := by
  refine snoc_indD (p := fun L => EntD x w bd L (L.foldl (actE x) (ent0 a (sd0 w bd)))) ⟨rfl, rfl, rfl, rfl, rfl, ?_, ?_, ?_⟩ (fun L d ih => ?_) L
  · show _ = _
    simp [sd0, ent0, smpD]
  · show [] = _
    rw [stepsN_nil0 hw]
    rfl
  · show 0 = _
    rw [stepsN_nil0 hw]
    rfl
  · rw [List.foldl_append]
    exact entD_step ih d
/-- what is told of the others -/
structure OthD (L : List Deed) (E : Ent) : Prop where
  a : E.a = adr0
  c : E.c = cntD L
  s1 : E.s1 = sumL ((smpD L).map (·.o))
  s2 : E.s2 = sumL ((smpD L).map (·.d))
  s3 : E.s3 = sumL ((smpD L).map (·.s))
  st : E.st = []
  more : E.more = 0
set_option maxRecDepth 20000 in
theorem othD_step {L : List Deed} {E : Ent} (h : OthD L E) (d : Deed) : OthD (L ++ [d]) (actO E d) := by
  by_cases c : d.put = true
  · have e : actO E d = sumE E d.S := by unfold actO; rw [if_pos c]
    rw [e]
    have es : smpD (L ++ [d]) = smpD L ++ [d.S] := smp_yes c
    refine ⟨h.a, by rw [cnt_yes c]; exact h.c, ?_, ?_, ?_, h.st, h.more⟩
    · rw [es, List.map_append, List.map_cons, List.map_nil, sumL_add, ← h.s1]; rfl
    · rw [es, List.map_append, List.map_cons, List.map_nil, sumL_add, ← h.s2]; rfl
    · rw [es, List.map_append, List.map_cons, List.map_nil, sumL_add, ← h.s3]; rfl
  · have c' : d.put = false := by simpa using c
    have e : actO E d = if d.k < 9 then incE E d.k else E := by unfold actO; rw [if_neg c]
    have es := smp_no (L := L) c'
    have key : (actO E d).a = E.a ∧ (actO E d).c = (if d.k < 9 then incF E.c d.k else E.c) ∧ (actO E d).s1 = E.s1 ∧ (actO E d).s2 = E.s2 ∧ (actO E d).s3 = E.s3 ∧ (actO E d).st = E.st ∧ (actO E d).more = E.more := by
      rw [e]
      split <;> exact ⟨rfl, rfl, rfl, rfl, rfl, rfl, rfl⟩
    obtain ⟨k0, k1, k2, k3, k4, k7, k8⟩ := key
    exact ⟨by rw [k0]; exact h.a, by rw [k1, cnt_no c', ← h.c], by rw [k2, es]; exact h.s1, by rw [k3, es]; exact h.s2, by rw [k4, es]; exact h.s3, by rw [k7]; exact h.st, by rw [k8]; exact h.more⟩
set_option maxRecDepth 20000 in
theorem othD_fold (D : Sd) (L : List Deed) : OthD L (L.foldl actO (ent0 adr0 D)) := by
  refine snoc_indD (p := fun L => OthD L (L.foldl actO (ent0 adr0 D))) ⟨rfl, rfl, rfl, rfl, rfl, rfl, rfl⟩ (fun L d ih => ?_) L
  rw [List.foldl_append]
  exact othD_step ih d
/-! ### a table behind deeds -/
set_option maxRecDepth 20000 in
theorem TSt.entD {sv x bd : Int} {w : Nat} (hw : 1 ≤ w) {oD : Sd} {l : List Deed} {es : List Ent} {ot : Ent} (h : TSt sv x (sd0 w bd) oD l es ot) {i : Nat} {E : Ent} (hi : es[i]? = some E) : (nmS sv l)[i]? = some E.a ∧ EntD x w bd (selD (nmS sv l) i l) E := by
  obtain ⟨h1, h2⟩ := h.get hi
  refine ⟨h1, ?_⟩
  rw [sel_of (nm_nodup sv l) h1, h2, entF_a]
  exact entD_fold x w hw bd _ _
set_option maxRecDepth 20000 in
theorem TSt.othD {sv x bd : Int} {w : Nat} {oD : Sd} {l : List Deed} {es : List Ent} {ot : Ent} (h : TSt sv x (sd0 w bd) oD l es ot) : OthD (selD (nmS sv l) (-1) l) ot := by
  rw [sel_oth, h.ot]
  exact othD_fold oD _
end Go.Proofs.Ythgkhllkhhnlpaa
