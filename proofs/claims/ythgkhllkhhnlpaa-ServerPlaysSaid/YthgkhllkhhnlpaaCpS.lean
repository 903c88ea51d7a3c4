/- server: a table and the deeds behind it; what was told of it, laid in a row. -/
import Derived.Test.YthgkhllkhhnlpaaApP
import Derived.Test.YthgkhllkhhnlpaaCpC
import Derived.Great.BuildSlice
namespace Go.Proofs.Ythgkhllkhhnlpaa
open Go.RowKit Go.Maps

/-- a table in blocks that N allows, behind the deeds l -/
structure TbI (N : Nat → Prop) (w : World) (T b : Nat) (C : CfgS) (o wd : Nat) (oD : Sd) (l : List Deed) (es : List Ent) (ot : Ent) (n : Nat) : Prop where
  t : ∃ S, TabW w T b S C o wd es ot n ∧ ∀ k, S k → N k
  s : TSt C.sv C.sl (sd0 wd C.st) oD l es ot
set_option maxRecDepth 20000 in
theorem TbI.kp {N S : Nat → Prop} {w w' : World} {T b : Nat} {C : CfgS} {o wd : Nat} {oD : Sd} {l : List Deed} {es : List Ent} {ot : Ent} {n : Nat} (h : TbI N w T b C o wd oD l es ot n) (k : KpS S w w') (q : ∀ i, N i → ¬ S i) : TbI N w' T b C o wd oD l es ot n := by
  obtain ⟨⟨S', t, f⟩, s⟩ := h
  exact ⟨⟨S', t.kp k fun i hi => q i (f i hi), f⟩, s⟩
set_option maxRecDepth 20000 in
theorem TbI.mo {N : Nat → Prop} {w w' : World} {T b : Nat} {C : CfgS} {o wd : Nat} {oD : Sd} {l : List Deed} {es : List Ent} {ot : Ent} {n : Nat} (h : TbI N w T b C o wd oD l es ot n) (k : Mo w w') : TbI N w' T b C o wd oD l es ot n := h.kp (KpS.of_mo (S := fun _ => False) k) fun _ _ e => e
set_option maxRecDepth 20000 in
theorem TbI.wide {N N' : Nat → Prop} {w : World} {T b : Nat} {C : CfgS} {o wd : Nat} {oD : Sd} {l : List Deed} {es : List Ent} {ot : Ent} {n : Nat} (h : TbI N w T b C o wd oD l es ot n) (q : ∀ k, k < w.heap.size → N k → N' k) : TbI N' w T b C o wd oD l es ot n := by
  obtain ⟨⟨S', t, f⟩, s⟩ := h
  exact ⟨⟨S', t, fun k hk => q k (t.lt k hk) (f k hk)⟩, s⟩
set_option maxRecDepth 20000 in
theorem TSt.uniq {sv x : Int} {D0 oD : Sd} {l : List Deed} {es es' : List Ent} {ot ot' : Ent} (h : TSt sv x D0 oD l es ot) (h' : TSt sv x D0 oD l es' ot') : es = es' ∧ ot = ot' := ⟨h.es.trans h'.es.symm, h.ot.trans h'.ot.symm⟩
set_option maxRecDepth 20000 in
theorem does_tb {N : Nat → Prop} {w : World} {T b : Nat} {C : CfgS} {o wd : Nat} {oD : Sd} {l : List Deed} {es : List Ent} {ot : Ent} {n : Nat} (h : TbI N w T b C o wd oD l es ot n) (u : ∀ k, w.heap.size ≤ k → N k) (d : Deed) (ok : DeedOk d) (hn : n ≤ 900) :
    Calls Try.prog 21 #[ptrS T, .agg (ddC d)] w fun e w' => ∃ v es' ot', e = .returned (.int .i64 v) ∧ TbI N w' T b C o wd oD (l ++ [d]) es' ot' (n + 1) ∧ KpS N w w' := by
  obtain ⟨⟨S, t, f⟩, s⟩ := h
  refine (does_any t d ok hn).mono ?_
  rintro e w' ⟨es1, q, S1, rfl, P, t', K, fr⟩
  exact ⟨_, _, _, rfl, ⟨⟨S1, t', fun k hk => (fr k hk).elim (f k) (u k)⟩, s.step P⟩, K.mono fun k _ => f k⟩
def nthE (es : List Ent) (ot : Ent) (i : Nat) : Ent := if h : i < es.length then es[i] else ot
noncomputable def nthK (es : List Ent) (o i : Nat) : List Tau := if h : i < es.length then taus es[i].M o else []
set_option maxRecDepth 20000 in
theorem nthE_mem (es : List Ent) (ot : Ent) (i : Nat) : nthE es ot i ∈ es ++ [ot] := by
  unfold nthE
  by_cases c : i < es.length
  · rw [dif_pos c]; exact List.mem_append_left _ (List.getElem_mem c)
  · rw [dif_neg c]; simp
set_option maxRecDepth 20000 in
theorem nthK_le {o : Nat} (h : o ≤ 10) (es : List Ent) (i : Nat) : (nthK es o i).length ≤ 1000 := by
  unfold nthK
  by_cases c : i < es.length
  · rw [dif_pos c, taus_len]; omega
  · rw [dif_neg c]; simp
set_option maxRecDepth 20000 in
theorem AdrS.of_ok {n : Nat} {E : Ent} (h : EntOk n E) : AdrS E.a := ⟨h.a, h.sz⟩
set_option maxRecDepth 20000 in
theorem told_tb {N : Nat → Prop} {w : World} {T b : Nat} {C : CfgS} {o wd : Nat} {oD : Sd} {l : List Deed} {es : List Ent} {ot : Ent} {n : Nat} (h : TbI N w T b C o wd oD l es ot n) (hn : n ≤ 900) (i : Nat) (hi : i ≤ es.length) :
    Calls Try.prog 16 #[ptrS T, .int .i64 (i : Nat)] w fun e w' => ∃ X, e = .returned (.tuple #[.agg X, .bool true]) ∧ X.size = 47 ∧ OneA X ∧ SrvAt (w.heap.size + 1) w' (nthE es ot i) (nthK es o i) (.agg X) ∧ Mo w w' := by
  obtain ⟨⟨S, t, f⟩, s⟩ := h
  have ok := t.oks _ (nthE_mem es ot i)
  by_cases c : i < es.length
  · refine (ttold_ent t (by omega) i _ (List.getElem?_eq_getElem c)).mono ?_
    rintro e w' ⟨v, rfl, R, M⟩
    have eE : nthE es ot i = es[i] := by unfold nthE; rw [dif_pos c]
    have eK : nthK es o i = taus es[i].M o := by unfold nthK; rw [dif_pos c]
    rw [eE] at ok ⊢
    rw [eK]
    obtain ⟨X, rfl, zX, oX⟩ := srvAt_one R (AdrS.of_ok ok)
    exact ⟨X, rfl, zX, oX, R, M⟩
  · obtain rfl : i = es.length := by omega
    refine (ttold_oth t (by omega)).mono ?_
    rintro e w' ⟨v, rfl, R, M⟩
    have eE : nthE es ot es.length = ot := by unfold nthE; rw [dif_neg c]
    have eK : nthK es o es.length = [] := by unfold nthK; rw [dif_neg c]
    rw [eE] at ok ⊢
    rw [eK]
    obtain ⟨X, rfl, zX, oX⟩ := srvAt_one R (AdrS.of_ok ok)
    exact ⟨X, rfl, zX, oX, R, M⟩
set_option maxRecDepth 20000 in
theorem like_tb {N : Nat → Prop} {w0 w : World} {T b : Nat} {C : CfgS} {o wd : Nat} {oD : Sd} {l : List Deed} {es : List Ent} {ot : Ent} {n : Nat} (h : TbI N w0 T b C o wd oD l es ot n) (ho : o ≤ 10) (hn : n ≤ 900) (i b1 b2 : Nat) {X Y : Array Value} (h1 : SrvAt b1 w (nthE es ot i) (nthK es o i) (.agg X)) (h2 : SrvAt b2 w (nthE es ot i) (nthK es o i) (.agg Y)) :
    Calls Try.prog 22 #[.agg X, .agg Y] w fun e w' => e = .returned (.bool true) ∧ Mo w w' := by
  obtain ⟨⟨S, t, f⟩, s⟩ := h
  have ok := t.oks _ (nthE_mem es ot i)
  exact like_any h1 h2 (AdrS.of_ok ok) (fun k => by have := ok.c k; omega) (nthK_le ho es i) (by have := ok.st; omega)
set_option maxRecDepth 20000 in
theorem SrvAt.kp {S : Nat → Prop} {b : Nat} {w w' : World} {E : Ent} {K : List Tau} {v : Value} (h : SrvAt b w E K v) (k : KpS S w w') (q : ∀ i, b ≤ i → i < w.heap.size → ¬ S i) : SrvAt b w' E K v := by
  obtain ⟨tv, sv, e, o1, o2⟩ := h
  have base : ∀ {T s n : Nat} {v : Value} {xs : List Value}, w.ownsRow b T s v n xs → ∀ g, v.ownBlock = some g → b ≤ g ∧ g < w.heap.size := fun o g hg => by
    refine ⟨?_, own_lt' o hg⟩
    rcases o.2 with ⟨e, _⟩ | ⟨g', _, _, e, hb, _⟩
    · rw [e] at hg; simp [Value.ownBlock] at hg
    · rw [e] at hg
      have : g' = g := by simpa [Value.ownBlock] using hg
      omega
  exact ⟨tv, sv, e, own_kpS o1 k fun g hg => q g (base o1 g hg).1 (base o1 g hg).2, own_kpS o2 k fun g hg => q g (base o2 g hg).1 (base o2 g hg).2⟩
set_option maxRecDepth 20000 in
theorem SrvAt.low {b b' : Nat} {w : World} {E : Ent} {K : List Tau} {v : Value} (h : SrvAt b w E K v) (l : b' ≤ b) : SrvAt b' w E K v := by
  obtain ⟨tv, sv, e, o1, o2⟩ := h
  exact ⟨tv, sv, e, owns_baseS o1 l, owns_baseS o2 l⟩
/-- m servers told, in a row -/
structure WasIs (b : Nat) (w : World) (v : Value) (es : List Ent) (ot : Ent) (o m : Nat) (Xs : List (Array Value)) : Prop where
  len : Xs.length = m
  row : w.ownsRow b 62 47 v m (Xs.flatMap Array.toList)
  at_ : ∀ (i : Nat) (X : Array Value), Xs[i]? = some X → X.size = 47 ∧ OneA X ∧ SrvAt b w (nthE es ot i) (nthK es o i) (.agg X)
set_option maxRecDepth 20000 in
theorem WasIs.nil (b : Nat) (w : World) (es : List Ent) (ot : Ent) (o : Nat) : WasIs b w (.slice none 0 0) es ot o 0 [] := ⟨rfl, ⟨rfl, .inl ⟨rfl, rfl⟩⟩, fun i X h => by simp at h⟩
set_option maxRecDepth 20000 in
theorem WasIs.kp {S : Nat → Prop} {b : Nat} {w w' : World} {v : Value} {es : List Ent} {ot : Ent} {o m : Nat} {Xs : List (Array Value)} (h : WasIs b w v es ot o m Xs) (k : KpS S w w') (q : ∀ i, b ≤ i → i < w.heap.size → ¬ S i) : WasIs b w' v es ot o m Xs := by
  refine ⟨h.len, own_kpS h.row k fun g hg => q g ?_ (own_lt' h.row hg), fun i X hX => ?_⟩
  · rcases h.row.2 with ⟨e, _⟩ | ⟨g', _, _, e, hb, _⟩
    · rw [e] at hg; simp [Value.ownBlock] at hg
    · rw [e] at hg
      have : g' = g := by simpa [Value.ownBlock] using hg
      omega
  · obtain ⟨z, u, s⟩ := h.at_ i X hX
    exact ⟨z, u, s.kp k q⟩
set_option maxRecDepth 20000 in
theorem WasIs.mo {b : Nat} {w w' : World} {v : Value} {es : List Ent} {ot : Ent} {o m : Nat} {Xs : List (Array Value)} (h : WasIs b w v es ot o m Xs) (k : Mo w w') : WasIs b w' v es ot o m Xs := h.kp (KpS.of_mo (S := fun _ => False) k) fun _ _ _ e => e
set_option maxRecDepth 20000 in
theorem flat_getS : ∀ (l : List (Array Value)) (i k : Nat) (hi : i < l.length), (∀ x ∈ l, x.size = 47) → k < 47 → (l.flatMap Array.toList)[i * 47 + k]? = l[i][k]?
  | [], i, k, hi, _, _ => by cases hi
  | x :: l, 0, k, hi, hm, hk => by
    rw [List.flatMap_cons, Nat.zero_mul, Nat.zero_add, List.getElem?_append_left (by have := hm x (by simp); simp; omega)]
    simp
  | x :: l, i + 1, k, hi, hm, hk => by
    have z := hm x (by simp)
    rw [List.flatMap_cons, List.getElem?_append_right (by simp; omega)]
    rw [show (i + 1) * 47 + k - x.toList.length = i * 47 + k by simp; omega, flat_getS l i k (by simpa using hi) (fun y hy => hm y (by simp [hy])) hk]
    rfl
set_option maxRecDepth 20000 in
theorem WasIs.get {b : Nat} {w : World} {v : Value} {es : List Ent} {ot : Ent} {o m : Nat} {Xs : List (Array Value)} (h : WasIs b w v es ot o m Xs) (i : Nat) (hi : i < m) : ∃ g c X, v = .slice (some ⟨g, 0, none⟩) m c ∧ LtW g w ∧ X.size = 47 ∧ OneA X ∧ SrvAt b w (nthE es ot i) (nthK es o i) (.agg X) ∧ (loadF 62 (.pointer (some ⟨g, i * 47, none⟩))).run Try.prog w = .ok (.agg X) w := by
  obtain ⟨A, c, rfl⟩ := own_slS h.row
  obtain ⟨g, rfl⟩ := own_adrE h.row (by omega)
  have hl : i < Xs.length := by rw [h.len]; exact hi
  obtain ⟨z, u, s⟩ := h.at_ i _ (List.getElem?_eq_getElem hl)
  have R := own_row h.row
  have all : ∀ x ∈ Xs, x.size = 47 := fun x hx => by
    obtain ⟨j, hj⟩ := List.getElem?_of_mem hx
    exact (h.at_ j x hj).1
  have first := R (i * 47 + 0) _ ((flat_getS Xs i 0 hl all (by omega)).trans (Array.getElem?_eq_getElem (by omega)))
  refine ⟨g, c, Xs[i], rfl, LtW.of_cell first, z, u, s, ?_⟩
  refine run_loadMid 62 47 w g (i * 47) Xs[i] z fun j y hy => ?_
  rw [Array.getElem?_toList] at hy
  have hj : j < 47 := by have := (Array.getElem?_eq_some_iff.1 hy).1; omega
  exact R _ _ ((flat_getS Xs i j hl all hj).trans hy)
set_option maxRecDepth 20000 in
theorem own_ne2 {w : World} {b b' T T' s s' n n' : Nat} {v v' : Value} {xs xs' : List Value} (h : w.ownsRow b T s v n xs) (h' : w.ownsRow b' T' s' v' n' xs') (ne : T ≠ T') : ∀ g, v'.ownBlock = some g → v.ownBlock ≠ some g := fun g e e' => by
  obtain ⟨cs, bk⟩ := own_ty h e'
  obtain ⟨cs', bk'⟩ := own_ty h' e
  have := bk.out.symm.trans bk'.out
  simp at this
  exact ne this.2
set_option maxRecDepth 20000 in
theorem SrvAt.kpv {b b1 n : Nat} {w w' : World} {E : Ent} {K : List Tau} {u v : Value} {xs : List Value} (h : SrvAt b w E K u) (k : KpS (fun i => v.ownBlock = some i) w w') (r : w.ownsRow b1 62 47 v n xs) : SrvAt b w' E K u := by
  obtain ⟨tv, sv, e, o1, o2⟩ := h
  exact ⟨tv, sv, e, own_kpS o1 k fun g hg => own_ne2 r o1 (by decide) g hg, own_kpS o2 k fun g hg => own_ne2 r o2 (by decide) g hg⟩
set_option maxRecDepth 20000 in
theorem WasIs.snoc {b : Nat} {w w' : World} {v v' : Value} {es : List Ent} {ot : Ent} {o m : Nat} {Xs : List (Array Value)} (h : WasIs b w v es ot o m Xs) {X : Array Value} (k : KpS (fun i => v.ownBlock = some i) w w') (row : w'.ownsRow b 62 47 v' (m + 1) (Xs.flatMap Array.toList ++ X.toList)) (z : X.size = 47) (u : OneA X) (s : SrvAt b w (nthE es ot m) (nthK es o m) (.agg X)) : WasIs b w' v' es ot o (m + 1) (Xs ++ [X]) := by
  refine ⟨by rw [List.length_append, h.len]; rfl, by rw [List.flatMap_append]; simpa using row, fun i Y hY => ?_⟩
  by_cases c : i < Xs.length
  · rw [List.getElem?_append_left c] at hY
    obtain ⟨z, u, s⟩ := h.at_ i Y hY
    exact ⟨z, u, s.kpv k h.row⟩
  · obtain ⟨e1, e2⟩ : i = m ∧ X = Y := by
      have l := (List.getElem?_eq_some_iff.1 hY).1
      rw [List.length_append, List.length_singleton, h.len] at l
      have e : i = m := by rw [h.len] at c; omega
      subst e
      rw [List.getElem?_append_right (by rw [h.len]; exact Nat.le_refl _), h.len, Nat.sub_self] at hY
      exact ⟨rfl, by simpa using hY⟩
    subst e1 e2
    exact ⟨z, u, s.kpv k h.row⟩
set_option maxRecDepth 20000 in
theorem foldl_spliceS (off : Nat) : ∀ (v : List Value) (k : Nat) (cs : Array Value), off + k + v.length ≤ cs.size → ((v.zipIdx k).foldl (fun (cs : Array Value) (p : Value × Nat) => cs.setIfInBounds (off + p.2) p.1) cs).toList = spliceL cs.toList (off + k) v
  | [], k, cs, _ => by unfold spliceL; simp
  | x :: v, k, cs, h => by
    rw [List.length_cons] at h
    rw [List.zipIdx_cons, List.foldl_cons, foldl_spliceS off v (k + 1) _ (by simp; omega), Array.toList_setIfInBounds, show off + (k + 1) = off + k + 1 by omega, spliceL_cons _ _ _ _ (by simp; omega)]
set_option maxRecDepth 20000 in
theorem infoSV : (Try.prog.info? 62).map (fun i => (i.zero, i.size, i.bytes)) = some (some (.agg z47), 47, 296) := by kernel_rfl
def buildSV (n : Nat) (l : Array (Nat × Value)) : Sem Value := Instr.buildSlice 74 n l
set_option maxRecDepth 20000 in
theorem buildSV_fold (n : Nat) (l : Array (Nat × Value)) : Instr.buildSlice 74 n l = buildSV n l := rfl
set_option maxRecDepth 20000 in
theorem run_buildSV (c : Array Value) [hc : SzA c 47] (w : World) : (buildSV 1 #[(0, .agg c)]).run Try.prog w = .ok (.slice (some ⟨w.heap.size, 0, none⟩) 1 1) (w.alloc (.cells c 62)) := by
  obtain ⟨i0, hi, hz0, hz1, hz2⟩ := info_parts infoSV
  have h0 := hc.out
  refine run_buildSlice w _ _ 1 _ _ i0 (.agg z47) Try.underlying74 hi hz0 (by rw [hz1]; decide) (by rw [hz1]; decide) ?_
  rw [hz1]
  show Instr.fill (fun i => some (i * 47, 47)) _ [(0, .agg c)] = _
  unfold Instr.fill
  have e1 : (Value.agg c).cells = c := rfl
  simp only [e1]
  rw [if_neg (by simp [h0])]
  unfold Instr.fill
  congr 1
  apply Array.toList_inj.1
  rw [← Array.foldl_toList, Array.toList_zipIdx, foldl_spliceS (0 * 47) c.toList 0 _ (by simp [h0])]
  unfold spliceL
  simp [h0]
end Go.Proofs.Ythgkhllkhhnlpaa
