/- server: Told of any server of a table; what is not told. -/
import Derived.Test.YthgkhllkhhnlpaaSvO
import Derived.Test.YthgkhllkhhnlpaaSvR
import Derived.Test.YthgkhllkhhnlpaaSvG
namespace Go.Proofs.Ythgkhllkhhnlpaa
open Go.RowKit Go.Maps

/-- what is told of the spreads -/
noncomputable def tausE (full : Bool) (o : Nat) (E : Ent) : List Tau := if full then taus E.M o else []
set_option maxRecDepth 20000 in
theorem gtold_E {W : World} {b g : Nat} {F : List Nat} {o : Nat} {x : Int} {full : Bool} {n : Nat} {E : Ent} {p1 p2 p3 : Nat} {gv sv stv : Value} (h : EntIs W b g F o x full n E p1 p2 p3 gv sv stv) (hn : n ≤ 1000) :
    Calls Try.prog 36 #[gv] W fun e w' => ∃ v, e = .returned v ∧ w'.ownsRow W.heap.size 117 5 v (tausE full o E).length (tauRow (tausE full o E)) ∧ Mo W w' := by
  cases full with
  | true =>
    obtain ⟨pg, rg, Cg, pd, vs, rfl, rfl, hG, hS, f1, f2, f3, f4⟩ := (h.limb rfl).ex
    exact told_M pg rg Cg o x E.M W hG (mok_mono h.ok.m hn)
  | false =>
    obtain ⟨rfl, rfl⟩ := h.none_ rfl
    refine (told_gnil W).mono ?_
    rintro e w' ⟨rfl, M⟩
    exact ⟨_, rfl, ⟨rfl, .inl ⟨rfl, rfl⟩⟩, M⟩
set_option maxRecDepth 20000 in
theorem told_E {W : World} {T B go b g : Nat} {C : CfgS} {A : Option Addr} {nl cl i : Nat} {F : List Nat} {o : Nat} {x : Int} {full : Bool} {n : Nat} {E : Ent} {p1 p2 p3 : Nat} {gv sv stv : Value} (hi : i ≤ nl) (bT : Blk W T 83 (tabC C (.slice A nl cl) B go)) (ex : if i < nl then ∃ gL, A = some ⟨gL, 0, none⟩ ∧ W.cell? ⟨gL, i, none⟩ = some (ptrS g) else g = go)
    (h : EntIs W b g F o x full n E p1 p2 p3 gv sv stv) (hn : n ≤ 1000) :
    Calls Try.prog 16 #[ptrS T, .int .i64 (i : Nat)] W fun e w' => ∃ v, e = .returned (.tuple #[v, .bool true]) ∧ SrvAt (W.heap.size + 1) w' E (tausE full o E) v ∧ Mo W w' := by
  obtain ⟨k, k1, g1, g2, g3⟩ := h.ok.g
  refine (told_core W T B go g C A nl cl i hi bT ex E.a E.c E.s1 E.s2 E.s3 E.more p1 p2 p3 gv sv stv (tausE full o E).length E.st.length (tausE full o E) E.st h.ok.sz (one_of_fits h.ok.a) h.e ?_ ?_ ?_ ?_ ?_).mono ?_
  · exact fun w M => told_acc p1 true E.s1 k w (M.blk h.b1) g1 (by omega)
  · exact fun w M => told_acc p2 true E.s2 k w (M.blk h.b2) g2 (by omega)
  · exact fun w M => told_acc p3 true E.s3 k w (M.blk h.b3) g3 (by omega)
  · exact fun w M => gtold_E (h.kp (KpS.of_mo (S := fun _ => False) M) fun _ _ e => e) hn
  · exact fun w M => stclone_own (owns_mo h.row M) rfl (by have := h.ok.st; omega)
  · rintro e w' ⟨tv, sv', rfl, o1, o2, M⟩
    exact ⟨_, rfl, ⟨tv, sv', rfl, o1, o2⟩, M⟩
set_option maxRecDepth 20000 in
theorem ttold_ent {W : World} {T b : Nat} {S : Nat → Prop} {C : CfgS} {o wd : Nat} {es : List Ent} {ot : Ent} {n : Nat} (h : TabW W T b S C o wd es ot n) (hn : n ≤ 1000) (i : Nat) (E : Ent) (hi : es[i]? = some E) :
    Calls Try.prog 16 #[ptrS T, .int .i64 (i : Nat)] W fun e w' => ∃ v, e = .returned (.tuple #[v, .bool true]) ∧ SrvAt (W.heap.size + 1) w' E (taus E.M o) v ∧ Mo W w' := by
  obtain ⟨B, lv, gs, Fs, go, Fo, t, ft⟩ := h.at_.ex
  have l := (List.getElem?_eq_some_iff.1 hi).1
  have lg : i < gs.length := by rw [t.lg]; exact l
  obtain ⟨A, c, rfl⟩ := own_slS t.row
  have hg : gs[i]? = some (gs[i]'lg) := List.getElem?_eq_getElem _
  have hF : Fs[i]? = some (Fs[i]'(by rw [t.lF]; exact l)) := List.getElem?_eq_getElem _
  obtain ⟨p1, p2, p3, gv, sv, stv, he⟩ := t.ent i _ _ E hg hF hi
  obtain ⟨gL, rfl⟩ := own_adrE t.row (by omega)
  have y := (own_cellE t.row (show (gs.map ptrS)[i]? = some (ptrS gs[i]) by rw [List.getElem?_map, hg]; rfl)).1
  exact told_E (by omega) t.t (by rw [if_pos lg]; exact ⟨gL, rfl, y⟩) he hn
set_option maxRecDepth 20000 in
theorem ttold_oth {W : World} {T b : Nat} {S : Nat → Prop} {C : CfgS} {o wd : Nat} {es : List Ent} {ot : Ent} {n : Nat} (h : TabW W T b S C o wd es ot n) (hn : n ≤ 1000) :
    Calls Try.prog 16 #[ptrS T, .int .i64 (es.length : Nat)] W fun e w' => ∃ v, e = .returned (.tuple #[v, .bool true]) ∧ SrvAt (W.heap.size + 1) w' ot [] v ∧ Mo W w' := by
  obtain ⟨B, lv, gs, Fs, go, Fo, t, ft⟩ := h.at_.ex
  obtain ⟨A, c, rfl⟩ := own_slS t.row
  obtain ⟨p1, p2, p3, gv, sv, stv, he⟩ := t.oth
  exact told_E (by rw [t.lg]; exact Nat.le_refl _) t.t (by rw [if_neg (by rw [t.lg]; omega)]) he hn
set_option maxRecDepth 20000 in
theorem tlen_w {W : World} {T b : Nat} {S : Nat → Prop} {C : CfgS} {o wd : Nat} {es : List Ent} {ot : Ent} {n : Nat} (h : TabW W T b S C o wd es ot n) :
    Calls Try.prog 15 #[ptrS T] W fun e w' => e = .returned (.int .i64 (es.length : Nat)) ∧ Mo W w' := by
  obtain ⟨B, lv, gs, Fs, go, Fo, t, ft⟩ := h.at_.ex
  exact tlen_any t
set_option maxRecDepth 20000 in
theorem tfind_w {W : World} {T b : Nat} {S : Nat → Prop} {C : CfgS} {o wd : Nat} {es : List Ent} {ot : Ent} {n : Nat} (h : TabW W T b S C o wd es ot n) (a : Array Value) (ha : AdrS a) :
    Calls Try.prog 13 #[ptrS T, .agg a] W fun e w' => ∃ q : Option Nat, e = .returned (.tuple #[.int .i64 (numO q), .bool q.isSome]) ∧ (∀ i, q = some i → (es.map (·.a))[i]? = some a) ∧ (q = none → a ∉ es.map (·.a)) ∧ Mo W w' := by
  obtain ⟨B, lv, gs, Fs, go, Fo, t, ft⟩ := h.at_.ex
  by_cases hn : a ∈ es.map (·.a)
  · obtain ⟨i, hi⟩ := List.getElem?_of_mem hn
    refine (tfind_yes t a ha.p ha.z i hi).mono ?_
    rintro e w' ⟨rfl, M⟩
    exact ⟨some i, rfl, (fun j hj => by injection hj with hj; rw [← hj]; exact hi), (fun q => by cases q), M⟩
  · refine (tfind_no t a ha.p ha.z hn t.adr).mono ?_
    rintro e w' ⟨rfl, M⟩
    exact ⟨none, rfl, (fun j hj => by cases hj), (fun _ => hn), M⟩
end Go.Proofs.Ythgkhllkhhnlpaa
