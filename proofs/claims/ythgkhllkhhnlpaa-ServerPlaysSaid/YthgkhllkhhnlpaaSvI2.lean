/- Written by gen/bundle36.py: SvI, SvJ, SvK, SvL, SvM, SvNa in one text. -/
import Derived.Test.YthgkhllkhhnlpaaSvF
/- server: one entry of a table changes. -/
namespace Go.Proofs.Ythgkhllkhhnlpaa
open Go.RowKit Go.Maps

set_option maxRecDepth 20000 in
theorem mok_mono {M : List Slot} {n m : Nat} (h : MOk M n) (l : n ≤ m) : MOk M m := by
  obtain ⟨a, b, c⟩ := h
  exact ⟨a, b, by omega⟩
set_option maxRecDepth 20000 in
theorem EntOk.mono {n m : Nat} {E : Ent} (h : EntOk n E) (l : n ≤ m) : EntOk m E := by
  obtain ⟨k, k1, k2⟩ := h.g
  exact ⟨h.a, h.sz, fun k => ⟨(h.c k).1, by have := (h.c k).2; omega⟩, ⟨k, Nat.le_trans k1 l, k2⟩, mok_mono h.m l, by have := h.d; omega, h.st, Nat.le_trans h.more l⟩
set_option maxRecDepth 20000 in
theorem EntIs.mono {W : World} {b g : Nat} {F : List Nat} {o : Nat} {x : Int} {full : Bool} {n m : Nat} {E : Ent} {p1 p2 p3 : Nat} {gv sv stv : Value} (h : EntIs W b g F o x full n E p1 p2 p3 gv sv stv) (l : n ≤ m) : EntIs W b g F o x full m E p1 p2 p3 gv sv stv :=
  ⟨h.e, h.b1, h.b2, h.b3, h.n12, h.n13, h.n23, h.limb, h.none_, h.row, h.fg, h.f1, h.f2, h.f3, h.fr, h.ty, h.ok.mono l⟩
set_option maxRecDepth 20000 in
theorem setG {α : Type} {L : List α} {i j : Nat} {x y : α} (h : (L.set i x)[j]? = some y) : (j ≠ i ∧ L[j]? = some y) ∨ (j = i ∧ y = x ∧ i < L.length) := by
  rw [List.getElem?_set] at h
  by_cases e : i = j
  · rw [if_pos e] at h
    by_cases l : i < L.length
    · rw [if_pos l] at h
      exact .inr ⟨e.symm, by simpa using h.symm, l⟩
    · rw [if_neg l] at h
      cases h
  · rw [if_neg e] at h
    exact .inl ⟨Ne.symm e, h⟩
section
variable {W w' : World} {T B b : Nat} {C : CfgS} {o w : Nat} {lv : Value} {gs : List Nat} {Fs : List (List Nat)} {go : Nat} {Fo : List Nat} {es : List Ent} {ot : Ent} {n : Nat}
set_option maxRecDepth 20000 in
theorem TabIs.bT (h : TabIs W T B b C o w lv gs Fs go Fo es ot n) {F : List Nat} (ty : TyIn W F) : T ∉ F ∧ B ∉ F ∧ ∀ k, lv.ownBlock = some k → k ∉ F :=
  ⟨ty.not_ty h.t (by decide), ty.not_map h.num.isMap, fun k e hk => ty.not_row h.row (by decide) k hk e⟩
set_option maxRecDepth 20000 in
/-- the i-th entry has become E', all else is kept -/
theorem TabIs.set (h : TabIs W T B b C o w lv gs Fs go Fo es ot n) {m : Nat} (l : n ≤ m) {i g : Nat} {F F' : List Nat} {E E' : Ent} {p1 p2 p3 : Nat} {gv sv stv : Value}
    (hg : gs[i]? = some g) (hF : Fs[i]? = some F) (hE : es[i]? = some E) (ea : E'.a = E.a)
    (k : KpS (· ∈ F) W w') (ff : ∀ k ∈ F', k ∈ F ∨ W.heap.size ≤ k)
    (new : EntIs w' b g F' o C.sl true m E' p1 p2 p3 gv sv stv) :
    TabIs w' T B b C o w lv gs (Fs.set i F') go Fo (es.set i E') ot m := by
  obtain ⟨q1, q2, q3, gv', sv', stv', old⟩ := h.ent i g F E hg hF hE
  obtain ⟨nT, nB, nL⟩ := h.bT old.ty
  have em : (es.set i E').map (·.a) = es.map (·.a) := by
    rw [List.map_set]
    refine List.ext_getElem? fun j => ?_
    rw [List.getElem?_set]
    by_cases e : i = j
    · subst e
      rw [if_pos rfl, List.getElem?_map, hE, List.length_map, if_pos (List.getElem?_eq_some_iff.1 hE).1, Option.map_some, ea]
    · rw [if_neg e]
  have old' : ∀ {G : List Nat}, TyIn W G → (∀ k ∈ F, k ∉ G) → ∀ k ∈ G, ¬ k ∈ F := fun _ q k hk hf => q k hf hk
  have hd : ∀ (j : Nat) (G : List Nat), j ≠ i → Fs[j]? = some G → ∀ k ∈ F, k ∉ G := fun j G ne hG k hk hk' => by
    rcases Nat.lt_or_gt_of_ne ne with q | q
    · exact h.dis j i G F q hG hF k hk' hk
    · exact h.dis i j F G q hF hG k hk hk'
  have tyG : ∀ (j : Nat) (G : List Nat), Fs[j]? = some G → TyIn W G := fun j G hG => by
    have lj := (List.getElem?_eq_some_iff.1 hG).1
    obtain ⟨_, _, _, _, _, _, he⟩ := h.ent j _ G _ (List.getElem?_eq_getElem (by rw [h.lg, ← h.lF]; exact lj)) hG (List.getElem?_eq_getElem (by rw [← h.lF]; exact lj))
    exact he.ty
  have hd' : ∀ (j : Nat) (G : List Nat), j ≠ i → Fs[j]? = some G → ∀ k ∈ F', k ∉ G := fun j G ne hG k hk hk' => by
    rcases ff k hk with q | q
    · exact hd j G ne hG k q hk'
    · have := (tyG j G hG).lt k hk'
      omega
  refine ⟨k.blk h.t nT, own_kpS h.row k nL, ?_, ?_, ?_, ?_, ?_, ?_, ?_, ?_, h.ok, ?_⟩
  · rw [em]
    exact h.num.keep (k.block B h.num.lt nB)
  · rw [em]; exact h.nd
  · rw [List.length_set]; exact h.lg
  · rw [List.length_set, List.length_set]; exact h.lF
  · intro j g' G X h1 h2 h3
    rcases setG h2 with ⟨ne, c⟩ | ⟨rfl, rfl, _⟩
    · rcases setG h3 with ⟨_, d⟩ | ⟨e, _, _⟩
      · obtain ⟨r1, r2, r3, u, v, z, he⟩ := h.ent j g' G X h1 c d
        exact ⟨r1, r2, r3, u, v, z, (he.kp k (old' he.ty (hd j G ne c))).mono l⟩
      · exact absurd e ne
    · rcases setG h3 with ⟨ne, _⟩ | ⟨_, rfl, _⟩
      · exact absurd rfl ne
      · have e : g' = g := by rw [hg] at h1; injection h1 with h1; exact h1.symm
        subst e
        exact ⟨p1, p2, p3, gv, sv, stv, new⟩
  · obtain ⟨r1, r2, r3, u, v, z, he⟩ := h.oth
    exact ⟨r1, r2, r3, u, v, z, (he.kp k (old' he.ty (h.diso i F hF))).mono l⟩
  · intro j j' G G' hj h1 h2
    rcases setG h1 with ⟨ne, c⟩ | ⟨rfl, rfl, _⟩ <;> rcases setG h2 with ⟨ne', c'⟩ | ⟨e, rfl, _⟩
    · exact h.dis j j' G G' hj c c'
    · subst e
      intro k hk hk'
      exact hd' j G ne c k hk' hk
    · exact hd' j' G' ne' c'
    · omega
  · intro j G h1
    rcases setG h1 with ⟨ne, c⟩ | ⟨rfl, rfl, _⟩
    · exact h.diso j G c
    · intro k hk hk'
      obtain ⟨_, _, _, _, _, _, he⟩ := h.oth
      rcases ff k hk with q | q
      · exact h.diso j F hF k q hk'
      · have := he.ty.lt k hk'
        omega
  · rw [List.length_set]; exact h.le
set_option maxRecDepth 20000 in
/-- the other servers' entry has become E' -/
theorem TabIs.setO (h : TabIs W T B b C o w lv gs Fs go Fo es ot n) {m : Nat} (l : n ≤ m) {F' : List Nat} {E' : Ent} {p1 p2 p3 : Nat} {gv sv stv : Value}
    (k : KpS (· ∈ Fo) W w') (ff : ∀ k ∈ F', k ∈ Fo ∨ W.heap.size ≤ k)
    (new : EntIs w' b go F' o C.sl false m E' p1 p2 p3 gv sv stv) :
    TabIs w' T B b C o w lv gs Fs go F' es E' m := by
  obtain ⟨q1, q2, q3, gv', sv', stv', old⟩ := h.oth
  obtain ⟨nT, nB, nL⟩ := h.bT old.ty
  refine ⟨k.blk h.t nT, own_kpS h.row k nL, h.num.keep (k.block B h.num.lt nB), h.nd, h.lg, h.lF, ?_, ⟨_, _, _, _, _, _, new⟩, h.dis, ?_, h.ok, h.le⟩
  · intro j g' G X h1 h2 h3
    obtain ⟨r1, r2, r3, u, v, z, he⟩ := h.ent j g' G X h1 h2 h3
    exact ⟨r1, r2, r3, u, v, z, (he.kp k fun k hk hk' => h.diso j G h2 k hk hk').mono l⟩
  · intro j G h1 k hk hk'
    rcases ff k hk' with q | q
    · exact h.diso j G h1 k hk q
    · have lj := (List.getElem?_eq_some_iff.1 h1).1
      obtain ⟨_, _, _, _, _, _, he⟩ := h.ent j _ G _ (List.getElem?_eq_getElem (by rw [h.lg, ← h.lF]; exact lj)) h1 (List.getElem?_eq_getElem (by rw [← h.lF]; exact lj))
      have := he.ty.lt k hk
      omega
set_option maxRecDepth 20000 in
theorem TabIs.mo {W w' : World} (h : TabIs W T B b C o w lv gs Fs go Fo es ot n) (k : Mo W w') : TabIs w' T B b C o w lv gs Fs go Fo es ot n := by
  have kk : KpS (fun _ => False) W w' := KpS.of_mo k
  refine ⟨k.blk h.t, own_kpS h.row kk fun _ _ e => e, h.num.mo k, h.nd, h.lg, h.lF, ?_, ?_, h.dis, h.diso, h.ok, h.le⟩
  · intro j g' G X h1 h2 h3
    obtain ⟨r1, r2, r3, u, v, z, he⟩ := h.ent j g' G X h1 h2 h3
    exact ⟨r1, r2, r3, u, v, z, he.kp kk fun _ _ e => e⟩
  · obtain ⟨r1, r2, r3, u, v, z, he⟩ := h.oth
    exact ⟨r1, r2, r3, u, v, z, he.kp kk fun _ _ e => e⟩
end
end Go.Proofs.Ythgkhllkhhnlpaa
/- server: Count. -/
namespace Go.Proofs.Ythgkhllkhhnlpaa
open Go.RowKit Go.Maps

attribute [local go_sem] blk_cell' blk_frozen'
attribute [local go_sem ↓] loadF_addr storeF_addr
attribute [local go_sem] run_loadF0 run_storeF0
/-- what `of` gives -/
structure OfGives (g : Nat) (E : Array Value) (k : Nat) (c : Int) (w : World) : Prop where
  b : Blk w g 99 E
  sz : E.size = 33
  at_ : E[17 + k]? = some (.int .i64 c)
  lo : 0 ≤ c
  hi : c + 1 ≤ 9223372036854775807
set_option maxRecDepth 20000 in
set_option maxHeartbeats 8000000 in
theorem tcount_lt (W : World) (T B go : Nat) (C : CfgS) (lv : Value) (bT : Blk W T 83 (tabC C lv B go)) (a : Array Value) (hz : a.size = 17) (k : Nat) (hk : k < 9) (R : Int → Nat → Array Value → Int → World → Prop)
    (OF : ∀ w, Mo W w → Calls Try.prog 30 #[ptrS T, .agg a] w fun e w2 => ∃ (i : Int) (g : Nat) (E : Array Value) (c : Int), e = .returned (.tuple #[.int .i64 i, ptrS g]) ∧ OfGives g E k c w2 ∧ R i g E c w2) :
    Calls Try.prog 11 #[ptrS T, .agg a, .int .u8 (k : Nat)] W fun e w' => ∃ (j : Int) (g : Nat) (E : Array Value) (c : Int) (w2 : World), e = .returned (.int .i64 j) ∧ R j g E c w2 ∧ KpS (fun i => i = g) w2 w' ∧ Blk w' g 99 (E.setIfInBounds (17 + k) (.int .i64 (c + 1))) := by
  have iz : SzA a 17 := ⟨hz⟩
  have HOF := Lib.hid OF
  clear OF
  have d9 : decide ((k : Int) < 9) = true := decide_eq_true (by omega)
  have e0 : (0 : Int) ≤ k := by omega
  have e1 : (k : Int) < 9 := by omega
  clear hz
  go_enter Try.func11, Try.ntmps11
  go_wp2_with fail
  refine (HOF.out _ Mor.out).mono ?_
  rintro e w2 ⟨j, g, E, c, rfl, G, r⟩
  obtain ⟨bE, sz, at_, lo, hi⟩ := G
  have HR := Lib.hid r
  clear r HOF bT
  have y := blk_cell bE (17 + k)
  rw [at_] at y
  have yf := blk_frozen bE (17 + k)
  go_upto_region 5 with (fail)
  generalize hkk : 17 + k = kk at *
  have hz : LtW g w2 := LtW.of_cell y
  clear at_ sz
  go_region
  go_wp2_with fail
  go_ret
  have MD : Mo (w2.setCell ⟨g, kk, none⟩ (.int .i64 (c + 1))) (w2.setCell ⟨g, kk, none⟩ (.int .i64 (c + 1))).drew := Mor.out
  rw [hkk]
  have KK : KpS (fun i => i = g) w2 (w2.setCell ⟨g, kk, none⟩ (.int .i64 (c + 1))) := kpS_setCell w2 g kk (.int .i64 (c + 1)) rfl
  exact ⟨j, g, E, c, w2, rfl, HR.out, KK.trans (KpS.of_mo MD) fun _ _ e => e, MD.blk ⟨(blk_setCell bE kk (.int .i64 (c + 1))).out⟩⟩
set_option maxRecDepth 20000 in
set_option maxHeartbeats 8000000 in
theorem tcount_ge (W : World) (T B go : Nat) (C : CfgS) (lv : Value) (bT : Blk W T 83 (tabC C lv B go)) (a : Array Value) (hz : a.size = 17) (k : Nat) (hk : 9 ≤ k) (R : Int → World → Prop) (RM : ∀ j w w', R j w → Mo w w' → R j w')
    (OF : ∀ w, Mo W w → Calls Try.prog 30 #[ptrS T, .agg a] w fun e w2 => ∃ (i : Int) (g : Value), e = .returned (.tuple #[.int .i64 i, g]) ∧ R i w2) :
    Calls Try.prog 11 #[ptrS T, .agg a, .int .u8 (k : Nat)] W fun e w' => ∃ (j : Int), e = .returned (.int .i64 j) ∧ R j w' := by
  have iz : SzA a 17 := ⟨hz⟩
  have HOF := Lib.hid OF
  have HM := Lib.hid RM
  clear OF RM
  have d9 : decide ((k : Int) < 9) = false := decide_eq_false (by omega)
  have d9' : ¬ ((k : Int) < 9) := by omega
  clear hz
  go_enter Try.func11, Try.ntmps11
  go_wp2_with fail
  refine (HOF.out _ Mor.out).mono ?_
  rintro e w2 ⟨j, g, rfl, r⟩
  have HR := Lib.hid r
  clear r HOF bT
  go_wp2_with fail
  go_ret
  exact ⟨j, rfl, HM.out _ _ _ HR.out Mor.out⟩
set_option maxRecDepth 20000 in
set_option maxHeartbeats 8000000 in
theorem tcount_nil (W : World) (a : Array Value) (hz : a.size = 17) (k : Nat) :
    Calls Try.prog 11 #[nilS, .agg a, .int .u8 (k : Nat)] W fun e w' => e = .returned (.int .i64 (-1)) ∧ Mo W w' := by
  have iz : SzA a 17 := ⟨hz⟩
  clear hz
  go_enter Try.func11, Try.ntmps11
  go_wp2_with fail
  go_ret
  exact ⟨rfl, Mor.out⟩
end Go.Proofs.Ythgkhllkhhnlpaa
/- server: of, all three ways in one; the table with the blocks it touches. -/
namespace Go.Proofs.Ythgkhllkhhnlpaa
open Go.RowKit Go.Maps

/-- a table in memory, with its blocks inside S -/
structure FootT (S : Nat → Prop) (T B : Nat) (lv : Value) (Fs : List (List Nat)) (Fo : List Nat) : Prop where
  t : S T
  b : S B
  l : ∀ k, lv.ownBlock = some k → S k
  f : ∀ (i : Nat) (F : List Nat), Fs[i]? = some F → ∀ k ∈ F, S k
  o : ∀ k ∈ Fo, S k
structure TabAt (W : World) (T b : Nat) (S : Nat → Prop) (C : CfgS) (o w : Nat) (es : List Ent) (ot : Ent) (n : Nat) : Prop where
  ex : ∃ B lv gs Fs go Fo, TabIs W T B b C o w lv gs Fs go Fo es ot n ∧ FootT S T B lv Fs Fo
/-- what `of` may answer: the entries behind it, the number, is it one of them -/
inductive OfP (sv : Int) (D0 : Sd) (a : Array Value) (es : List Ent) : List Ent → Option Nat → Prop
  | yes {i : Nat} {E : Ent} (h : es[i]? = some E) (e : E.a = a) : OfP sv D0 a es es (some i)
  | new (h : a ∉ es.map (·.a)) (l : (es.length : Int) < sv) : OfP sv D0 a es (es ++ [ent0 a D0]) (some es.length)
  | full (h : a ∉ es.map (·.a)) (l : sv ≤ es.length) : OfP sv D0 a es es none
def numO : Option Nat → Int
  | some i => (i : Nat)
  | none => -1
set_option maxRecDepth 20000 in
theorem TabIs.adr {W : World} {T B b : Nat} {C : CfgS} {o w : Nat} {lv : Value} {gs : List Nat} {Fs : List (List Nat)} {go : Nat} {Fo : List Nat} {es : List Ent} {ot : Ent} {n : Nat} (h : TabIs W T B b C o w lv gs Fs go Fo es ot n) : ∀ q ∈ es.map (·.a), AdrP q := fun q hq => by
  obtain ⟨E, hE, rfl⟩ := List.mem_map.1 hq
  obtain ⟨i, hi⟩ := List.getElem?_of_mem hE
  have l := (List.getElem?_eq_some_iff.1 hi).1
  obtain ⟨_, _, _, _, _, _, he⟩ := h.ent i _ _ E (List.getElem?_eq_getElem (by rw [h.lg]; exact l)) (List.getElem?_eq_getElem (by rw [h.lF]; exact l)) hi
  exact he.ok.a
/-- the entry that `of` gave, at its place in the table -/
inductive PlaceT (w : World) (T B b : Nat) (C : CfgS) (o wd : Nat) (lv : Value) (gs : List Nat) (Fs : List (List Nat)) (go : Nat) (Fo : List Nat) (es : List Ent) (ot : Ent) (n : Nat) (g : Nat) : Option Nat → Prop
  | at {j : Nat} {F : List Nat} {E : Ent} (hg : gs[j]? = some g) (hF : Fs[j]? = some F) (hE : es[j]? = some E) : PlaceT w T B b C o wd lv gs Fs go Fo es ot n g (some j)
  | other (hg : g = go) : PlaceT w T B b C o wd lv gs Fs go Fo es ot n g none
set_option maxRecDepth 20000 in
theorem tof_all {W : World} {T b : Nat} {S : Nat → Prop} {C : CfgS} {o wd : Nat} {es : List Ent} {ot : Ent} {n : Nat} (h : TabAt W T b S C o wd es ot n) (a : Array Value) (ha : AdrP a) (hz : a.size = 17) (hb : b ≤ W.heap.size) :
    Calls Try.prog 30 #[ptrS T, .agg a] W fun e w' => ∃ es1 q g S1 B lv gs Fs go Fo, e = .returned (.tuple #[.int .i64 (numO q), ptrS g]) ∧ OfP C.sv (sd0 wd C.st) a es es1 q ∧ TabIs w' T B b C o wd lv gs Fs go Fo es1 ot n ∧ FootT S1 T B lv Fs Fo ∧ PlaceT w' T B b C o wd lv gs Fs go Fo es1 ot n g q ∧ KpS S W w' ∧ ∀ k, S1 k → S k ∨ W.heap.size ≤ k := by
  obtain ⟨B, lv, gs, Fs, go, Fo, t, ft⟩ := h.ex
  by_cases hn : a ∈ es.map (·.a)
  · obtain ⟨i, hi⟩ := List.getElem?_of_mem hn
    have l := (List.getElem?_eq_some_iff.1 hi).1
    rw [List.length_map] at l
    have hg : gs[i]? = some (gs[i]'(by rw [t.lg]; exact l)) := List.getElem?_eq_getElem _
    have hF : Fs[i]? = some (Fs[i]'(by rw [t.lF]; exact l)) := List.getElem?_eq_getElem _
    have hE : es[i]? = some es[i] := List.getElem?_eq_getElem l
    refine (tof_yes t a ha hz i _ hi hg).mono ?_
    rintro e w' ⟨rfl, M⟩
    refine ⟨es, some i, _, S, B, lv, gs, Fs, go, Fo, rfl, .yes hE ?_, t.mo M, ft, .at hg hF hE, KpS.of_mo M, fun k hk => .inl hk⟩
    rw [List.getElem?_map, hE, Option.map_some] at hi
    injection hi
  · by_cases hf : (es.length : Int) < C.sv
    · refine (tof_new t a ha hz hn t.adr hf hb).mono ?_
      rintro e w' ⟨g, F, lv', rfl, t', K, fr, hl⟩
      refine ⟨_, some es.length, g, fun k => S k ∨ W.heap.size ≤ k, B, lv', gs ++ [g], Fs ++ [F], go, Fo, rfl, .new hn hf, t', ⟨.inl ft.t, .inl ft.b, ?_, ?_, fun k hk => .inl (ft.o k hk)⟩, .at (F := F) (E := ent0 a (sd0 wd C.st)) ?_ ?_ ?_, ?_, fun k hk => hk⟩
      · intro k hk
        rcases hl with e | ⟨k', e, hk'⟩
        · exact .inl (ft.l k (e ▸ hk))
        · rw [e] at hk
          injection hk with hk
          exact .inr (hk ▸ hk')
      · intro i G hG k hk
        rcases snocG hG with ⟨h1, _⟩ | ⟨_, rfl⟩
        · exact .inl (ft.f i G h1 k hk)
        · exact .inr (fr k hk)
      · rw [← t.lg, List.getElem?_concat_length]
      · rw [← t.lF, List.getElem?_concat_length]
      · rw [List.getElem?_concat_length]
      · exact ⟨K.os, K.tape, K.output, K.size, fun i hi n => K.block i hi fun q => n (by
          rcases q with rfl | rfl | q
          · exact ft.t
          · exact ft.b
          · exact ft.l i q)⟩
    · refine (tof_full t a ha hz hn t.adr (by omega)).mono ?_
      rintro e w' ⟨rfl, M⟩
      exact ⟨es, none, go, S, B, lv, gs, Fs, go, Fo, rfl, .full hn (by omega), t.mo M, ft, .other rfl, KpS.of_mo M, fun k hk => .inl hk⟩
end Go.Proofs.Ythgkhllkhhnlpaa
/- server: Count, whole. -/
namespace Go.Proofs.Ythgkhllkhhnlpaa
open Go.RowKit Go.Maps

def incE (E : Ent) (k : Nat) : Ent := { E with c := incF E.c k }
/-- what an operation on one server does to the table -/
def chg (f : Ent → Ent) (es : List Ent) (ot : Ent) : Option Nat → List Ent × Ent
  | some i => (match es[i]? with | some E => es.set i (f E) | none => es, ot)
  | none => (es, f ot)
set_option maxRecDepth 20000 in
theorem incE_ok {n : Nat} {E : Ent} (h : EntOk n E) (k : Nat) : EntOk (n + 1) (incE E k) := by
  have h' := h.mono (Nat.le_succ n)
  refine ⟨h.a, h.sz, fun j => ?_, h'.g, h'.m, h'.d, h.st, h'.more⟩
  show 0 ≤ incF E.c k j ∧ incF E.c k j ≤ ((n + 1 : Nat) : Int)
  have := h.c j
  unfold incF
  split <;> omega
set_option maxRecDepth 20000 in
theorem EntIs.inc {W w' : World} {b g : Nat} {F : List Nat} {o : Nat} {x : Int} {full : Bool} {n : Nat} {E : Ent} {p1 p2 p3 : Nat} {gv sv stv : Value} (h : EntIs W b g F o x full n E p1 p2 p3 gv sv stv) {k : Nat} (hk : k < 9) (K : KpS (fun i => i = g) W w')
    (bl : Blk w' g 99 ((entC E.a E.c (ptrS p1) (ptrS p2) (ptrS p3) gv sv stv E.more).setIfInBounds (17 + k) (.int .i64 (E.c k + 1)))) :
    EntIs w' b g F o x full (n + 1) (incE E k) p1 p2 p3 gv sv stv := by
  rw [entC_inc h.ok.sz k hk] at bl
  have ne : ∀ {q : Nat} {t : TypeId} {cs : Array Value}, Blk W q t cs → t ≠ 99 → ¬ q = g := fun bq ht => blk_neT bq h.e ht
  have ty : TyIn w' F := fun i hi => by
    obtain ⟨cs, t, f, e, ht⟩ := h.ty i hi
    by_cases q : i = g
    · subst q
      exact ⟨_, _, _, bl.out, by decide⟩
    · exact ⟨cs, t, f, (K.block i (Array.getElem?_eq_some_iff.1 e).1 q).trans e, ht⟩
  refine ⟨bl, K.blk h.b1 (ne h.b1 (by decide)), K.blk h.b2 (ne h.b2 (by decide)), K.blk h.b3 (ne h.b3 (by decide)), h.n12, h.n13, h.n23, fun hf => ?_, h.none_, ?_, h.fg, h.f1, h.f2, h.f3, h.fr, ty, incE_ok h.ok k⟩
  · obtain ⟨pg, rg, Cg, pd, vs, e1, e2, h1, h2, f1, f2, f3, f4⟩ := (h.limb hf).ex
    obtain ⟨rcs, rB⟩ := ring_tyS h1.at_.r
    exact ⟨pg, rg, Cg, pd, vs, e1, e2, h1.kpS K (ne h1.at_.g (by decide)) (ne rB (by decide)), h2.kpS K (ne h2.m (by decide)) (fun q hq e => own_noTS h2.row h.e (by decide) (e ▸ hq)), f1, f2, f3, f4⟩
  · exact own_kpS h.row K fun q hq e => own_noTS h.row h.e (by decide) (e ▸ hq)
/-- where `of`'s entry lies -/
inductive EntAt (w : World) (b : Nat) (C : CfgS) (o : Nat) (gs : List Nat) (Fs : List (List Nat)) (go : Nat) (Fo : List Nat) (es : List Ent) (ot : Ent) (n : Nat) (g : Nat) (F : List Nat) (E : Ent) (p1 p2 p3 : Nat) (gv sv stv : Value) : Option Nat → Prop
  | at {j : Nat} (hg : gs[j]? = some g) (hF : Fs[j]? = some F) (hE : es[j]? = some E) (he : EntIs w b g F o C.sl true n E p1 p2 p3 gv sv stv) : EntAt w b C o gs Fs go Fo es ot n g F E p1 p2 p3 gv sv stv (some j)
  | other (hg : g = go) (hF : F = Fo) (hE : E = ot) (he : EntIs w b go Fo o C.sl false n ot p1 p2 p3 gv sv stv) : EntAt w b C o gs Fs go Fo es ot n g F E p1 p2 p3 gv sv stv none
set_option maxRecDepth 20000 in
theorem EntAt.is {w : World} {b : Nat} {C : CfgS} {o : Nat} {gs : List Nat} {Fs : List (List Nat)} {go : Nat} {Fo : List Nat} {es : List Ent} {ot : Ent} {n g : Nat} {F : List Nat} {E : Ent} {p1 p2 p3 : Nat} {gv sv stv : Value} {q : Option Nat} (h : EntAt w b C o gs Fs go Fo es ot n g F E p1 p2 p3 gv sv stv q) : EntIs w b g F o C.sl q.isSome n E p1 p2 p3 gv sv stv := by
  cases h with
  | «at» _ _ _ he => exact he
  | other hg hF hE he => subst hg hF hE; exact he
set_option maxRecDepth 20000 in
theorem PlaceT.ent {w : World} {T B b : Nat} {C : CfgS} {o wd : Nat} {lv : Value} {gs : List Nat} {Fs : List (List Nat)} {go : Nat} {Fo : List Nat} {es : List Ent} {ot : Ent} {n g : Nat} {q : Option Nat} (t : TabIs w T B b C o wd lv gs Fs go Fo es ot n) (h : PlaceT w T B b C o wd lv gs Fs go Fo es ot n g q) : ∃ F E p1 p2 p3 gv sv stv, EntAt w b C o gs Fs go Fo es ot n g F E p1 p2 p3 gv sv stv q := by
  cases h with
  | «at» hg hF hE =>
    obtain ⟨p1, p2, p3, gv, sv, stv, he⟩ := t.ent _ _ _ _ hg hF hE
    exact ⟨_, _, p1, p2, p3, gv, sv, stv, .at hg hF hE he⟩
  | other hg =>
    obtain ⟨p1, p2, p3, gv, sv, stv, he⟩ := t.oth
    exact ⟨_, _, p1, p2, p3, gv, sv, stv, .other hg rfl rfl he⟩
set_option maxRecDepth 20000 in
/-- the entry has changed by f -/
theorem EntAt.chg {w w' : World} {T B b : Nat} {C : CfgS} {o wd : Nat} {lv : Value} {gs : List Nat} {Fs : List (List Nat)} {go : Nat} {Fo : List Nat} {es : List Ent} {ot : Ent} {n m g : Nat} {F F' : List Nat} {E : Ent} {p1 p2 p3 p1' p2' p3' : Nat} {gv sv stv gv' sv' stv' : Value} {q : Option Nat} {S : Nat → Prop} (t : TabIs w T B b C o wd lv gs Fs go Fo es ot n) (ft : FootT S T B lv Fs Fo) (l : n ≤ m) (f : Ent → Ent) (fa : (f E).a = E.a)
    (h : EntAt w b C o gs Fs go Fo es ot n g F E p1 p2 p3 gv sv stv q) (k : KpS (· ∈ F) w w') (ff : ∀ k ∈ F', k ∈ F ∨ w.heap.size ≤ k)
    (new : EntIs w' b g F' o C.sl q.isSome m (f E) p1' p2' p3' gv' sv' stv') :
    TabAt w' T b (fun i => S i ∨ w.heap.size ≤ i) C o wd (chg f es ot q).1 (chg f es ot q).2 m ∧ KpS S w w' := by
  have widen : (∀ k ∈ F, S k) → KpS S w w' := fun q => ⟨k.os, k.tape, k.output, k.size, fun i hi n => k.block i hi fun z => n (q i z)⟩
  cases h with
  | @«at» j hg hF hE he =>
    refine ⟨⟨B, lv, gs, Fs.set j F', go, Fo, ?_, ?_⟩, widen (ft.f j F hF)⟩
    · show TabIs w' T B b C o wd lv gs (Fs.set j F') go Fo (match es[j]? with | some E => es.set j (f E) | none => es) ot m
      rw [hE]
      exact t.set l hg hF hE fa k ff new
    · refine ⟨.inl ft.t, .inl ft.b, fun i hi => .inl (ft.l i hi), fun i G hG i' hi' => ?_, fun i hi => .inl (ft.o i hi)⟩
      rcases setG hG with ⟨_, h1⟩ | ⟨_, rfl, _⟩
      · exact .inl (ft.f i G h1 i' hi')
      · rcases ff i' hi' with z | z
        · exact .inl (ft.f j F hF i' z)
        · exact .inr z
  | other hg hF hE he =>
    subst hg hF hE
    refine ⟨⟨B, lv, gs, Fs, g, F', ?_, ?_⟩, widen ft.o⟩
    · show TabIs w' T B b C o wd lv gs Fs g F' es (f E) m
      exact t.setO l k ff new
    · refine ⟨.inl ft.t, .inl ft.b, fun i hi => .inl (ft.l i hi), fun i G hG i' hi' => .inl (ft.f i G hG i' hi'), fun i hi => ?_⟩
      rcases ff i hi with z | z
      · exact .inl (ft.o i z)
      · exact .inr z
set_option maxRecDepth 20000 in
theorem tcount_any {W : World} {T b : Nat} {S : Nat → Prop} {C : CfgS} {o wd : Nat} {es : List Ent} {ot : Ent} {n : Nat} (h : TabAt W T b S C o wd es ot n) (a : Array Value) (ha : AdrP a) (hz : a.size = 17) (hb : b ≤ W.heap.size) (k : Nat) (hn : n ≤ 1000000) :
    Calls Try.prog 11 #[ptrS T, .agg a, .int .u8 (k : Nat)] W fun e w' => ∃ es1 q S1, e = .returned (.int .i64 (numO q)) ∧ OfP C.sv (sd0 wd C.st) a es es1 q ∧ TabAt w' T b S1 C o wd (chg (fun E => if k < 9 then incE E k else E) es1 ot q).1 (chg (fun E => if k < 9 then incE E k else E) es1 ot q).2 (n + 1) ∧ KpS S W w' ∧ ∀ k, S1 k → S k ∨ W.heap.size ≤ k := by
  obtain ⟨B0, lv0, gs0, Fs0, go0, Fo0, t0, ft0⟩ := h.ex
  have mo_at : ∀ w, Mo W w → TabAt w T b S C o wd es ot n := fun w M => ⟨B0, lv0, gs0, Fs0, go0, Fo0, t0.mo M, ft0⟩
  have kz : ∀ {U w w2 : World}, Mo U w → KpS S w w2 → KpS S U w2 := fun M K => (KpS.of_mo (S := S) M).trans K fun _ _ e => e
  by_cases hk : k < 9
  · have ef : (fun E => if k < 9 then incE E k else E) = fun E => incE E k := by funext E; rw [if_pos hk]
    rw [ef]
    refine (tcount_lt W T B0 go0 C lv0 t0.t a hz k hk (fun i g X c w2 => ∃ es1 q S1 B lv gs Fs go Fo F E p1 p2 p3 gv sv stv, i = numO q ∧ OfP C.sv (sd0 wd C.st) a es es1 q ∧ TabIs w2 T B b C o wd lv gs Fs go Fo es1 ot n ∧ FootT S1 T B lv Fs Fo ∧ EntAt w2 b C o gs Fs go Fo es1 ot n g F E p1 p2 p3 gv sv stv q ∧ X = entC E.a E.c (ptrS p1) (ptrS p2) (ptrS p3) gv sv stv E.more ∧ c = E.c k ∧ KpS S W w2 ∧ ∀ k, S1 k → S k ∨ W.heap.size ≤ k) ?_).mono ?_
    · intro w M
      refine (tof_all (mo_at w M) a ha hz (Nat.le_trans hb M.size)).mono ?_
      rintro e w2 ⟨es1, q, g, S1, B, lv, gs, Fs, go, Fo, rfl, P, t, ft, pl, K, fr⟩
      obtain ⟨F, E, p1, p2, p3, gv, sv, stv, ea⟩ := pl.ent t
      have ei := ea.is
      have hc := ei.ok.c k
      exact ⟨_, g, _, _, rfl, ⟨ei.e, entC_size ei.ok.sz, entC_cnt ei.ok.sz k hk, hc.1, by have := hc.2; omega⟩, es1, q, S1, B, lv, gs, Fs, go, Fo, F, E, p1, p2, p3, gv, sv, stv, rfl, P, t, ft, ea, rfl, rfl, kz M K, fun i hi => (fr i hi).imp id (Nat.le_trans M.size)⟩
    · rintro e w' ⟨j, g, X, c, w2, rfl, ⟨es1, q, S1, B, lv, gs, Fs, go, Fo, F, E, p1, p2, p3, gv, sv, stv, rfl, P, t, ft, ea, rfl, rfl, K, fr⟩, K2, bl⟩
      have ei := ea.is
      have K3 : KpS (· ∈ F) w2 w' := ⟨K2.os, K2.tape, K2.output, K2.size, fun i hi nn => K2.block i hi fun z => nn (z ▸ ei.fg)⟩
      obtain ⟨r1, r2⟩ := ea.chg t ft (Nat.le_succ n) (fun E => incE E k) rfl K3 (fun _ hk => .inl hk) (ei.inc hk K2 bl)
      refine ⟨es1, q, _, rfl, P, r1, K.trans r2 fun i hi z => (fr i z).resolve_right (by omega), fun i hi => ?_⟩
      rcases hi with z | z
      · exact fr i z
      · exact .inr (Nat.le_trans K.size z)
  · have ef : (fun E => if k < 9 then incE E k else E) = fun E => E := by funext E; rw [if_neg hk]
    rw [ef]
    refine (tcount_ge W T B0 go0 C lv0 t0.t a hz k (by omega) (fun i w2 => ∃ es1 q S1, i = numO q ∧ OfP C.sv (sd0 wd C.st) a es es1 q ∧ TabAt w2 T b S1 C o wd (chg (fun E => E) es1 ot q).1 (chg (fun E => E) es1 ot q).2 (n + 1) ∧ KpS S W w2 ∧ ∀ k, S1 k → S k ∨ W.heap.size ≤ k) ?_ ?_).mono ?_
    · rintro j w w' ⟨es1, q, S1, rfl, P, t, K, fr⟩ M
      obtain ⟨B1, lv1, gs1, Fs1, go1, Fo1, t1, ft1⟩ := t.ex
      exact ⟨es1, q, S1, rfl, P, ⟨B1, lv1, gs1, Fs1, go1, Fo1, t1.mo M, ft1⟩, K.trans (KpS.of_mo (S := S) M) fun _ _ e => e, fr⟩
    · intro w M
      refine (tof_all (mo_at w M) a ha hz (Nat.le_trans hb M.size)).mono ?_
      rintro e w2 ⟨es1, q, g, S1, B, lv, gs, Fs, go, Fo, rfl, P, t, ft, pl, K, fr⟩
      obtain ⟨F, E, p1, p2, p3, gv, sv, stv, ea⟩ := pl.ent t
      obtain ⟨r1, r2⟩ := ea.chg t ft (Nat.le_succ n) (fun E => E) rfl (KpS.of_mo (S := (· ∈ F)) (Mor.out : Mo w2 w2)) (fun _ hk => .inl hk) (ea.is.mono (Nat.le_succ n))
      refine ⟨_, _, rfl, es1, q, _, rfl, P, r1, kz M K, fun i hi => ?_⟩
      rcases hi with z | z
      · exact (fr i z).imp id (Nat.le_trans M.size)
      · exact .inr (Nat.le_trans (kz M K).size z)
    · rintro e w' ⟨j, rfl, es1, q, S1, rfl, r⟩
      exact ⟨es1, q, S1, rfl, r⟩
end Go.Proofs.Ythgkhllkhhnlpaa
/- server: what Put does to an entry, plain. -/
namespace Go.Proofs.Ythgkhllkhhnlpaa
open Go.RowKit Go.Maps

/-- a sample's fields: the flow's cells, four times, offset, delay, the third sum, the class -/
structure Smp where
  f : Array Value
  t1 : Int
  t2 : Int
  t3 : Int
  t4 : Int
  o : Int
  d : Int
  s : Int
  st : Int
abbrev smpC (S : Smp) : Array Value := S.f ++ #[.int .i64 (hiW S.t1), .int .u64 (loW S.t1), .int .i64 (hiW S.t2), .int .u64 (loW S.t2), .int .i64 (hiW S.t3), .int .u64 (loW S.t3), .int .i64 (hiW S.t4), .int .u64 (loW S.t4), .int .i64 S.o, .int .i64 S.d, .int .i64 S.s, .int .u8 S.st]
/-- the server's address -/
def smpA (S : Smp) : Array Value := (smpC S).extract 18 35
/-- an address -/
structure AdrS (k : Array Value) : Prop where
  p : AdrP k
  z : k.size = 17
structure SmpOk (S : Smp) : Prop where
  f : S.f.size = 36
  a : AdrS (smpA S)
  t4 : InW S.t4
  o : Is64S S.o
  d : Is64S S.d
  s : Is64S S.s
set_option maxRecDepth 20000 in
theorem smpA_size {S : Smp} (h : S.f.size = 36) : (smpA S).size = 17 := by
  unfold smpA
  simp [Array.size_extract, h]
/-- the three sums -/
def sumE (E : Ent) (S : Smp) : Ent := { E with s1 := addN E.s1 S.o, s2 := addN E.s2 S.d, s3 := addN E.s3 S.s }
/-- the grid -/
def grdE (x : Int) (E : Ent) (S : Smp) : Ent := { E with M := (putM E.M (clip (S.t4 / x)) S.o S.d).1 }
/-- the detector -/
def detE (E : Ent) (S : Smp) : Ent := { E with D := addD E.D (S.o, S.d) }
/-- the steps -/
def stpE (E : Ent) : Option (Nat × Int × Int) → Ent
  | none => E
  | some z => if E.st.length < 16 then { E with st := E.st ++ [z] } else { E with more := E.more + 1 }
def putE (x : Int) (E : Ent) (S : Smp) : Ent := stpE (detE (grdE x (sumE E S) S) S) (tellD E.D (S.o, S.d))
set_option maxRecDepth 20000 in
theorem sumE_ok {n : Nat} {E : Ent} (h : EntOk n E) (S : Smp) : EntOk (n + 1) (sumE E S) := by
  have h' := h.mono (Nat.le_succ n)
  obtain ⟨k, k1, g1, g2, g3⟩ := h.g
  exact ⟨h.a, h.sz, h'.c, ⟨k + 1, by omega, g1.add _, g2.add _, g3.add _⟩, h'.m, h'.d, h.st, h'.more⟩
set_option maxRecDepth 20000 in
theorem grdE_ok {n : Nat} {E E0 : Ent} (h0 : EntOk n E0) (h : EntOk (n + 1) E) (e : E.M = E0.M) (x : Int) (S : Smp) : EntOk (n + 1) (grdE x E S) := by
  obtain ⟨n1, n2⟩ := clip_bd (S.t4 / x)
  refine ⟨h.a, h.sz, h.c, h.g, ?_, h.d, h.st, h.more⟩
  show MOk (putM E.M (clip (S.t4 / x)) S.o S.d).1 (n + 1)
  rw [e]
  exact putM_ok h0.m _ _ _ n1 n2
set_option maxRecDepth 20000 in
theorem detE_ok {n : Nat} {E E0 : Ent} (h0 : EntOk n E0) (h : EntOk (n + 1) E) (e : E.D = E0.D) (S : Smp) : EntOk (n + 1) (detE E S) := by
  refine ⟨h.a, h.sz, h.c, h.g, h.m, ?_, h.st, h.more⟩
  show E.D.c + 1 ≤ n + 1
  rw [e]
  have := h0.d
  omega
set_option maxRecDepth 20000 in
theorem stpE_ok {n : Nat} {E E0 : Ent} (h0 : EntOk n E0) (h : EntOk (n + 1) E) (e : E.more = E0.more) (z : Option (Nat × Int × Int)) : EntOk (n + 1) (stpE E z) := by
  cases z with
  | none => exact h
  | some z =>
    unfold stpE
    by_cases c : E.st.length < 16
    · simp only [c, if_true]
      exact ⟨h.a, h.sz, h.c, h.g, h.m, h.d, by show (E.st ++ [z]).length ≤ 16; rw [List.length_append, List.length_singleton]; omega, h.more⟩
    · simp only [c, if_false]
      exact ⟨h.a, h.sz, h.c, h.g, h.m, h.d, h.st, by show E.more + 1 ≤ n + 1; have := h0.more; omega⟩
set_option maxRecDepth 20000 in
theorem putE_ok {n : Nat} {E : Ent} (h : EntOk n E) (x : Int) (S : Smp) : EntOk (n + 1) (putE x E S) :=
  stpE_ok h (detE_ok h (grdE_ok h (sumE_ok h S) rfl x S) rfl S) rfl _
set_option maxRecDepth 20000 in
theorem putE_a (x : Int) (E : Ent) (S : Smp) : (putE x E S).a = E.a := by
  unfold putE
  cases tellD E.D (S.o, S.d) with
  | none => rfl
  | some z => unfold stpE; simp only; split <;> rfl
end Go.Proofs.Ythgkhllkhhnlpaa
/- server: an entry in memory behind each part of Put. -/
namespace Go.Proofs.Ythgkhllkhhnlpaa
open Go.RowKit Go.Maps

set_option maxRecDepth 20000 in
instance row_smpS : RowT 45 48 := ⟨by kernel_rfl, by kernel_rfl⟩
set_option maxRecDepth 20000 in
theorem smpC_size {S : Smp} (h : S.f.size = 36) : (smpC S).size = 48 := by simp [h]
set_option maxRecDepth 20000 in
instance sz_stC (z : Option (Nat × Int × Int)) : SzA (stC z) 3 := ⟨by cases z <;> rfl⟩
set_option maxRecDepth 20000 in
instance one_stC (z : Option (Nat × Int × Int)) : OneA (stC z) := ⟨by cases z <;> kernel_rfl⟩
set_option maxRecDepth 20000 in
theorem EntIs.sums {W w' : World} {b g : Nat} {F : List Nat} {o : Nat} {x : Int} {full : Bool} {n : Nat} {E : Ent} {p1 p2 p3 : Nat} {gv sv stv : Value} (h : EntIs W b g F o x full n E p1 p2 p3 gv sv stv) (S : Smp) (K : KpS (fun i => i = p1 ∨ i = p2 ∨ i = p3) W w')
    (BE : Blk w' g 99 (entC E.a E.c (ptrS p1) (ptrS p2) (ptrS p3) gv sv stv E.more)) (B1 : Blk w' p1 136 (accC true (addN E.s1 S.o))) (B2 : Blk w' p2 136 (accC true (addN E.s2 S.d))) (B3 : Blk w' p3 136 (accC true (addN E.s3 S.s))) :
    EntIs w' b g F o x full (n + 1) (sumE E S) p1 p2 p3 gv sv stv := by
  have ne : ∀ {q : Nat} {t : TypeId} {cs : Array Value}, Blk W q t cs → t ≠ 136 → ¬ (q = p1 ∨ q = p2 ∨ q = p3) := fun bq ht e => by
    rcases e with e | e | e
    · exact blk_neT bq h.b1 ht e
    · exact blk_neT bq h.b2 ht e
    · exact blk_neT bq h.b3 ht e
  have nr : ∀ {T s n : Nat} {v : Value} {xs : List Value}, W.ownsRow b T s v n xs → T ≠ 136 → ∀ k, v.ownBlock = some k → ¬ (k = p1 ∨ k = p2 ∨ k = p3) := fun r ht k hk e => by
    rcases e with e | e | e
    · exact own_noTS r h.b1 ht (e ▸ hk)
    · exact own_noTS r h.b2 ht (e ▸ hk)
    · exact own_noTS r h.b3 ht (e ▸ hk)
  refine ⟨BE, B1, B2, B3, h.n12, h.n13, h.n23, fun hf => ?_, h.none_, own_kpS h.row K (nr h.row (by decide)), h.fg, h.f1, h.f2, h.f3, h.fr, fun i hi => ?_, sumE_ok h.ok S⟩
  · obtain ⟨pg, rg, Cg, pd, vs, e1, e2, h1, h2, f1, f2, f3, f4⟩ := (h.limb hf).ex
    obtain ⟨rcs, rB⟩ := ring_tyS h1.at_.r
    exact ⟨pg, rg, Cg, pd, vs, e1, e2, h1.kpS K (ne h1.at_.g (by decide)) (ne rB (by decide)), h2.kpS K (ne h2.m (by decide)) (nr h2.row (by decide)), f1, f2, f3, f4⟩
  · obtain ⟨cs, t, f, e, ht⟩ := h.ty i hi
    by_cases q : i = p1 ∨ i = p2 ∨ i = p3
    · rcases q with rfl | rfl | rfl
      · exact ⟨_, _, _, B1.out, by decide⟩
      · exact ⟨_, _, _, B2.out, by decide⟩
      · exact ⟨_, _, _, B3.out, by decide⟩
    · exact ⟨cs, t, f, (K.block i (Array.getElem?_eq_some_iff.1 e).1 q).trans e, ht⟩
set_option maxRecDepth 20000 in
theorem EntIs.grid {W w' : World} {b g : Nat} {F : List Nat} {o : Nat} {x : Int} {n m : Nat} {E : Ent} {p1 p2 p3 pg rg Cg pd : Nat} {vs stv : Value} (h : EntIs W b g F o x true n E p1 p2 p3 (ptrS pg) (ptrS pd) stv) {M' : List Slot} (hG : GAt W pg rg Cg o x E.M) (hS : ShIs W pd b vs E.D) (f1 : pg ∈ F) (f2 : rg ∈ F) (f3 : pd ∈ F) (f4 : ∀ k, vs.ownBlock = some k → k ∈ F)
    (K : KpS (fun i => i = pg ∨ i = rg) W w') (G' : GAt w' pg rg Cg o x M') (ok : EntOk m { E with M := M' }) :
    EntIs w' b g F o x true m { E with M := M' } p1 p2 p3 (ptrS pg) (ptrS pd) stv := by
  obtain ⟨rcs, rB⟩ := ring_tyS hG.at_.r
  have ne : ∀ {q : Nat} {t : TypeId} {cs : Array Value}, Blk W q t cs → t ≠ 128 → t ≠ 123 → ¬ (q = pg ∨ q = rg) := fun bq ht ht' e => by
    rcases e with e | e
    · exact blk_neT bq hG.at_.g ht e
    · exact blk_neT bq rB ht' e
  have nr : ∀ {T s n : Nat} {v : Value} {xs : List Value}, W.ownsRow b T s v n xs → T ≠ 128 → T ≠ 123 → ∀ k, v.ownBlock = some k → ¬ (k = pg ∨ k = rg) := fun r ht ht' k hk e => by
    rcases e with e | e
    · exact own_noTS r hG.at_.g ht (e ▸ hk)
    · exact own_noTS r rB ht' (e ▸ hk)
  obtain ⟨rcs', rB'⟩ := ring_tyS G'.at_.r
  refine ⟨K.blk h.e (ne h.e (by decide) (by decide)), K.blk h.b1 (ne h.b1 (by decide) (by decide)), K.blk h.b2 (ne h.b2 (by decide) (by decide)), K.blk h.b3 (ne h.b3 (by decide) (by decide)), h.n12, h.n13, h.n23, fun _ => ⟨pg, rg, Cg, pd, vs, rfl, rfl, G', hS.kpS K (ne hS.m (by decide) (by decide)) (nr hS.row (by decide) (by decide)), f1, f2, f3, f4⟩, (fun e => by cases e), own_kpS h.row K (nr h.row (by decide) (by decide)), h.fg, h.f1, h.f2, h.f3, h.fr, fun i hi => ?_, ok⟩
  obtain ⟨cs, t, f, e, ht⟩ := h.ty i hi
  by_cases q : i = pg ∨ i = rg
  · rcases q with rfl | rfl
    · exact ⟨_, _, _, G'.at_.g.out, by decide⟩
    · exact ⟨_, _, _, rB'.out, by decide⟩
  · exact ⟨cs, t, f, (K.block i (Array.getElem?_eq_some_iff.1 e).1 q).trans e, ht⟩
/-- the blocks of an entry, with a row that may have moved -/
def rowF (v : Value) : List Nat := match v.ownBlock with
  | some k => [k]
  | none => []
def movF (v v' : Value) (F : List Nat) : List Nat := rowF v' ++ F.filter fun k => decide (v.ownBlock ≠ some k)
set_option maxRecDepth 20000 in
theorem mem_rowF {v : Value} {k : Nat} : k ∈ rowF v ↔ v.ownBlock = some k := by
  unfold rowF
  cases h : v.ownBlock with
  | none => simp
  | some j =>
    simp only [List.mem_singleton, Option.some.injEq]
    exact eq_comm
set_option maxRecDepth 20000 in
theorem mem_movF {v v' : Value} {F : List Nat} {k : Nat} : k ∈ movF v v' F ↔ v'.ownBlock = some k ∨ (k ∈ F ∧ v.ownBlock ≠ some k) := by
  unfold movF
  rw [List.mem_append, mem_rowF, List.mem_filter, decide_eq_true_eq]
set_option maxRecDepth 20000 in
theorem own_ty {w : World} {b T s n : Nat} {v : Value} {xs : List Value} (h : w.ownsRow b T s v n xs) {k : Nat} (e : v.ownBlock = some k) : ∃ cs, Blk w k T cs := by
  rcases h.2 with ⟨rfl, _⟩ | ⟨g', cap, cur, rfl, hb, hB, _⟩
  · simp [Value.ownBlock] at e
  · have e' : g' = k := by simpa [Value.ownBlock] using e
    subst e'
    exact ⟨cur, ⟨hB⟩⟩
set_option maxRecDepth 20000 in
theorem EntIs.det {W w' : World} {b g : Nat} {F : List Nat} {o : Nat} {x : Int} {n m : Nat} {E : Ent} {p1 p2 p3 pg rg Cg pd : Nat} {vs stv : Value} (h : EntIs W b g F o x true n E p1 p2 p3 (ptrS pg) (ptrS pd) stv) (hG : GAt W pg rg Cg o x E.M) (hS : ShIs W pd b vs E.D) (f1 : pg ∈ F) (f2 : rg ∈ F) (f3 : pd ∈ F) {D' : Sd} {v' : Value}
    (K : KpS (fun i => i = pd ∨ vs.ownBlock = some i) W w') (S' : ShIs w' pd b v' D') (ok : EntOk m { E with D := D' }) :
    EntIs w' b g (movF vs v' F) o x true m { E with D := D' } p1 p2 p3 (ptrS pg) (ptrS pd) stv := by
  obtain ⟨rcs, rB⟩ := ring_tyS hG.at_.r
  have nw : ∀ {q : Nat} {t : TypeId} {cs : Array Value}, Blk W q t cs → 145 ≠ t → ¬ vs.ownBlock = some q := fun bq ht e => own_noTS hS.row bq ht e
  have ne : ∀ {q : Nat} {t : TypeId} {cs : Array Value}, Blk W q t cs → t ≠ 131 → 145 ≠ t → ¬ (q = pd ∨ vs.ownBlock = some q) := fun bq ht ht' e => by
    rcases e with e | e
    · exact blk_neT bq hS.m ht e
    · exact nw bq ht' e
  have nr : ∀ {T s n : Nat} {v : Value} {xs : List Value}, W.ownsRow b T s v n xs → T ≠ 131 → 145 ≠ T → ∀ k, v.ownBlock = some k → ¬ (k = pd ∨ vs.ownBlock = some k) := fun r ht ht' k hk => by
    obtain ⟨cs, bk⟩ := own_ty r hk
    exact ne bk ht ht'
  have up : ∀ {q : Nat} {t : TypeId} {cs : Array Value}, Blk W q t cs → 145 ≠ t → q ∈ F → q ∈ movF vs v' F := fun bq ht hq => mem_movF.2 (.inr ⟨hq, nw bq ht⟩)
  refine ⟨K.blk h.e (ne h.e (by decide) (by decide)), K.blk h.b1 (ne h.b1 (by decide) (by decide)), K.blk h.b2 (ne h.b2 (by decide) (by decide)), K.blk h.b3 (ne h.b3 (by decide) (by decide)), h.n12, h.n13, h.n23, fun _ => ⟨pg, rg, Cg, pd, v', rfl, rfl, hG.kpS K (ne hG.at_.g (by decide) (by decide)) (ne rB (by decide) (by decide)), S', up hG.at_.g (by decide) f1, up rB (by decide) f2, up hS.m (by decide) f3, fun k hk => mem_movF.2 (.inl hk)⟩, (fun e => by cases e), own_kpS h.row K (nr h.row (by decide) (by decide)), up h.e (by decide) h.fg, up h.b1 (by decide) h.f1, up h.b2 (by decide) h.f2, up h.b3 (by decide) h.f3, fun k hk => ?_, fun i hi => ?_, ok⟩
  · obtain ⟨cs, bk⟩ := own_ty h.row hk
    exact up bk (by decide) (h.fr k hk)
  · rcases mem_movF.1 hi with e | ⟨hF, e⟩
    · obtain ⟨cs, bk⟩ := own_ty S'.row e
      exact ⟨_, _, _, bk.out, by decide⟩
    · by_cases q : i = pd
      · subst q
        exact ⟨_, _, _, S'.m.out, by decide⟩
      · obtain ⟨cs, t, f, e0, ht⟩ := h.ty i hF
        exact ⟨cs, t, f, (K.block i (Array.getElem?_eq_some_iff.1 e0).1 fun z => z.elim q e).trans e0, ht⟩
set_option maxRecDepth 20000 in
theorem EntIs.stp {W w' : World} {b g : Nat} {F : List Nat} {o : Nat} {x : Int} {n m : Nat} {E : Ent} {p1 p2 p3 : Nat} {gv sv stv : Value} (h : EntIs W b g F o x true n E p1 p2 p3 gv sv stv) {st' : List (Nat × Int × Int)} {v' : Value} {S : Nat → Prop} (K : KpS S W w') (S1 : ∀ i, S i → i = g ∨ stv.ownBlock = some i)
    (BE : Blk w' g 99 (entC E.a E.c (ptrS p1) (ptrS p2) (ptrS p3) gv sv v' E.more)) (R : w'.ownsRow b 85 3 v' st'.length (stpL st')) (ok : EntOk m { E with st := st' }) :
    EntIs w' b g (movF stv v' F) o x true m { E with st := st' } p1 p2 p3 gv sv v' := by
  have nw : ∀ {q : Nat} {t : TypeId} {cs : Array Value}, Blk W q t cs → 85 ≠ t → ¬ stv.ownBlock = some q := fun bq ht e => own_noTS h.row bq ht e
  have ne : ∀ {q : Nat} {t : TypeId} {cs : Array Value}, Blk W q t cs → t ≠ 99 → 85 ≠ t → ¬ S q := fun bq ht ht' e => by
    rcases S1 _ e with e | e
    · exact blk_neT bq h.e ht e
    · exact nw bq ht' e
  have up : ∀ {q : Nat} {t : TypeId} {cs : Array Value}, Blk W q t cs → 85 ≠ t → q ∈ F → q ∈ movF stv v' F := fun bq ht hq => mem_movF.2 (.inr ⟨hq, nw bq ht⟩)
  refine ⟨BE, K.blk h.b1 (ne h.b1 (by decide) (by decide)), K.blk h.b2 (ne h.b2 (by decide) (by decide)), K.blk h.b3 (ne h.b3 (by decide) (by decide)), h.n12, h.n13, h.n23, fun _ => ?_, h.none_, R, up h.e (by decide) h.fg, up h.b1 (by decide) h.f1, up h.b2 (by decide) h.f2, up h.b3 (by decide) h.f3, fun k hk => mem_movF.2 (.inl hk), fun i hi => ?_, ok⟩
  · obtain ⟨pg, rg, Cg, pd, vs, e1, e2, h1, h2, f1, f2, f3, f4⟩ := (h.limb rfl).ex
    obtain ⟨rcs, rB⟩ := ring_tyS h1.at_.r
    exact ⟨pg, rg, Cg, pd, vs, e1, e2, h1.kpS K (ne h1.at_.g (by decide) (by decide)) (ne rB (by decide) (by decide)), h2.kpS K (ne h2.m (by decide) (by decide)) (fun k hk => by
      obtain ⟨cs, bk⟩ := own_ty h2.row hk
      exact ne bk (by decide) (by decide)), up h1.at_.g (by decide) f1, up rB (by decide) f2, up h2.m (by decide) f3, fun k hk => by
      obtain ⟨cs, bk⟩ := own_ty h2.row hk
      exact up bk (by decide) (f4 k hk)⟩
  · rcases mem_movF.1 hi with e | ⟨hF, e⟩
    · obtain ⟨cs, bk⟩ := own_ty R e
      exact ⟨_, _, _, bk.out, by decide⟩
    · by_cases q : i = g
      · subst q
        exact ⟨_, _, _, BE.out, by decide⟩
      · obtain ⟨cs, t, f, e0, ht⟩ := h.ty i hF
        exact ⟨cs, t, f, (K.block i (Array.getElem?_eq_some_iff.1 e0).1 fun z => (S1 _ z).elim q e).trans e0, ht⟩
set_option maxRecDepth 20000 in
theorem EntIs.mor {W w' : World} {b g : Nat} {F : List Nat} {o : Nat} {x : Int} {full : Bool} {n m : Nat} {E : Ent} {p1 p2 p3 : Nat} {gv sv stv : Value} (h : EntIs W b g F o x full n E p1 p2 p3 gv sv stv) {k : Nat} {S : Nat → Prop} (K : KpS S W w') (S1 : ∀ i, S i → i = g)
    (BE : Blk w' g 99 (entC E.a E.c (ptrS p1) (ptrS p2) (ptrS p3) gv sv stv k)) (ok : EntOk m { E with more := k }) :
    EntIs w' b g F o x full m { E with more := k } p1 p2 p3 gv sv stv := by
  have ne : ∀ {q : Nat} {t : TypeId} {cs : Array Value}, Blk W q t cs → t ≠ 99 → ¬ S q := fun bq ht e => blk_neT bq h.e ht (S1 _ e)
  have nr : ∀ {T s n : Nat} {v : Value} {xs : List Value}, W.ownsRow b T s v n xs → T ≠ 99 → ∀ k, v.ownBlock = some k → ¬ S k := fun r ht k hk => by
    obtain ⟨cs, bk⟩ := own_ty r hk
    exact ne bk ht
  refine ⟨BE, K.blk h.b1 (ne h.b1 (by decide)), K.blk h.b2 (ne h.b2 (by decide)), K.blk h.b3 (ne h.b3 (by decide)), h.n12, h.n13, h.n23, fun hf => ?_, h.none_, own_kpS h.row K (nr h.row (by decide)), h.fg, h.f1, h.f2, h.f3, h.fr, fun i hi => ?_, ok⟩
  · obtain ⟨pg, rg, Cg, pd, vs, e1, e2, h1, h2, f1, f2, f3, f4⟩ := (h.limb hf).ex
    obtain ⟨rcs, rB⟩ := ring_tyS h1.at_.r
    exact ⟨pg, rg, Cg, pd, vs, e1, e2, h1.kpS K (ne h1.at_.g (by decide)) (ne rB (by decide)), h2.kpS K (ne h2.m (by decide)) (nr h2.row (by decide)), f1, f2, f3, f4⟩
  · by_cases q : i = g
    · subst q
      exact ⟨_, _, _, BE.out, by decide⟩
    · obtain ⟨cs, t, f, e0, ht⟩ := h.ty i hi
      exact ⟨cs, t, f, (K.block i (Array.getElem?_eq_some_iff.1 e0).1 fun z => q (S1 _ z)).trans e0, ht⟩
end Go.Proofs.Ythgkhllkhhnlpaa
