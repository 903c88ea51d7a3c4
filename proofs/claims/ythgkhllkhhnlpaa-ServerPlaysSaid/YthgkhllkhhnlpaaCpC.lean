/- server: an entry's copy; Copy of a table. -/
import Derived.Test.YthgkhllkhhnlpaaCpB
import Derived.Test.YthgkhllkhhnlpaaSvO
import Derived.Test.YthgkhllkhhnlpaaShlM
namespace Go.Proofs.Ythgkhllkhhnlpaa
open Go.RowKit Go.Maps

set_option maxRecDepth 20000 in
theorem joinS_0S {S : St} {m : Int} (h : Good S m) : joinS S st0 = S := by
  unfold joinS
  by_cases c : S.c = 0
  · rw [if_pos c]
    obtain ⟨z1, z2, z3, z4⟩ := h.z c
    obtain ⟨sc, sw, lo, hi, s, q⟩ := S
    simp only at c z1 z2 z3 z4
    subst c z1 z2 z3 z4
    simp [st0]
  · rw [if_neg c, if_pos (show st0.c = 0 from rfl)]
    obtain ⟨sc, sw, lo, hi, s, q⟩ := S
    simp [st0]
set_option maxRecDepth 20000 in
theorem copied_E {W : World} {b b' g : Nat} {F : List Nat} {o : Nat} {x : Int} {full : Bool} {n : Nat} {E : Ent} {p1 p2 p3 : Nat} {gv sv stv : Value} (h : EntIs W b g F o x full n E p1 p2 p3 gv sv stv) (hn : n ≤ 1000) (hb : b' ≤ W.heap.size) :
    Calls Try.prog 46 #[ptrS g] W fun e w' => ∃ y F' q1 q2 q3 gv' sv' stv', e = .returned (ptrS y) ∧ EntIs w' b' y F' o x full n E q1 q2 q3 gv' sv' stv' ∧ (∀ k ∈ F', W.heap.size ≤ k) ∧ Mo W w' := by
  obtain ⟨k, k1, g1, g2, g3⟩ := h.ok.g
  have one : gv.oneCell' = true ∧ sv.oneCell' = true := by
    cases full with
    | true =>
      obtain ⟨pg, rg, Cg, pd, vs, rfl, rfl, _⟩ := (h.limb rfl).ex
      exact ⟨rfl, rfl⟩
    | false =>
      obtain ⟨rfl, rfl⟩ := h.none_ rfl
      exact ⟨rfl, rfl⟩
  have z0 := good0
  have join : ∀ (p : Nat) (S : St), Blk W p 136 (accC true S) → Good S k → ∀ w, Mo W w → Calls Try.prog 73 #[ptrS p, nilS] w (JoinRet S w) := fun p S bp gp w M => by
    have := join_ret (ptrS p) nilS S st0 k 0 gp z0 (by omega) (by omega) w (of_at (M.blk bp)) of_none
    rwa [joinS_0S gp] at this
  refine (copied_core W g E.a E.c E.s1 E.s2 E.s3 E.more p1 p2 p3 gv sv stv full o x E.M E.D E.st h.ok.sz (entC_one (one_of_fits h.ok.a) E.c p1 p2 p3 one.1 one.2 (own_oneC h.row) E.more) h.e (join p1 E.s1 h.b1 g1) (join p2 E.s2 h.b2 g2) (join p3 E.s3 h.b3 g3) ?_ ?_ ?_).mono ?_
  · intro w M
    cases full with
    | true =>
      obtain ⟨pg, rg, Cg, pd, vs, rfl, rfl, hG, _⟩ := (h.limb rfl).ex
      refine (copy_M pg rg Cg o x E.M w (hG.mo M)).mono ?_
      rintro e w' ⟨p', r', C', rfl, G', l1, l2, M'⟩
      exact ⟨_, rfl, by unfold PG; exact ⟨p', r', C', rfl, G', l1, l2⟩, M'⟩
    | false =>
      obtain ⟨rfl, rfl⟩ := h.none_ rfl
      refine (gcopy_nil w).mono ?_
      rintro e w' ⟨rfl, M'⟩
      exact ⟨_, rfl, by unfold PG; rfl, M'⟩
  · intro w M
    cases full with
    | true =>
      obtain ⟨pg, rg, Cg, pd, vs, rfl, rfl, hG, hS, _⟩ := (h.limb rfl).ex
      refine (shcopy_any pd b w.heap.size vs E.D w (hS.kpS (KpS.of_mo (S := fun _ => False) M) (fun e => e) (fun _ _ e => e)) (Nat.le_refl _)).mono ?_
      rintro e w' ⟨p', v', rfl, l1, S', _, M'⟩
      exact ⟨_, rfl, by unfold PS; exact ⟨p', v', rfl, S', l1⟩, M'⟩
    | false =>
      obtain ⟨rfl, rfl⟩ := h.none_ rfl
      refine (shcopy_nil w).mono ?_
      rintro e w' ⟨rfl, M'⟩
      exact ⟨_, rfl, by unfold PS; rfl, M'⟩
  · intro w M
    exact stclone_own (owns_mo h.row M) rfl (by have := h.ok.st; omega)
  · rintro e w' ⟨y, q1, q2, q3, gv', sv', stv', rfl, bE, b1, b2, b3, n12, n13, n23, ly, l1, l2, l3, hg, hs, ht, M⟩
    have low : ∀ {T s m : Nat} {v : Value} {xs : List Value}, w'.ownsRow W.heap.size T s v m xs → ∀ k, v.ownBlock = some k → W.heap.size ≤ k := fun r k e => by
      rcases r.2 with ⟨e2, _⟩ | ⟨g2, _, _, e2, hb2, _⟩
      · rw [e2] at e; simp [Value.ownBlock] at e
      · rw [e2] at e
        have e3 : g2 = k := by simpa [Value.ownBlock] using e
        omega
    have ht' : w'.ownsRow W.heap.size 85 3 stv' E.st.length (stpL E.st) := ht
    cases full with
    | true =>
      obtain ⟨pg, rg, Cg, rfl, G', lg1, lg2⟩ : ∃ p r C, gv' = ptrS p ∧ GAt w' p r C o x E.M ∧ W.heap.size ≤ p ∧ W.heap.size ≤ r := hg
      obtain ⟨pd, vs, rfl, S', lp⟩ : ∃ p v', sv' = ptrS p ∧ ShIs w' p W.heap.size v' E.D ∧ W.heap.size ≤ p := hs
      obtain ⟨rcs, rB⟩ := ring_tyS G'.at_.r
      refine ⟨y, [y, q1, q2, q3, pg, rg, pd] ++ (rowF stv' ++ rowF vs), q1, q2, q3, ptrS pg, ptrS pd, stv', rfl, ⟨bE, b1, b2, b3, n12, n13, n23, fun _ => ⟨⟨pg, rg, Cg, pd, vs, rfl, rfl, G', ⟨S'.m, owns_baseS S'.row hb, S'.ok⟩, by simp, by simp, by simp, fun k hk => List.mem_append_right _ (List.mem_append_right _ (mem_rowF.2 hk))⟩⟩, (fun q => by cases q), owns_baseS ht' hb, by simp, by simp, by simp, by simp, fun k hk => List.mem_append_right _ (List.mem_append_left _ (mem_rowF.2 hk)), fun k hk => ?_, h.ok⟩, fun k hk => ?_, M⟩
      · rcases List.mem_append.1 hk with hk | hk
        · simp only [List.mem_cons, List.not_mem_nil, or_false] at hk
          rcases hk with rfl | rfl | rfl | rfl | rfl | rfl | rfl
          · exact ⟨_, _, _, bE.out, by decide⟩
          · exact ⟨_, _, _, b1.out, by decide⟩
          · exact ⟨_, _, _, b2.out, by decide⟩
          · exact ⟨_, _, _, b3.out, by decide⟩
          · exact ⟨_, _, _, G'.at_.g.out, by decide⟩
          · exact ⟨_, _, _, rB.out, by decide⟩
          · exact ⟨_, _, _, S'.m.out, by decide⟩
        · rcases List.mem_append.1 hk with hk | hk
          · obtain ⟨cs, bk⟩ := own_ty ht' (mem_rowF.1 hk)
            exact ⟨_, _, _, bk.out, by decide⟩
          · obtain ⟨cs, bk⟩ := own_ty S'.row (mem_rowF.1 hk)
            exact ⟨_, _, _, bk.out, by decide⟩
      · rcases List.mem_append.1 hk with hk | hk
        · simp only [List.mem_cons, List.not_mem_nil, or_false] at hk
          rcases hk with rfl | rfl | rfl | rfl | rfl | rfl | rfl <;> assumption
        · rcases List.mem_append.1 hk with hk | hk
          · exact low ht' k (mem_rowF.1 hk)
          · exact low S'.row k (mem_rowF.1 hk)
    | false =>
      have eg : gv' = nilS := hg
      have es' : sv' = nilS := hs
      refine ⟨y, [y, q1, q2, q3] ++ rowF stv', q1, q2, q3, gv', sv', stv', rfl, ⟨bE, b1, b2, b3, n12, n13, n23, (fun q => by cases q), fun _ => ⟨eg, es'⟩, owns_baseS ht' hb, by simp, by simp, by simp, by simp, fun k hk => List.mem_append_right _ (mem_rowF.2 hk), fun k hk => ?_, h.ok⟩, fun k hk => ?_, M⟩
      · rcases List.mem_append.1 hk with hk | hk
        · simp only [List.mem_cons, List.not_mem_nil, or_false] at hk
          rcases hk with rfl | rfl | rfl | rfl
          · exact ⟨_, _, _, bE.out, by decide⟩
          · exact ⟨_, _, _, b1.out, by decide⟩
          · exact ⟨_, _, _, b2.out, by decide⟩
          · exact ⟨_, _, _, b3.out, by decide⟩
        · obtain ⟨cs, bk⟩ := own_ty ht' (mem_rowF.1 hk)
          exact ⟨_, _, _, bk.out, by decide⟩
      · rcases List.mem_append.1 hk with hk | hk
        · simp only [List.mem_cons, List.not_mem_nil, or_false] at hk
          rcases hk with rfl | rfl | rfl | rfl <;> assumption
        · exact low ht' k (mem_rowF.1 hk)
set_option maxRecDepth 20000 in
theorem cloneA_any (W : World) (B : Nat) (L : List (Array Value)) (h : NumIs W B L) :
    Calls Try.prog 47 #[.map (some B)] W fun e w' => ∃ B', e = .returned (.map (some B')) ∧ W.heap.size ≤ B' ∧ NumIs w' B' L ∧ Mo W w' := by
  obtain ⟨es, clock, hb⟩ := h.isMap
  refine (AnyW.maps_Clone cloneA B es clock W hb).mono ?_
  rintro e w' ⟨rfl, rfl⟩
  refine ⟨_, rfl, Nat.le_refl _, ?_, Mor.out⟩
  obtain ⟨D, ⟨es', clock', hb', F, hs, e⟩, r⟩ := h
  rw [hb] at hb'
  injection hb' with hb'
  injection hb' with h1 h2
  subst h1 h2
  exact ⟨D, ⟨es, clock, (Go.MapKept.heap_alloc W _).1, F, hs, e⟩, r⟩
/-- so many entries are copied -/
structure CpIs (w : World) (b y : Nat) (o : Nat) (x : Int) (n : Nat) (es : List Ent) (lv : Value) (gs : List Nat) (Fs : List (List Nat)) : Prop where
  row : w.ownsRow b 81 1 lv gs.length (gs.map ptrS)
  lg : gs.length = es.length
  lF : Fs.length = es.length
  ent : ∀ (i g : Nat) (F : List Nat) (E : Ent), gs[i]? = some g → Fs[i]? = some F → es[i]? = some E → ∃ p1 p2 p3 gv sv stv, EntIs w b g F o x true n E p1 p2 p3 gv sv stv
  dis : ∀ (i j : Nat) (F F' : List Nat), i < j → Fs[i]? = some F → Fs[j]? = some F' → ∀ k ∈ F, k ∉ F'
  fr : ∀ (i : Nat) (F : List Nat), Fs[i]? = some F → ∀ k ∈ F, y < k
  rf : ∀ k, lv.ownBlock = some k → y < k
set_option maxRecDepth 20000 in
theorem CpIs.kp {S : Nat → Prop} {w w' : World} {b y o : Nat} {x : Int} {n : Nat} {es : List Ent} {lv : Value} {gs : List Nat} {Fs : List (List Nat)} (h : CpIs w b y o x n es lv gs Fs) (k : KpS S w w') (q : ∀ i, y < i → i < w.heap.size → ¬ S i) : CpIs w' b y o x n es lv gs Fs := by
  refine ⟨own_kpS h.row k fun g hg => q g (h.rf g hg) (own_lt' h.row hg), h.lg, h.lF, fun i g F E h1 h2 h3 => ?_, h.dis, h.fr, h.rf⟩
  obtain ⟨p1, p2, p3, gv, sv, stv, he⟩ := h.ent i g F E h1 h2 h3
  exact ⟨p1, p2, p3, gv, sv, stv, he.kp k fun j hj => q j (h.fr i F h2 j hj) (he.ty.lt j hj)⟩
end Go.Proofs.Ythgkhllkhhnlpaa
