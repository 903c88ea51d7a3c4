/- server: Copy of a table: the walk. -/
import Derived.Test.YthgkhllkhhnlpaaCpC
namespace Go.Proofs.Ythgkhllkhhnlpaa
open Go.RowKit Go.Maps

set_option maxRecDepth 20000 in
instance one_map (b : Option Nat) : One1 (.map b) := ⟨rfl⟩
set_option maxRecDepth 20000 in
instance row_tab : RowT 83 15 := ⟨by kernel_rfl, by kernel_rfl⟩
set_option maxRecDepth 20000 in
theorem loadF_tab (v : Value) : Instr.loadAt 83 v = loadF 83 v := rfl
set_option maxRecDepth 20000 in
theorem storeF_tab (v x : Value) : Instr.storeAt 83 v x = storeF 83 v x := rfl
set_option maxRecDepth 20000 in
theorem CpIs.nil (w : World) (b y o : Nat) (x : Int) (n : Nat) : CpIs w b y o x n [] (.slice none 0 0) [] [] :=
  ⟨⟨rfl, .inl ⟨rfl, rfl⟩⟩, rfl, rfl, (fun i g F E h => by simp at h), (fun i j F F' _ h => by simp at h), (fun i F h => by simp at h), (fun k h => by simp [Value.ownBlock] at h)⟩
set_option maxRecDepth 20000 in
/-- one entry more -/
theorem CpIs.snoc {w w' : World} {b y o : Nat} {x : Int} {n : Nat} {es : List Ent} {lv lv' : Value} {gs : List Nat} {Fs : List (List Nat)} (h : CpIs w b y o x n es lv gs Fs) {g : Nat} {F : List Nat} {E : Ent} {p1 p2 p3 : Nat} {gv sv stv : Value} {W0 : World} (e : EntIs w b g F o x true n E p1 p2 p3 gv sv stv) (fr : ∀ k ∈ F, W0.heap.size ≤ k) (old : ∀ (i : Nat) (F : List Nat), Fs[i]? = some F → ∀ k ∈ F, k < W0.heap.size) (ly : y < W0.heap.size)
    (k : KpS (fun i => i = y ∨ lv.ownBlock = some i) w w') (row : w'.ownsRow b 81 1 lv' (gs.length + 1) (gs.map ptrS ++ [ptrS g])) (rf : ∀ k, lv'.ownBlock = some k → y < k) :
    CpIs w' b y o x n (es ++ [E]) lv' (gs ++ [g]) (Fs ++ [F]) := by
  have nt : ∀ {F : List Nat}, TyIn w F → (∀ k ∈ F, y < k) → ∀ k ∈ F, ¬ (k = y ∨ lv.ownBlock = some k) := fun ty q i hi e => by
    rcases e with rfl | e
    · exact Nat.lt_irrefl _ (q _ hi)
    · exact ty.not_row h.row (by decide) i hi e
  refine ⟨by rw [List.length_append, List.length_singleton, List.map_append]; exact row, by simp [h.lg], by simp [h.lF], fun i g' F' E' h1 h2 h3 => ?_, fun i j F1 F2 hij h1 h2 => ?_, fun i F1 h1 => ?_, rf⟩
  · have l1 := h.lg
    have l2 := h.lF
    rcases snocG h1 with ⟨a1, a2⟩ | ⟨a1, rfl⟩ <;> rcases snocG h2 with ⟨c1, c2⟩ | ⟨c1, rfl⟩ <;> rcases snocG h3 with ⟨e1, e2⟩ | ⟨e1, rfl⟩
    all_goals first | omega | skip
    · obtain ⟨p1, p2, p3, gv, sv, stv, he⟩ := h.ent i _ _ _ a1 c1 e1
      exact ⟨p1, p2, p3, gv, sv, stv, he.kp k (nt he.ty (h.fr i _ c1))⟩
    · exact ⟨p1, p2, p3, gv, sv, stv, e.kp k (nt e.ty fun k hk => by have := fr k hk; omega)⟩
  · rcases snocG h1 with ⟨a1, a2⟩ | ⟨a1, rfl⟩ <;> rcases snocG h2 with ⟨c1, c2⟩ | ⟨c1, rfl⟩
    · exact h.dis i j _ _ hij a1 c1
    · intro k hk hk'
      have := old i _ a1 k hk
      have := fr k hk'
      omega
    · omega
    · omega
  · rcases snocG h1 with ⟨a1, a2⟩ | ⟨a1, rfl⟩
    · exact h.fr i _ a1
    · intro k hk
      have := fr k hk
      omega
set_option maxRecDepth 20000 in
theorem CpIs.lts {w : World} {b y o : Nat} {x : Int} {n : Nat} {es : List Ent} {lv : Value} {gs : List Nat} {Fs : List (List Nat)} (h : CpIs w b y o x n es lv gs Fs) : ∀ (i : Nat) (F : List Nat), Fs[i]? = some F → ∀ k ∈ F, k < w.heap.size := fun i F hF k hk => by
  have l := (List.getElem?_eq_some_iff.1 hF).1
  obtain ⟨p1, p2, p3, gv, sv, stv, he⟩ := h.ent i _ F _ (List.getElem?_eq_getElem (by rw [h.lg, ← h.lF]; exact l)) hF (List.getElem?_eq_getElem (by rw [← h.lF]; exact l))
  exact he.ty.lt k hk
/-- a map of numbers, the entry of the others: in blocks from c on -/
def PM (L : List (Array Value)) (y c : Nat) (v : Value) (w : World) : Prop := y < c ∧ ∃ B', v = .map (some B') ∧ NumIs w B' L ∧ c ≤ B'
def PO (o : Nat) (x : Int) (n : Nat) (ot : Ent) (y c : Nat) (v : Value) (w : World) : Prop := y < c ∧ ∃ z F' q1 q2 q3 gv sv stv, v = ptrS z ∧ EntIs w y z F' o x false n ot q1 q2 q3 gv sv stv ∧ ∀ k ∈ F', c ≤ k
set_option maxRecDepth 20000 in
theorem PM.keep (L : List (Array Value)) (y c : Nat) : KeepV y (PM L y c) := fun v w w' h k => by
  obtain ⟨l, B', e, m, q⟩ := h
  exact ⟨l, B', e, m.keep (k.block B' m.lt (by omega)), q⟩
set_option maxRecDepth 20000 in
theorem PO.keep (o : Nat) (x : Int) (n : Nat) (ot : Ent) (y c : Nat) : KeepV y (PO o x n ot y c) := fun v w w' h k => by
  obtain ⟨l, z, F', q1, q2, q3, gv, sv, stv, e, m, q⟩ := h
  exact ⟨l, z, F', q1, q2, q3, gv, sv, stv, e, m.kp k fun i hi e => by have := q i hi; omega, q⟩
set_option maxRecDepth 20000 in
theorem PM.form {L : List (Array Value)} {y c : Nat} {v : Value} {w : World} (h : PM L y c v w) : ∃ B', v = .map (some B') := by
  obtain ⟨_, B', e, _⟩ := h
  exact ⟨B', e⟩
set_option maxRecDepth 20000 in
theorem PO.form {o : Nat} {x : Int} {n : Nat} {ot : Ent} {y c : Nat} {v : Value} {w : World} (h : PO o x n ot y c v w) : ∃ z, v = ptrS z := by
  obtain ⟨_, z, _, _, _, _, _, _, _, e, _⟩ := h
  exact ⟨z, e⟩
def L10 (y c o : Nat) (x : Int) (n : Nat) (ot : Ent) (L : List (Array Value)) : List (Nat × (Value → World → Prop)) := [(13, PM L y c), (14, PO o x n ot y c)]
set_option maxRecDepth 20000 in
theorem L10_keep (y c o : Nat) (x : Int) (n : Nat) (ot : Ent) (L : List (Array Value)) : ∀ q ∈ L10 y c o x n ot L, KeepV y q.2 := fun q hq => by
  unfold L10 at hq
  simp only [List.mem_cons, List.not_mem_nil, or_false] at hq
  rcases hq with rfl | rfl
  · exact PM.keep L y c
  · exact PO.keep o x n ot y c
set_option maxRecDepth 20000 in
/-- a table's block, two cells of it written -/
theorem tab_eq {C : CfgS} {lv : Value} {B go : Nat} {X : Array Value} (s : X.size = 15) (e : ∀ i, i ≠ 13 → i ≠ 14 → X[i]? = (tabC C lv B go)[i]?) {B' z : Nat} (e1 : X[13]? = some (.map (some B'))) (e2 : X[14]? = some (ptrS z)) : X = tabC C lv B' z := by
  refine Array.ext_getElem? fun i => ?_
  by_cases c : i < 15
  · rcases (show i = 0 ∨ i = 1 ∨ i = 2 ∨ i = 3 ∨ i = 4 ∨ i = 5 ∨ i = 6 ∨ i = 7 ∨ i = 8 ∨ i = 9 ∨ i = 10 ∨ i = 11 ∨ i = 12 ∨ i = 13 ∨ i = 14 by omega) with rfl | rfl | rfl | rfl | rfl | rfl | rfl | rfl | rfl | rfl | rfl | rfl | rfl | rfl | rfl
    all_goals first | exact e1 | exact e2 | (rw [e _ (by omega) (by omega)]; rfl)
  · rw [Array.getElem?_eq_none (by omega), Array.getElem?_eq_none (by show 15 ≤ i; omega)]
/-- what each operation yields -/
def fl10t (T y B go c o n : Nat) (x : Int) (ot : Ent) (L : List (Array Value)) : List (Value → World → Prop) := [
  fun v _ => v = .pointer (some ⟨T, 0, none⟩),
  fun v _ => v = .pointer (some ⟨T, 0, none⟩),
  fun v _ => v = .pointer (some ⟨T, 13, none⟩),
  fun v _ => v = .map (some B),
  fun v w => PM L y c v w,
  fun v _ => v = .pointer (some ⟨T, 0, none⟩),
  fun v _ => v = .pointer (some ⟨T, 0, none⟩),
  fun v _ => v = .pointer (some ⟨T, 14, none⟩),
  fun v _ => v = .pointer (some ⟨go, 0, none⟩),
  fun v w => PO o x n ot y c v w,
  fun v _ => v = .pointer (some ⟨y, 13, none⟩),
  fun _ w => CellP y 83 15 13 (PM L y c) w,
  fun v _ => v = .pointer (some ⟨y, 14, none⟩),
  fun _ w => CellP y 83 15 14 (PO o x n ot y c) w]
set_option maxRecDepth 20000 in
theorem fl10t_mono (T y B go c o n : Nat) (x : Int) (ot : Ent) (L : List (Array Value)) : MonoR (RelE y 83 15 (L10 y c o x n ot L)) (fl10t T y B go c o n x ot L) := by
  unfold fl10t
  refine MonoR.eq _ ?_
  refine MonoR.eq _ ?_
  refine MonoR.eq _ ?_
  refine MonoR.eq _ ?_
  refine MonoR.cons (fun v w w' h m => PM.keep L y c _ _ _ h m.k) ?_
  refine MonoR.eq _ ?_
  refine MonoR.eq _ ?_
  refine MonoR.eq _ ?_
  refine MonoR.eq _ ?_
  refine MonoR.cons (fun v w w' h m => PO.keep o x n ot y c _ _ _ h m.k) ?_
  refine MonoR.eq _ ?_
  refine MonoR.cons (fun v w w' h m => m.p _ (by unfold L10; exact .head _) h) ?_
  refine MonoR.eq _ ?_
  refine MonoR.cons (fun v w w' h m => m.p _ (by unfold L10; exact .tail _ (.head _)) h) ?_
  exact MonoR.nil
def fl10t_deps : List (List Nat) := [[], [0], [1], [2], [3], [], [5], [6], [7], [8], [], [4, 10], [], [9, 12]]
attribute [local go_sem] blk_cell' blk_frozen'
attribute [local go_sem ↓] loadF_tab storeF_tab appS_fold
attribute [local go_sem] run_loadF0 run_storeF0
set_option maxRecDepth 20000 in
set_option maxHeartbeats 16000000 in
theorem tcopy_any {W : World} {T b : Nat} {S : Nat → Prop} {C : CfgS} {o wd : Nat} {es : List Ent} {ot : Ent} {n : Nat} (h : TabW W T b S C o wd es ot n) (hn : n ≤ 1000) :
    Calls Try.prog 23 #[ptrS T] W fun e w' => ∃ T' S', e = .returned (ptrS T') ∧ TabW w' T' W.heap.size S' C o wd es ot n ∧ (∀ k, S' k → W.heap.size ≤ k) ∧ Mo W w' := by
  obtain ⟨B, lv, gs, Fs, go, Fo, t, ft⟩ := h.at_.ex
  obtain ⟨A, cl, rfl⟩ := own_slS t.row
  have HT := Lib.hid t
  have bT := t.t
  obtain ⟨K, hK⟩ : ∃ K, gs.length = K := ⟨_, rfl⟩
  have HK := Lib.hid hK
  have l256 : K ≤ 256 := by have h1 := t.le; have h2 := t.ok.s2; have h3 := t.lg; omega
  rw [hK] at bT
  have HE : Hid (es.length = K) := Lib.hid (by rw [← t.lg, hK])
  obtain ⟨lb1, lb2, lb3, lb4, lb5, lb6, lb7, lb8, lb9, lb10, lb11, lb12⟩ := C
  have CO := Lib.hid (fun w (m : Mo W w) => (by
    obtain ⟨p1, p2, p3, gv, sv, stv, he⟩ := (t.mo m).oth
    exact copied_E he hn (Nat.le_trans (Nat.le_refl W.heap.size) m.size) : Calls Try.prog 46 #[ptrS go] w fun e w' => ∃ y F' q1 q2 q3 gv' sv' stv', e = .returned (ptrS y) ∧ EntIs w' W.heap.size y F' o lb4 false n ot q1 q2 q3 gv' sv' stv' ∧ (∀ k ∈ F', w.heap.size ≤ k) ∧ Mo w w'))
  have CM := Lib.hid (fun w (m : Mo W w) => cloneA_any w B _ (t.num.mo m))
  clear h t ft hK
  go_enter Try.func23, Try.ntmps23
  --@@ r5
  go_upto_region 5 with (fail)
  refine wp_name ?_
  intro w1 hw1
  have by1 : Blk w1 W.heap.size 83 (tabC ⟨lb1, lb2, lb3, lb4, lb5, lb6, lb7, lb8, lb9, lb10, lb11, lb12⟩ (.slice none 0 0) B go) := by rw [hw1]; infer_instance
  have M1 : Mo W w1 := by rw [hw1]; exact Mor.out
  have bT1 := M1.blk bT
  generalize hy : W.heap.size = y at *
  have HY := Lib.hid hy
  have ly1 : y < w1.heap.size := by1.lt
  clear hw1 bT
  --@@ loop
  go_wp2_with fail
  go_loopw [24] (fun i wr => ∃ (j : Nat) (lv' : Value) (gs' : List Nat) (Fs' : List (List Nat)), j ≤ K ∧ i = .int .i64 j ∧ Blk wr y 83 (tabC ⟨lb1, lb2, lb3, lb4, lb5, lb6, lb7, lb8, lb9, lb10, lb11, lb12⟩ lv' B go) ∧ CpIs wr y y o lb4 n (es.take j) lv' gs' Fs' ∧ Mo W wr) (fun i _ => K - (intOf i).toNat)
  case atStart => exact ⟨0, .slice none 0 0, [], [], by omega, rfl, (Mor.out : Mo w1 _).blk by1, CpIs.nil _ _ _ _ _ _, M1.trans Mor.out⟩
  case round =>
    obtain ⟨j, lv', gs', Fs', hj, rfl, BY, CP, hM⟩ := hrel
    have ly : y < wr.heap.size := BY.lt
    by_cases cj : j < K
    · have gj : j < gs.length := by rw [HK.out]; exact cj
      have ej : j < es.length := by rw [HE.out]; exact cj
      have hg : gs[j]? = some gs[j] := List.getElem?_eq_getElem gj
      have rw' := HT.out.row
      rw [HK.out] at rw'
      obtain ⟨gL, eA⟩ := own_adrE rw' (by omega)
      subst eA
      have y0 := (own_cellE rw' (show (gs.map ptrS)[j]? = some (ptrS gs[j]) by rw [List.getElem?_map, hg]; rfl)).1
      have z0 : LtW gL W := LtW.of_cell y0
      have y1 : wr.cell? ⟨gL, j, none⟩ = some (ptrS gs[j]) := by rw [hM.cell]; exact y0
      have z1 : LtW gL wr := LtW.of_cell y1
      have hE : es[j]? = some es[j] := List.getElem?_eq_getElem ej
      have SN : Hid (es.take (j + 1) = es.take j ++ [es[j]]) := Lib.hid (by rw [List.take_add_one, hE]; rfl)
      have CE := Lib.hid (fun w (m : Mo W w) => (by
        obtain ⟨p1, p2, p3, gv, sv, stv, he⟩ := (HT.out.mo m).ent j _ _ _ hg (List.getElem?_eq_getElem (by rw [HT.out.lF]; exact ej)) hE
        exact copied_E he hn (show y ≤ w.heap.size by have := m.size; omega) : Calls Try.prog 46 #[ptrS gs[j]] w fun e w' => ∃ z F' q1 q2 q3 gv' sv' stv', e = .returned (ptrS z) ∧ EntIs w' y z F' o lb4 true n es[j] q1 q2 q3 gv' sv' stv' ∧ (∀ k ∈ F', w.heap.size ≤ k) ∧ Mo w w'))
      generalize es[j] = E at *
      generalize gs[j] = gE at *
      have e0 : (0 : Int) ≤ j := by omega
      have e1 : (j : Int) < K := by omega
      have hw : IntKind.i64.wrap ((j : Int) + 1) = j + 1 := by rw [IntKind.wrap_i64]; omega
      obtain ⟨A', c', elv⟩ := own_slS CP.row
      subst elv
      have lgs : gs'.length = j := by rw [CP.lg, List.length_take]; omega
      have HCP : Hid (CpIs wr y y o lb4 n (es.take j) (.slice A' j c') gs' Fs') := Lib.hid (by have := CP; rwa [lgs] at this)
      have R0 := CP.row
      rw [lgs] at R0 BY
      have HLG := Lib.hid lgs
      clear CP hE hg gj ej rw' y0 z0 cj lgs
      --@@ r8
      go_upto_region 8 with (fail)
      refine wp_name ?_
      intro wB hwB
      have MB : Mo wr wB := by rw [hwB]; exact Mor.out
      have BYB := MB.blk BY
      have RB := owns_mo R0 MB
      have HCB := Lib.hid (HCP.out.kp (KpS.of_mo (S := fun _ => False) MB) fun _ _ _ e => e)
      have NB := hM.trans MB
      have lyB : y < wB.heap.size := BYB.lt
      obtain ⟨i0, hi, hz0, hz1, hz2⟩ := info_parts infoPE
      clear hwB BY R0 HCP y1 z1 MB
      go_region_with
        (first
          | ((with_reducible refine (CE.out _ (NB.trans Mor.out)).mono ?_)
             rintro e wz ⟨z, F', q1, q2, q3, gv', sv', stv', rfl, EI, fr, Mz⟩
             have MBz : Mo wB wz := (Mor.out : Mo wB _).trans Mz
             have iMz : MoC _ wz := ⟨Mz⟩
             have iRz : Mor wB wz := ⟨MBz⟩
             have fr' : ∀ k ∈ F', wB.heap.size ≤ k := fun k hk => Nat.le_trans (Mo.size Mor.out) (fr k hk)
             have BYz := MBz.blk BYB
             have Rz := owns_mo RB MBz
             have hT := (Mor.out : Mo wz (wz.alloc (.cells #[ptrS z] 81)))
             have szz : y ≤ wz.heap.size := Nat.le_of_lt BYz.lt
             obtain ⟨v6, w6, hrun6, hown6, hgrow6, -, hob6⟩ := run_append_own_at (P := Try.prog) (wz.alloc (.cells #[ptrS z] 81)) y 79 79 81 i0 (.pointer none) 1 8 Try.underlying79 hi hz0 hz1 hz2 rfl (by decide) _ _ _ (owns_mo Rz hT) ⟨wz.heap.size, 0, none⟩ 1 1 [ptrS z] rfl (news_of_blkS (t := 81) (cs := #[ptrS z]) inferInstance _ rfl) (by intro u hu; simp at hu; subst hu; rfl) (by unfold maxLen; omega) (by omega) (by simp; omega)
             replace hrun6 : (appS #[79, 79] 79 #[.slice A' j c', .slice (some ⟨wz.heap.size, 0, none⟩) 1 1]).run Try.prog _ = .ok v6 w6 := hrun6
             obtain ⟨g6, c6, ev6⟩ := own_succS hown6
             subst ev6
             have K6 : KpS (fun i => (Value.slice A' j c').ownBlock = some i) wz w6 := (KpS.of_mo hT).trans (kpS_grownS hgrow6) fun _ _ q => q
             have BY6 : Blk w6 y 83 (tabC ⟨lb1, lb2, lb3, lb4, lb5, lb6, lb7, lb8, lb9, lb10, lb11, lb12⟩ (.slice A' j c') B go) := K6.blk BYz (own_noTS Rz BYz (by decide))))
      all_goals (
        go_wp2_with fail
        go_roundw
        case rel =>
          have K7 : KpS (fun i => i = y ∨ (Value.slice A' j c').ownBlock = some i) wz (w6.setCell ⟨y, 12, none⟩ (.slice (some ⟨g6, 0, none⟩) (j + 1) c6)) := (K6.mono fun _ _ e => .inr e).trans (kpS_setCell (S := fun i => i = y) w6 y 12 _ rfl) fun _ _ e => .inl e
          have KY : KpS (fun i => i = y) w6 (w6.setCell ⟨y, 12, none⟩ (.slice (some ⟨g6, 0, none⟩) (j + 1) c6)) := kpS_setCell w6 y 12 _ rfl
          have row7 := own_kpS hown6 KY fun k hk e => own_noTS hown6 BY6 (by decide) (e ▸ hk)
          have BY7 : Blk (w6.setCell ⟨y, 12, none⟩ (.slice (some ⟨g6, 0, none⟩) (j + 1) c6)) y 83 (tabC ⟨lb1, lb2, lb3, lb4, lb5, lb6, lb7, lb8, lb9, lb10, lb11, lb12⟩ (.slice (some ⟨g6, 0, none⟩) (j + 1) c6) B go) := ⟨(blk_setCell BY6 12 (.slice (some ⟨g6, 0, none⟩) (j + 1) c6)).out⟩
          have C7 := (HCB.out.kp (KpS.of_mo (S := fun _ => False) MBz) fun _ _ _ e => e).snoc EI fr' HCB.out.lts lyB (w' := w6.setCell ⟨y, 12, none⟩ (.slice (some ⟨g6, 0, none⟩) (j + 1) c6)) (lv' := .slice (some ⟨g6, 0, none⟩) (j + 1) c6) K7 (by rw [HLG.out]; exact row7) (fun k hk => by
            rcases hob6 with v | v
            · rw [v] at hk; exact HCB.out.rf k hk
            · rw [v] at hk
              injection hk with hk
              have := BYz.lt
              rw [← hk]
              simp
              omega)
          have M7 : Mo W (w6.setCell ⟨y, 12, none⟩ (.slice (some ⟨g6, 0, none⟩) (j + 1) c6)) := K7.mo (NB.trans MBz) fun k _ e => by
            rcases e with rfl | e
            · exact Nat.le_of_eq HY.out
            · have := HCB.out.rf k e
              have := HY.out
              omega
          exact ⟨j + 1, .slice (some ⟨g6, 0, none⟩) (j + 1) c6, gs' ++ [z], Fs' ++ [F'], by omega, by go_num, BY7, by rw [SN.out]; exact C7, M7⟩
        case measure => simp [intOf]; omega)
    · obtain rfl : j = K := by omega
      have et : es.take j = es := List.take_of_length_le (by rw [HE.out]; exact Nat.le_refl _)
      rw [et] at CP
      --@@ r10
      go_upto_region 10 with (fail)
      obtain ⟨w2, hw2⟩ : ∃ w, w = wr := ⟨_, rfl⟩
      subst hw2
      have M2 := hM
      have bE2 := M2.blk HT.out.t
      have ne : T ≠ y := by have := HT.out.t.lt; have := HY.out; omega
      have br0 : ∃ cs, Blk w2 y 83 cs ∧ cs.size = 15 := ⟨_, BY, rfl⟩
      obtain ⟨c, hc⟩ : ∃ c, c = w2.heap.size := ⟨_, rfl⟩
      have HC := Lib.hid hc
      have yc : y < c := by omega
      have LT : Hid (∀ (i : Nat) (F : List Nat), Fs'[i]? = some F → ∀ k ∈ F, k < c) := Lib.hid (by rw [hc]; exact CP.lts)
      have HCP := Lib.hid CP
      have HBY := Lib.hid BY
      clear CP hM BY bT1 hc et cj ly1 by1 M1
      --@@ cut
      go_cut [47] (fun _ wx => CellP y 83 15 13 (PM (es.map (·.a)) y c) wx ∧ CellP y 83 15 14 (PO o lb4 n ot y c) wx ∧ RelE y 83 15 (L10 y c o lb4 n ot (es.map (·.a))) w2 wx)
      case first =>
        rename_i hJ hK
        refine wp_region_factsH (RelE y 83 15 (L10 y c o lb4 n ot (es.map (·.a)))) (fun _ _ => RelE.mo (L10_keep y c o lb4 n ot (es.map (·.a)))) (fun _ _ _ => RelE.trans) (fun k => fl10t_deps.getD k []) (ofFL (fl10t T y B go c o n lb4 ot (es.map (·.a)))) (by kernel_rfl) (by kernel_rfl) (ofFL_monoR (fl10t_mono T y B go c o n lb4 ot (es.map (·.a)))) ?_ ?_
        · intro k hk a' w' hs hM hb hd
          have bb0 : a'.tmps.getD 0 undef = .pointer (some ⟨T, 0, none⟩) := (hb 0 (rg_free (by kernel_rfl))).trans rfl
          have bb3 : a'.tmps.getD 3 undef = .pointer (some ⟨y, 0, none⟩) := (hb 3 (rg_free (by kernel_rfl))).trans rfl
          have hk' : k < 14 := hk
          clear hs hk hb
          rcases (show k = 0 ∨ k = 1 ∨ k = 2 ∨ k = 3 ∨ k = 4 ∨ k = 5 ∨ k = 6 ∨ k = 7 ∨ k = 8 ∨ k = 9 ∨ k = 10 ∨ k = 11 ∨ k = 12 ∨ k = 13 by omega) with rfl | rfl | rfl | rfl | rfl | rfl | rfl | rfl | rfl | rfl | rfl | rfl | rfl | rfl
          · -- 0
            exact rh_val rfl (rg_w0 rfl) rfl (RelE.refl _) rfl bb0
          · -- 1
            have e0 : a'.tmps.getD 36 undef = .pointer (some ⟨T, 0, none⟩) := (rg_dep (hd 0 (by decide)) (by kernel_rfl) : ofFL (fl10t T y B go c o n lb4 ot (es.map (·.a))) 0 (a'.tmps.getD 36 undef) w')
            exact rh_val (v := .pointer (some ⟨T, 0, none⟩)) rfl (rg_w0 rfl) (by simp [execOp, Act.eval, go_sem, e0]) (RelE.refl _) rfl rfl
          · -- 2
            have e1 : a'.tmps.getD 37 undef = .pointer (some ⟨T, 0, none⟩) := (rg_dep (hd 1 (by decide)) (by kernel_rfl) : ofFL (fl10t T y B go c o n lb4 ot (es.map (·.a))) 1 (a'.tmps.getD 37 undef) w')
            exact rh_val (v := .pointer (some ⟨T, 13, none⟩)) rfl (rg_w0 rfl) (by simp [execOp, Act.eval, go_sem, e1]) (RelE.refl _) rfl rfl
          · -- 3
            have e2 : a'.tmps.getD 38 undef = .pointer (some ⟨T, 13, none⟩) := (rg_dep (hd 2 (by decide)) (by kernel_rfl) : ofFL (fl10t T y B go c o n lb4 ot (es.map (·.a))) 2 (a'.tmps.getD 38 undef) w')
            have q := hM.k.blk bE2 ne
            exact rh_val (v := .map (some B)) rfl (rg_w0 rfl) (by simp [execOp, Act.eval, go_sem, e2]) (RelE.refl _) rfl rfl
          · -- 4
            have e3 : a'.tmps.getD 39 undef = .map (some B) := (rg_dep (hd 3 (by decide)) (by kernel_rfl) : ofFL (fl10t T y B go c o n lb4 ot (es.map (·.a))) 3 (a'.tmps.getD 39 undef) w')
            have NN : Mo W w' := hM.k.mo M2 fun k _ e => by rw [e]; exact Nat.le_of_eq HY.out
            have sz : c ≤ w'.heap.size := Nat.le_trans (Nat.le_of_eq HC.out) hM.k.size
            refine rh_call rfl (rg_w0 rfl) (by simp [execOp, Act.eval, go_sem, e3]) ((CM.out _ NN).mono ?_)
            rintro e wz ⟨B', rfl, lB, hp, M9⟩
            exact ⟨_, rfl, RelE.mo (L10_keep y c o lb4 n ot (es.map (·.a))) M9, ⟨yc, B', rfl, hp, Nat.le_trans sz lB⟩⟩
          · -- 5
            exact rh_val rfl (rg_w0 rfl) rfl (RelE.refl _) rfl bb0
          · -- 6
            have e5 : a'.tmps.getD 41 undef = .pointer (some ⟨T, 0, none⟩) := (rg_dep (hd 5 (by decide)) (by kernel_rfl) : ofFL (fl10t T y B go c o n lb4 ot (es.map (·.a))) 5 (a'.tmps.getD 41 undef) w')
            exact rh_val (v := .pointer (some ⟨T, 0, none⟩)) rfl (rg_w0 rfl) (by simp [execOp, Act.eval, go_sem, e5]) (RelE.refl _) rfl rfl
          · -- 7
            have e6 : a'.tmps.getD 42 undef = .pointer (some ⟨T, 0, none⟩) := (rg_dep (hd 6 (by decide)) (by kernel_rfl) : ofFL (fl10t T y B go c o n lb4 ot (es.map (·.a))) 6 (a'.tmps.getD 42 undef) w')
            exact rh_val (v := .pointer (some ⟨T, 14, none⟩)) rfl (rg_w0 rfl) (by simp [execOp, Act.eval, go_sem, e6]) (RelE.refl _) rfl rfl
          · -- 8
            have e7 : a'.tmps.getD 43 undef = .pointer (some ⟨T, 14, none⟩) := (rg_dep (hd 7 (by decide)) (by kernel_rfl) : ofFL (fl10t T y B go c o n lb4 ot (es.map (·.a))) 7 (a'.tmps.getD 43 undef) w')
            have q := hM.k.blk bE2 ne
            exact rh_val (v := .pointer (some ⟨go, 0, none⟩)) rfl (rg_w0 rfl) (by simp [execOp, Act.eval, go_sem, e7]) (RelE.refl _) rfl rfl
          · -- 9
            have e8 : a'.tmps.getD 44 undef = .pointer (some ⟨go, 0, none⟩) := (rg_dep (hd 8 (by decide)) (by kernel_rfl) : ofFL (fl10t T y B go c o n lb4 ot (es.map (·.a))) 8 (a'.tmps.getD 44 undef) w')
            have NN : Mo W w' := hM.k.mo M2 fun k _ e => by rw [e]; exact Nat.le_of_eq HY.out
            have sz : c ≤ w'.heap.size := Nat.le_trans (Nat.le_of_eq HC.out) hM.k.size
            refine rh_call rfl (rg_w0 rfl) (by simp [execOp, Act.eval, go_sem, e8]) ((CO.out _ NN).mono ?_)
            rintro e wz ⟨z, F', r1, r2, r3, gv', sv', stv', rfl, EI, fr, M9⟩
            exact ⟨_, rfl, RelE.mo (L10_keep y c o lb4 n ot (es.map (·.a))) M9, ⟨yc, z, F', r1, r2, r3, gv', sv', stv', rfl, EI, fun k hk => Nat.le_trans sz (fr k hk)⟩⟩
          · -- 10
            exact rh_val (v := .pointer (some ⟨y, 13, none⟩)) rfl (rg_w0 rfl) (by simp [execOp, Act.eval, go_sem, bb3]) (RelE.refl _) rfl rfl
          · -- 11
            obtain hF := (rg_dep (hd 4 (by decide)) (by kernel_rfl) : ofFL (fl10t T y B go c o n lb4 ot (es.map (·.a))) 4 (a'.tmps.getD 40 undef) w')
            have e10 : a'.tmps.getD 46 undef = .pointer (some ⟨y, 13, none⟩) := (rg_dep (hd 10 (by decide)) (by kernel_rfl) : ofFL (fl10t T y B go c o n lb4 ot (es.map (·.a))) 10 (a'.tmps.getD 46 undef) w')
            obtain ⟨cs, bq, hcs⟩ : ∃ cs, Blk w' y 83 cs ∧ cs.size = 15 := by
              obtain ⟨cs0, b0, s0⟩ := br0
              obtain ⟨cs1, b1, s1, _⟩ := hM.b cs0 b0 s0
              exact ⟨cs1, b1, s1⟩
            have yv : w'.cell? ⟨y, 13, none⟩ = some cs[13] := by rw [blk_cell bq]; exact Array.getElem?_eq_getElem (by omega)
            have yf := blk_frozen bq 13
            have hF0 : PM (es.map (·.a)) y c (a'.tmps.getD 40 undef) w' := hF
            obtain ⟨pv, epv⟩ := hF0.form
            have hF1 : PM (es.map (·.a)) y c (.map (some pv)) w' := by rw [← epv]; exact hF0
            have RC : RelE y 83 15 (L10 y c o lb4 n ot (es.map (·.a))) w' (w'.setCell ⟨y, 13, none⟩ (.map (some pv))) := RelE.cell (L10_keep y c o lb4 n ot (es.map (·.a))) (by unfold L10; simp) bq hcs (by unfold L10; exact .head _) (by omega) hF1
            exact rh_unit (w2 := w'.setCell ⟨y, 13, none⟩ (.map (some pv))) rfl (rg_w0 rfl) (by simp [execOp, Act.eval, go_sem, e10, epv, yv, yf]) RC rfl ⟨_, _, blk_setCell bq 13 _, by rw [Array.size_setIfInBounds, hcs], by rw [Array.getElem?_setIfInBounds, if_pos rfl, if_pos (by omega)], ((L10_keep y c o lb4 n ot (es.map (·.a))) _ (by unfold L10; exact .head _)) _ _ _ hF1 RC.k⟩
          · -- 12
            exact rh_val (v := .pointer (some ⟨y, 14, none⟩)) rfl (rg_w0 rfl) (by simp [execOp, Act.eval, go_sem, bb3]) (RelE.refl _) rfl rfl
          · -- 13
            obtain hF := (rg_dep (hd 9 (by decide)) (by kernel_rfl) : ofFL (fl10t T y B go c o n lb4 ot (es.map (·.a))) 9 (a'.tmps.getD 45 undef) w')
            have e12 : a'.tmps.getD 47 undef = .pointer (some ⟨y, 14, none⟩) := (rg_dep (hd 12 (by decide)) (by kernel_rfl) : ofFL (fl10t T y B go c o n lb4 ot (es.map (·.a))) 12 (a'.tmps.getD 47 undef) w')
            obtain ⟨cs, bq, hcs⟩ : ∃ cs, Blk w' y 83 cs ∧ cs.size = 15 := by
              obtain ⟨cs0, b0, s0⟩ := br0
              obtain ⟨cs1, b1, s1, _⟩ := hM.b cs0 b0 s0
              exact ⟨cs1, b1, s1⟩
            have yv : w'.cell? ⟨y, 14, none⟩ = some cs[14] := by rw [blk_cell bq]; exact Array.getElem?_eq_getElem (by omega)
            have yf := blk_frozen bq 14
            have hF0 : PO o lb4 n ot y c (a'.tmps.getD 45 undef) w' := hF
            obtain ⟨pv, epv⟩ := hF0.form
            have hF1 : PO o lb4 n ot y c (ptrS pv) w' := by rw [← epv]; exact hF0
            have RC : RelE y 83 15 (L10 y c o lb4 n ot (es.map (·.a))) w' (w'.setCell ⟨y, 14, none⟩ (ptrS pv)) := RelE.cell (L10_keep y c o lb4 n ot (es.map (·.a))) (by unfold L10; simp) bq hcs (by unfold L10; exact .tail _ (.head _)) (by omega) hF1
            exact rh_unit (w2 := w'.setCell ⟨y, 14, none⟩ (ptrS pv)) rfl (rg_w0 rfl) (by simp [execOp, Act.eval, go_sem, e12, epv, yv, yf]) RC rfl ⟨_, _, blk_setCell bq 14 _, by rw [Array.size_setIfInBounds, hcs], by rw [Array.getElem?_setIfInBounds, if_pos rfl, if_pos (by omega)], ((L10_keep y c o lb4 n ot (es.map (·.a))) _ (by unfold L10; exact .tail _ (.head _))) _ _ _ hF1 RC.k⟩
        · intro a' w' hI
          have hsz : a'.tmps.size = 48 := hI.asz
          have hdf : a'.defers = [] := hI.df
          have hbs := hI.base
          have f1 := (hI.val 11 (of_decide_eq_true (by kernel_rfl)) (by kernel_rfl) : ofFL (fl10t T y B go c o n lb4 ot (es.map (·.a))) 11 undef w')
          have f2 := (hI.val 13 (of_decide_eq_true (by kernel_rfl)) (by kernel_rfl) : ofFL (fl10t T y B go c o n lb4 ot (es.map (·.a))) 13 undef w')
          refine hK a' w' (Met.intro (hJ a' w' ⟨a'.tmps.getD 6 undef, a'.tmps.getD 7 undef, a'.tmps.getD 8 undef, a'.tmps.getD 9 undef, a'.tmps.getD 10 undef, a'.tmps.getD 11 undef, a'.tmps.getD 12 undef, a'.tmps.getD 13 undef, a'.tmps.getD 14 undef, a'.tmps.getD 15 undef, a'.tmps.getD 16 undef, a'.tmps.getD 17 undef, a'.tmps.getD 18 undef, a'.tmps.getD 19 undef, a'.tmps.getD 20 undef, a'.tmps.getD 21 undef, a'.tmps.getD 25 undef, a'.tmps.getD 26 undef, a'.tmps.getD 27 undef, a'.tmps.getD 28 undef, a'.tmps.getD 29 undef, a'.tmps.getD 30 undef, a'.tmps.getD 31 undef, a'.tmps.getD 32 undef, a'.tmps.getD 33 undef, a'.tmps.getD 34 undef, a'.tmps.getD 35 undef, a'.tmps.getD 36 undef, a'.tmps.getD 37 undef, a'.tmps.getD 38 undef, a'.tmps.getD 39 undef, a'.tmps.getD 40 undef, a'.tmps.getD 41 undef, a'.tmps.getD 42 undef, a'.tmps.getD 43 undef, a'.tmps.getD 44 undef, a'.tmps.getD 45 undef, a'.tmps.getD 46 undef, a'.tmps.getD 47 undef, ⟨f1, f2, hI.mo⟩, ?_⟩))
          refine act_eqG hdf (arr_eqG hsz ?_)
          intro i hi
          have hi' : i < 48 := hi
          clear hI hi hsz hdf
          rcases (show i = 0 ∨ i = 1 ∨ i = 2 ∨ i = 3 ∨ i = 4 ∨ i = 5 ∨ i = 6 ∨ i = 7 ∨ i = 8 ∨ i = 9 ∨ i = 10 ∨ i = 11 ∨ i = 12 ∨ i = 13 ∨ i = 14 ∨ i = 15 ∨ i = 16 ∨ i = 17 ∨ i = 18 ∨ i = 19 ∨ i = 20 ∨ i = 21 ∨ i = 22 ∨ i = 23 ∨ i = 24 ∨ i = 25 ∨ i = 26 ∨ i = 27 ∨ i = 28 ∨ i = 29 ∨ i = 30 ∨ i = 31 ∨ i = 32 ∨ i = 33 ∨ i = 34 ∨ i = 35 ∨ i = 36 ∨ i = 37 ∨ i = 38 ∨ i = 39 ∨ i = 40 ∨ i = 41 ∨ i = 42 ∨ i = 43 ∨ i = 44 ∨ i = 45 ∨ i = 46 ∨ i = 47 by omega) with rfl | rfl | rfl | rfl | rfl | rfl | rfl | rfl | rfl | rfl | rfl | rfl | rfl | rfl | rfl | rfl | rfl | rfl | rfl | rfl | rfl | rfl | rfl | rfl | rfl | rfl | rfl | rfl | rfl | rfl | rfl | rfl | rfl | rfl | rfl | rfl | rfl | rfl | rfl | rfl | rfl | rfl | rfl | rfl | rfl | rfl | rfl | rfl
          · exact (hbs 0 (rg_free (by kernel_rfl))).trans rfl
          · exact (hbs 1 (rg_free (by kernel_rfl))).trans rfl
          · exact (hbs 2 (rg_free (by kernel_rfl))).trans rfl
          · exact (hbs 3 (rg_free (by kernel_rfl))).trans rfl
          · exact (hbs 4 (rg_free (by kernel_rfl))).trans rfl
          · exact (hbs 5 (rg_free (by kernel_rfl))).trans rfl
          · rfl
          · rfl
          · rfl
          · rfl
          · rfl
          · rfl
          · rfl
          · rfl
          · rfl
          · rfl
          · rfl
          · rfl
          · rfl
          · rfl
          · rfl
          · rfl
          · exact (hbs 22 (rg_free (by kernel_rfl))).trans rfl
          · exact (hbs 23 (rg_free (by kernel_rfl))).trans rfl
          · exact (hbs 24 (rg_free (by kernel_rfl))).trans rfl
          · rfl
          · rfl
          · rfl
          · rfl
          · rfl
          · rfl
          · rfl
          · rfl
          · rfl
          · rfl
          · rfl
          · rfl
          · rfl
          · rfl
          · rfl
          · rfl
          · rfl
          · rfl
          · rfl
          · rfl
          · rfl
          · rfl
          · rfl
      obtain ⟨c1, c2, R9⟩ := hcut
      rename World => w3
      --@@ ret
      go_wp2_with fail
      go_ret
      obtain ⟨X3, bX, sX, eX⟩ := R9.b _ HBY.out rfl
      obtain ⟨Y1, v1, b1, z1, e1, _, B', rfl, hB, lB⟩ := c1
      obtain ⟨Y2, v2, b2, z2, e2, _, z, F', q1, q2, q3, gv, sv, stv, rfl, EO, fO⟩ := c2
      have uq : ∀ {Y : Array Value}, Blk w3 y 83 Y → Y = X3 := fun b => by
        have := b.out.symm.trans bX.out
        simp at this
        exact this
      obtain rfl := uq b1
      obtain rfl := uq b2
      have nk : ∀ i, i ≠ 13 → i ≠ 14 → ∀ q ∈ L10 y c o lb4 n ot (es.map (·.a)), q.1 ≠ i := fun i n1 n2 q hq => by
        unfold L10 at hq
        simp only [List.mem_cons, List.not_mem_nil, or_false] at hq
        rcases hq with rfl | rfl
        · exact Ne.symm n1
        · exact Ne.symm n2
      have eX3 := tab_eq sX (fun i n1 n2 => eX i (nk i n1 n2)) e1 e2
      subst eX3
      have C3 := HCP.out.kp R9.k fun i h1 _ e => by omega
      have lw := HY.out
      rw [lw]
      refine ⟨y, fun k => y ≤ k ∧ k < w3.heap.size, rfl, ⟨⟨B', lv', gs', Fs', z, F', ⟨bX, C3.row, hB, HT.out.nd, C3.lg, C3.lF, C3.ent, ⟨_, _, _, _, _, _, EO⟩, C3.dis, fun i F h k hk h' => ?_, HT.out.ok, HT.out.le⟩, ⟨⟨Nat.le_refl _, bX.lt⟩, ⟨by omega, hB.lt⟩, fun k e => ⟨Nat.le_of_lt (C3.rf k e), own_lt' C3.row e⟩, fun i F h k hk => ⟨Nat.le_of_lt (C3.fr i F h k hk), C3.lts i F h k hk⟩, fun k hk => ⟨by have := fO k hk; omega, EO.ty.lt k hk⟩⟩⟩, fun k hk => hk.2, Nat.le_of_lt bX.lt⟩, fun k hk => hk.1, R9.k.mo M2 fun k _ e => by rw [e]; exact Nat.le_of_eq HY.out⟩
      have := LT.out i F h k hk
      have := fO k h'
      omega
end Go.Proofs.Ythgkhllkhhnlpaa
