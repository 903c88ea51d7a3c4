/- server: copies: a detector; what a region keeps that writes three cells of one block. -/
import Derived.Test.YthgkhllkhhnlpaaSvQ
import Derived.Test.YthgkhllkhhnlpaaAccJ
namespace Go.Proofs.Ythgkhllkhhnlpaa
open Go.RowKit Go.Maps

set_option maxRecDepth 20000 in
instance row_det : RowT 131 4 := ⟨by kernel_rfl, by kernel_rfl⟩
set_option maxRecDepth 20000 in
theorem loadF_det (v : Value) : Instr.loadAt 131 v = loadF 131 v := rfl
set_option maxRecDepth 20000 in
theorem storeF_det (v x : Value) : Instr.storeAt 131 v x = storeF 131 v x := rfl
set_option maxRecDepth 20000 in
theorem own_oneC {w : World} {b T s n : Nat} {v : Value} {xs : List Value} (h : w.ownsRow b T s v n xs) : v.oneCell' = true := by
  obtain ⟨A, c, rfl⟩ := own_slS h
  rfl
attribute [local go_sem] blk_cell' blk_frozen'
attribute [local go_sem ↓] loadF_det storeF_det
attribute [local go_sem] run_loadF0 run_storeF0
set_option maxRecDepth 20000 in
set_option maxHeartbeats 4000000 in
theorem shcopy_any (p b b' : Nat) (v : Value) (D : Sd) (W : World) (h : ShIs W p b v D) (hb : b' ≤ W.heap.size) :
    Calls Try.prog 75 #[ptrS p] W fun e w' => ∃ p' v', e = .returned (ptrS p') ∧ W.heap.size ≤ p' ∧ ShIs w' p' b' v' D ∧ (∀ k, v'.ownBlock = some k → W.heap.size ≤ k) ∧ Mo W w' := by
  have bm := h.m
  have okD := h.ok
  have l1 := okD.l
  have l2 := okD.w1
  have w0 := okD.w0
  have HROW := Lib.hid h.row
  have HOK := Lib.hid okD
  have HB := Lib.hid hb
  have ov := Lib.hid (own_oneC h.row)
  have d1 : decide ((D.w : Int) < 1) = false := decide_eq_false (by omega)
  have d1' : decide (D.w < 1) = false := decide_eq_false (by omega)
  have CL := Lib.hid (fun w (m : Mo W w) => sclone_own h.row rfl (by omega) w m)
  have iO : One1 v := ⟨ov.out⟩
  obtain ⟨dw, db, dl, dc⟩ := D
  simp only at *
  clear h okD hb
  go_enter Try.func75, Try.ntmps75
  go_upto_region 4 with (fail)
  refine wp_name ?_
  intro w1 hw1
  have b1 : Blk w1 W.heap.size 131 #[.int .i64 (dw : Nat), .int .i64 db, v, .int .u64 (dc : Nat)] := by rw [hw1]; infer_instance
  have M1 : Mo W w1 := by rw [hw1]; exact Mor.out
  have bm1 := M1.blk bm
  generalize hg : W.heap.size = g at *
  clear hw1 bm
  go_wp2_with fail
  refine (CL.out _ (M1.trans Mor.out)).mono ?_
  rintro e w2 ⟨v', rfl, o2, M2⟩
  obtain ⟨A2, c2, rfl⟩ := own_slS o2
  have M12 : Mo w1 w2 := (Mor.out : Mo w1 _).trans M2
  have b2 := M12.blk b1
  have ho2 := Lib.hid (owns_baseS o2 (b' := w1.heap.size) (Mo.size Mor.out))
  have N2 := M1.trans M12
  have lg : g < w1.heap.size := b1.lt
  clear M2 M12 b1 bm1 CL o2
  go_upto_region 5 with (fail)
  refine wp_name ?_
  intro w3 hw3
  have hw3' : w3 = w2.setCell ⟨g, 2, none⟩ (.slice A2 dl.length c2) := by rw [hw3]
  have b3 : Blk w3 g 131 #[.int .i64 (dw : Nat), .int .i64 db, .slice A2 dl.length c2, .int .u64 (dc : Nat)] := by rw [hw3']; exact blk_setCell b2 2 _
  have K3 : KpS (fun i => i = g) w2 w3 := by rw [hw3']; exact kpS_setCell w2 g 2 _ rfl
  have N3 : Mo W w3 := K3.mo N2 fun k _ e => by rw [e]; exact Nat.le_of_eq hg
  have o3 := Lib.hid (own_past K3 ho2.out lg)
  clear hw3 hw3' b2 K3 ho2
  go_wp2_with fail
  go_ret
  refine ⟨g, .slice A2 dl.length c2, rfl, Nat.le_of_eq hg, ⟨b3, owns_baseS o3.out (by have := HB.out; omega), HOK.out⟩, fun k hk => ?_, N3⟩
  rcases o3.out.2 with ⟨e', _⟩ | ⟨g', _, _, e', hb', _⟩
  · rw [e'] at hk; simp [Value.ownBlock] at hk
  · rw [e'] at hk
    have e2 : g' = k := by simpa [Value.ownBlock] using hk
    omega
set_option maxRecDepth 20000 in
set_option maxHeartbeats 4000000 in
theorem shcopy_nil (W : World) : Calls Try.prog 75 #[nilS] W fun e w' => e = .returned nilS ∧ Mo W w' := by
  go_enter Try.func75, Try.ntmps75
  go_wp2_with fail
  go_ret
  exact ⟨rfl, Mor.out⟩
set_option maxRecDepth 20000 in
set_option maxHeartbeats 4000000 in
theorem gcopy_nil (W : World) : Calls Try.prog 74 #[nilS] W fun e w' => e = .returned nilS ∧ Mo W w' := by
  go_enter Try.func74, Try.ntmps74
  go_wp2_with fail
  go_ret
  exact ⟨rfl, Mor.out⟩
set_option maxRecDepth 20000 in
theorem nodup_injC {α : Type} : ∀ {l : List α} {i j : Nat} {x : α}, l.Nodup → l[i]? = some x → l[j]? = some x → i = j
  | [], _, _, _, _, h, _ => by cases h
  | a :: l, 0, 0, _, _, _, _ => rfl
  | a :: l, 0, j + 1, x, hn, h1, h2 => by
    rw [List.nodup_cons] at hn
    simp only [List.getElem?_cons_zero, Option.some.injEq] at h1
    simp only [List.getElem?_cons_succ] at h2
    subst h1
    exact absurd (List.mem_of_getElem? h2) hn.1
  | a :: l, i + 1, 0, x, hn, h1, h2 => by
    rw [List.nodup_cons] at hn
    simp only [List.getElem?_cons_zero, Option.some.injEq] at h2
    simp only [List.getElem?_cons_succ] at h1
    subst h2
    exact absurd (List.mem_of_getElem? h1) hn.1
  | a :: l, i + 1, j + 1, x, hn, h1, h2 => by
    rw [List.nodup_cons] at hn
    simp only [List.getElem?_cons_succ] at h1 h2
    rw [nodup_injC hn.2 h1 h2]
/-- a cell of a block satisfies P -/
def CellP (r T n i : Nat) (P : Value → World → Prop) (w : World) : Prop := ∃ cs v, Blk w r T cs ∧ cs.size = n ∧ cs[i]? = some v ∧ P v w
def KeepV (r : Nat) (P : Value → World → Prop) : Prop := ∀ v w w', P v w → KpS (fun i => i = r) w w' → P v w'
/-- what a region keeps that writes some cells of one block: other blocks, the block's other cells, what some cells satisfy -/
structure RelE (r T n : Nat) (L : List (Nat × (Value → World → Prop))) (w w' : World) : Prop where
  k : KpS (fun i => i = r) w w'
  b : ∀ cs, Blk w r T cs → cs.size = n → ∃ cs', Blk w' r T cs' ∧ cs'.size = n ∧ ∀ i, (∀ q ∈ L, q.1 ≠ i) → cs'[i]? = cs[i]?
  p : ∀ q ∈ L, CellP r T n q.1 q.2 w → CellP r T n q.1 q.2 w'
section
variable {r T n : Nat} {L : List (Nat × (Value → World → Prop))}
set_option maxRecDepth 20000 in
theorem RelE.mo (K : ∀ q ∈ L, KeepV r q.2) {w w' : World} (h : Mo w w') : RelE r T n L w w' :=
  ⟨KpS.of_mo h, fun cs b s => ⟨cs, h.blk b, s, fun _ _ => rfl⟩, fun q hq ⟨cs, v, b, s, e, p⟩ => ⟨cs, v, h.blk b, s, e, K q hq _ _ _ p (KpS.of_mo h)⟩⟩
set_option maxRecDepth 20000 in
theorem RelE.refl (w : World) : RelE r T n L w w := ⟨KpS.refl _ w, fun cs b s => ⟨cs, b, s, fun _ _ => rfl⟩, fun _ _ h => h⟩
set_option maxRecDepth 20000 in
theorem RelE.trans {a b c : World} (h : RelE r T n L a b) (k : RelE r T n L b c) : RelE r T n L a c := by
  refine ⟨h.k.trans k.k fun _ _ e => e, fun cs b s => ?_, fun q hq p => k.p q hq (h.p q hq p)⟩
  obtain ⟨c1, b1, s1, e1⟩ := h.b cs b s
  obtain ⟨c2, b2, s2, e2⟩ := k.b c1 b1 s1
  exact ⟨c2, b2, s2, fun i hi => (e2 i hi).trans (e1 i hi)⟩
set_option maxRecDepth 20000 in
theorem RelE.cell (K : ∀ q ∈ L, KeepV r q.2) (nd : (L.map (·.1)).Nodup) {w : World} {cs : Array Value} (b : Blk w r T cs) (s : cs.size = n) {i : Nat} {P : Value → World → Prop} (hq : (i, P) ∈ L) (hi : i < n) {v : Value} (hp : P v w) : RelE r T n L w (w.setCell ⟨r, i, none⟩ v) := by
  have kk : KpS (fun i => i = r) w (w.setCell ⟨r, i, none⟩ v) := kpS_setCell w r i v rfl
  have bb := blk_setCell b i v
  have ss : (cs.setIfInBounds i v).size = n := by rw [Array.size_setIfInBounds, s]
  refine ⟨kk, fun c1 b1 s1 => ?_, fun q hq' ⟨c1, u, b1, s1, e, p⟩ => ?_⟩
  · obtain rfl : c1 = cs := by
      have := b1.out.symm.trans b.out
      simp at this
      exact this
    refine ⟨_, bb, ss, fun j hj => ?_⟩
    rw [Array.getElem?_setIfInBounds, if_neg fun e => hj _ hq e]
  · obtain rfl : c1 = cs := by
      have := b1.out.symm.trans b.out
      simp at this
      exact this
    by_cases e1 : q.1 = i
    · have e2 : q = (i, P) := by
        obtain ⟨m, hm⟩ := List.getElem?_of_mem hq'
        obtain ⟨m', hm'⟩ := List.getElem?_of_mem hq
        have h1 : (L.map (·.1))[m]? = some i := by rw [List.getElem?_map, hm, Option.map_some, e1]
        have h2 : (L.map (·.1))[m']? = some i := by rw [List.getElem?_map, hm', Option.map_some]
        have : m = m' := nodup_injC nd h1 h2
        subst this
        rw [hm] at hm'
        injection hm'
      subst e2
      exact ⟨_, v, bb, ss, by rw [Array.getElem?_setIfInBounds, if_pos rfl, if_pos (by omega)], K _ hq _ _ _ hp kk⟩
    · exact ⟨_, u, bb, ss, by rw [Array.getElem?_setIfInBounds, if_neg (Ne.symm e1)]; exact e, K _ hq' _ _ _ p kk⟩
end
end Go.Proofs.Ythgkhllkhhnlpaa
