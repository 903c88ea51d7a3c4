/- server: Clone of steps; a server that is told, in memory. -/
import Derived.Test.YthgkhllkhhnlpaaSvI2
import Derived.Test.YthgkhllkhhnlpaaRegS
namespace Go.Proofs.Ythgkhllkhhnlpaa
open Go.RowKit Go.Maps

set_option maxRecDepth 20000 in
theorem stpL_len (l : List (Nat × Int × Int)) : (stpL l).length = l.length * 3 := by
  induction l with
  | nil => rfl
  | cons x l ih =>
    show (stpC x ++ stpL l).length = _
    rw [List.length_append, ih, List.length_cons]
    show 3 + _ = _
    omega
set_option maxRecDepth 20000 in
theorem stpL_one (l : List (Nat × Int × Int)) : ∀ u ∈ stpL l, u.oneCell' = true := fun u hu => by
  obtain ⟨x, _, hx⟩ := List.mem_flatMap.1 hu
  simp only [stpC, List.mem_cons, List.not_mem_nil, or_false] at hx
  rcases hx with rfl | rfl | rfl <;> rfl
/-- a row of cells at a place -/
def RowAt (W : World) (g : Nat) (xs : List Value) : Prop := ∀ (j : Nat) u, xs[j]? = some u → W.cell? ⟨g, j, none⟩ = some u
set_option maxRecDepth 20000 in
theorem RowAt.mo {W w : World} {g : Nat} {xs : List Value} (h : RowAt W g xs) (k : Mo W w) : RowAt w g xs := fun j u hj => by
  have y := h j u hj
  have : LtW g W := LtW.of_cell y
  rw [k.cell, y]
set_option maxRecDepth 20000 in
theorem own_row {W : World} {b T s n g c : Nat} {xs : List Value} (h : W.ownsRow b T s (.slice (some ⟨g, 0, none⟩) n c) n xs) : RowAt W g xs := fun j u hj => by
  rcases h.2 with ⟨e, _⟩ | ⟨g', cap, cur, e, hb, hg, h3, h4, h5, h6⟩
  · cases e
  · injection e with e1 e2 e3
    injection e1 with e1
    injection e1 with e1
    subst e1
    have B : Blk W g T cur := ⟨hg⟩
    have lt := (List.getElem?_eq_some_iff.1 hj).1
    rw [blk_cell B, ← Array.getElem?_toList]
    rw [← h6, List.getElem?_take_of_lt (by have := h.1; omega)] at hj
    exact hj
set_option maxRecDepth 20000 in
theorem infoST : (Try.prog.info? 85).map (fun i => (i.zero, i.size, i.bytes)) = some (some (.agg #[.int .u64 0, .int .i64 0, .int .i64 0]), 3, 24) := by kernel_rfl
attribute [local go_sem] blk_cell' blk_frozen'
set_option maxRecDepth 20000 in
set_option maxHeartbeats 2000000 in
theorem stclone_at (g n cap : Nat) (l : List (Nat × Int × Int)) (W : World) (h : RowAt W g (stpL l)) (hn : l.length = n) (hl : n ≤ 1000) :
    Calls Try.prog 37 #[.slice (some ⟨g, 0, none⟩) n cap] W fun e w' => ∃ v, e = .returned v ∧ w'.ownsRow W.heap.size 85 3 v n (stpL l) ∧ Mo W w' := by
  obtain ⟨i0, hi, hz0, hz1, hz2⟩ := info_parts infoST
  have he : ∀ w : World, (binOp .eql 60 (.slice (some ⟨g, 0, none⟩) n cap) (.slice none 0 0)).run Try.prog w = .ok (.bool false) w := fun _ => rfl
  go_enter Try.func37, Try.ntmps37
  go_wp2_with (at_builtin; refine wpList_append_own _ rfl _ _ 60 rfl W.heap.size 85 i0 (.agg #[.int .u64 0, .int .i64 0, .int .i64 0]) 3 24 Try.underlying60 hi hz0 hz1 hz2 rfl (by decide) _ _ _ rfl (World.ownsRow_made W #[] 0 (Nat.le_refl _) (Nat.zero_le _) rfl) ⟨g, 0, none⟩ n cap (stpL l) rfl ?c1 ?c2 ?c3 ?c4 ?c5 ?c6 ?_)
  case c1 => rw [stpL_len, hn]
  case c2 =>
    intro j u hj
    have := (h.mo (Mor.out : Mo W (W.alloc (Obj.cells #[] 85)))) j u hj
    rw [Addr.add_mid, Nat.zero_add]
    exact this
  case c3 => exact stpL_one l
  case c4 => unfold maxLen; omega
  case c5 => omega
  case c6 => simp
  intro v' w2 hown hgrow _
  have hM : Mo W w2 := mo_grown (Mor.out : Mo W (W.alloc (Obj.cells #[] 85))) hgrow (by intro k hk; simp [Value.ownBlock] at hk; omega)
  clear hgrow
  go_wp2_with fail
  go_ret
  exact ⟨v', rfl, hown, hM⟩
set_option maxRecDepth 20000 in
set_option maxHeartbeats 2000000 in
theorem stclone_nil (W : World) : Calls Try.prog 37 #[.slice none 0 0] W fun e w' => e = .returned (.slice none 0 0) ∧ Mo W w' := by
  have he : ∀ w : World, (binOp .eql 60 (.slice none 0 0) (.slice none 0 0)).run Try.prog w = .ok (.bool true) w := fun _ => rfl
  go_enter Try.func37, Try.ntmps37
  go_wp2_with fail
  go_ret
  exact ⟨rfl, Mor.out⟩
set_option maxRecDepth 20000 in
theorem stclone_own {W : World} {b n : Nat} {v : Value} {l : List (Nat × Int × Int)} (h : W.ownsRow b 85 3 v n (stpL l)) (hn : l.length = n) (hl : n ≤ 1000) :
    Calls Try.prog 37 #[v] W fun e w' => ∃ v', e = .returned v' ∧ w'.ownsRow W.heap.size 85 3 v' n (stpL l) ∧ Mo W w' := by
  rcases h.2 with ⟨rfl, h0⟩ | ⟨g, cap, cur, rfl, _⟩
  · refine (stclone_nil W).mono ?_
    rintro e w' ⟨rfl, m⟩
    exact ⟨_, rfl, ⟨h.1, .inl ⟨rfl, h0⟩⟩, m⟩
  · exact stclone_at g n cap l W (own_row h) hn hl
/-! ### a server that is told -/
noncomputable def totV (S : St) : Array Value := #[.int .i64 S.c, .int .i64 S.w, .int .i64 S.lo, .int .i64 S.hi, .int .i64 (meanS S), .int .u64 (spreadS S)]
/-- a told server's cells behind its address -/
noncomputable def srvT (c : Nat → Int) (S1 S2 S3 : St) (tv sv : Value) (more : Nat) : List Value :=
  [.int .i64 (c 0), .int .i64 (c 1), .int .i64 (c 2), .int .i64 (c 3), .int .i64 (c 4), .int .i64 (c 5), .int .i64 (c 6), .int .i64 (c 7), .int .i64 (c 8),
   .int .i64 S1.c, .int .i64 S1.w, .int .i64 S1.lo, .int .i64 S1.hi, .int .i64 (meanS S1), .int .u64 (spreadS S1),
   .int .i64 S2.c, .int .i64 S2.w, .int .i64 S2.lo, .int .i64 S2.hi, .int .i64 (meanS S2), .int .u64 (spreadS S2),
   .int .i64 S3.c, .int .i64 S3.w, .int .i64 S3.lo, .int .i64 S3.hi, .int .i64 (meanS S3), .int .u64 (spreadS S3), tv, sv, .int .i64 (more : Nat)]
noncomputable def srvC (a : Array Value) (c : Nat → Int) (S1 S2 S3 : St) (tv sv : Value) (more : Nat) : Array Value := (a.toList ++ srvT c S1 S2 S3 tv sv more).toArray
set_option maxRecDepth 20000 in
theorem srvC_size {a : Array Value} (h : a.size = 17) (c : Nat → Int) (S1 S2 S3 : St) (tv sv : Value) (more : Nat) : (srvC a c S1 S2 S3 tv sv more).size = 47 := by
  unfold srvC
  rw [List.size_toArray, List.length_append, Array.length_toList, h]
  rfl
set_option maxRecDepth 20000 in
theorem srvC_one {a : Array Value} (h : OneA a) (c : Nat → Int) (S1 S2 S3 : St) {tv sv : Value} (h1 : tv.oneCell' = true) (h2 : sv.oneCell' = true) (more : Nat) : OneA (srvC a c S1 S2 S3 tv sv more) := ⟨by
  rw [Array.all_eq_true_iff_forall_mem]
  intro v hv
  unfold srvC at hv
  rw [List.mem_toArray, List.mem_append] at hv
  rcases hv with hv | hv
  · exact (Array.all_eq_true_iff_forall_mem.1 h.out) v (Array.mem_toList_iff.1 hv)
  · unfold srvT at hv
    simp only [List.mem_cons, List.not_mem_nil, or_false] at hv
    rcases hv with rfl | rfl | rfl | rfl | rfl | rfl | rfl | rfl | rfl | rfl | rfl | rfl | rfl | rfl | rfl | rfl | rfl | rfl | rfl | rfl | rfl | rfl | rfl | rfl | rfl | rfl | rfl | rfl | rfl | rfl <;> first | rfl | assumption⟩
set_option maxRecDepth 20000 in
theorem srvC_lo {a : Array Value} (h : a.size = 17) (c : Nat → Int) (S1 S2 S3 : St) (tv sv : Value) (more k : Nat) (hk : k < 17) : (srvC a c S1 S2 S3 tv sv more)[k]? = a[k]? := by
  unfold srvC
  rw [List.getElem?_toArray, List.getElem?_append_left (by rw [Array.length_toList]; omega), Array.getElem?_toList]
set_option maxRecDepth 20000 in
theorem srvC_hi {a : Array Value} (h : a.size = 17) (c : Nat → Int) (S1 S2 S3 : St) (tv sv : Value) (more k : Nat) : (srvC a c S1 S2 S3 tv sv more)[17 + k]? = (srvT c S1 S2 S3 tv sv more)[k]? := by
  unfold srvC
  rw [List.getElem?_toArray, List.getElem?_append_right (by rw [Array.length_toList]; omega), Array.length_toList, h, Nat.add_sub_cancel_left]
set_option maxRecDepth 20000 in
theorem buildF_srv (l : Array (Nat × Value)) : Instr.build 62 l = buildF 62 l := rfl
set_option maxRecDepth 20000 in
theorem run_build_srv (a0 a1 a2 a3 a4 a5 a6 a7 a8 a9 a10 a11 a12 a13 a14 a15 a16 : Value) (c : Nat → Int) (S1 S2 S3 : St) (A : Option Addr) (n c1 : Nat) (D : Option Addr) (m c2 : Nat) (more : Nat) (w : World) : (buildF 62 #[(0, .agg #[a0, a1, a2, a3, a4, a5, a6, a7, a8, a9, a10, a11, a12, a13, a14, a15, a16]), (1, .agg #[.int .i64 (c 0), .int .i64 (c 1), .int .i64 (c 2), .int .i64 (c 3), .int .i64 (c 4), .int .i64 (c 5), .int .i64 (c 6), .int .i64 (c 7), .int .i64 (c 8)]), (2, .agg (totV S1)), (3, .agg (totV S2)), (4, .agg (totV S3)), (5, .slice A n c1), (6, .slice D m c2), (7, .int .i64 (more : Nat))]).run Try.prog w = .ok (.agg (srvC #[a0, a1, a2, a3, a4, a5, a6, a7, a8, a9, a10, a11, a12, a13, a14, a15, a16] c S1 S2 S3 (.slice A n c1) (.slice D m c2) more)) w := run_build w _ _ _ (by kernel_rfl)
/-- the told value of an entry: its rows lie in blocks from b on -/
def SrvAt (b : Nat) (w : World) (E : Ent) (K : List Tau) (v : Value) : Prop := ∃ tv sv, v = .agg (srvC E.a E.c E.s1 E.s2 E.s3 tv sv E.more) ∧ w.ownsRow b 117 5 tv K.length (tauRow K) ∧ w.ownsRow b 85 3 sv E.st.length (stpL E.st)
set_option maxRecDepth 20000 in
instance row_srv : RowT 62 47 := ⟨by kernel_rfl, by kernel_rfl⟩
set_option maxRecDepth 20000 in
instance row_cnt : RowT 56 9 := ⟨by kernel_rfl, by kernel_rfl⟩
set_option maxRecDepth 20000 in
theorem loadF_srv (v : Value) : Instr.loadAt 62 v = loadF 62 v := rfl
set_option maxRecDepth 20000 in
theorem storeF_srv (v x : Value) : Instr.storeAt 62 v x = storeF 62 v x := rfl
set_option maxRecDepth 20000 in
theorem loadF_cnt (v : Value) : Instr.loadAt 56 v = loadF 56 v := rfl
/-- what a region keeps that writes one block alone, which stays whole, and what it is once it is written -/
structure RelC (r T n : Nat) (P : Array Value → World → Prop) (w w' : World) : Prop where
  k : KpS (fun i => i = r) w w'
  b : (∃ cs, Blk w r T cs ∧ cs.size = n) → ∃ cs, Blk w' r T cs ∧ cs.size = n
  p : (∃ cs, Blk w r T cs ∧ P cs w) → ∃ cs, Blk w' r T cs ∧ P cs w'
def KeepP (r : Nat) (P : Array Value → World → Prop) : Prop := ∀ cs w w', P cs w → KpS (fun i => i = r) w w' → P cs w'
section
variable {r T n : Nat} {P : Array Value → World → Prop}
set_option maxRecDepth 20000 in
theorem RelC.mo (K : KeepP r P) {w w' : World} (h : Mo w w') : RelC r T n P w w' := ⟨KpS.of_mo h, fun ⟨cs, b, s⟩ => ⟨cs, h.blk b, s⟩, fun ⟨cs, b, s⟩ => ⟨cs, h.blk b, K _ _ _ s (KpS.of_mo h)⟩⟩
set_option maxRecDepth 20000 in
theorem RelC.refl (r T n : Nat) (P : Array Value → World → Prop) (w : World) : RelC r T n P w w := ⟨KpS.refl _ w, fun h => h, fun h => h⟩
set_option maxRecDepth 20000 in
theorem RelC.trans {a b c : World} (h : RelC r T n P a b) (k : RelC r T n P b c) : RelC r T n P a c := ⟨h.k.trans k.k fun _ _ e => e, fun q => k.b (h.b q), fun q => k.p (h.p q)⟩
set_option maxRecDepth 20000 in
theorem RelC.row (K : KeepP r P) {w : World} {cs : Array Value} (b : Blk w r T cs) (cs' : Array Value) (h : cs'.size = n) (q : P cs' w) : RelC r T n P w (w.setRow r cs') := ⟨kpS_setRow w r cs' rfl, fun _ => ⟨cs', blk_setRow b, h⟩, fun _ => ⟨cs', blk_setRow b, K _ _ _ q (kpS_setRow w r cs' rfl)⟩⟩
set_option maxRecDepth 20000 in
theorem RelC.blk {w w' : World} (h : RelC r T n P w w') {g : Nat} {t : TypeId} {cs : Array Value} (b : Blk w g t cs) (ne : g ≠ r) : Blk w' g t cs := h.k.blk b ne
end
set_option maxRecDepth 20000 in
theorem own_past {r : Nat} {w w' : World} (h : KpS (fun i => i = r) w w') {b t s m : Nat} {v : Value} {xs : List Value} (o : w.ownsRow b t s v m xs) (hb : r < b) : w'.ownsRow b t s v m xs := own_kpS o h fun g hg e => by
  rcases o.2 with ⟨e', _⟩ | ⟨g', _, _, e', hb', _⟩
  · rw [e'] at hg; simp [Value.ownBlock] at hg
  · rw [e'] at hg
    have e2 : g' = g := by simpa [Value.ownBlock] using hg
    omega
set_option maxRecDepth 20000 in
theorem RelC.own {r T n : Nat} {P : Array Value → World → Prop} {w w' : World} (h : RelC r T n P w w') {b t s m : Nat} {v : Value} {xs : List Value} (o : w.ownsRow b t s v m xs) (hb : r < b) : w'.ownsRow b t s v m xs := own_past h.k o hb
end Go.Proofs.Ythgkhllkhhnlpaa
