/- epoch: a maker, and what it tells, in memory; the closure of told. -/
import Derived.Test.YtdgmcgfkammioaaEpS
import Derived.Test.YtdgmcgfkammioaaTruG
import Derived.Test.YtdgmcgfkammioaaOpen33
import Derived.Test.YtdgmcgfkammioaaFlat3
import Derived.RangeFuncBox
import Derived.Maps.AppendAt
import Derived.BigRegion
namespace Go.Proofs.Ytdgmcgfkammioaa
open Go.RowKit Go.Maps

set_option maxRecDepth 20000 in
instance row_ep : RowT 38 7 := ⟨by kernel_rfl, by kernel_rfl⟩
set_option maxRecDepth 20000 in
instance row_mk : RowT 54 5 := ⟨by kernel_rfl, by kernel_rfl⟩
/-- the block is none of this type -/
def NoT (t : TypeId) (W : World) (i : Nat) : Prop := ∀ cs f, W.heap[i]? ≠ some (.cells cs t f)
set_option maxRecDepth 20000 in
theorem noT_blk {t t' : TypeId} {W : World} {i : Nat} {cs : Array Value} (h : Blk W i t' cs) (ne : t' ≠ t) : NoT t W i := fun cs' f e => by
  rw [h.out] at e
  injection e with e
  injection e with _ e _
  exact ne e
set_option maxRecDepth 20000 in
theorem noT_map {t : TypeId} {W : World} {i : Nat} (h : ∃ es clock, W.heap[i]? = some (.map es clock)) : NoT t W i := fun cs' f e => by
  obtain ⟨es, clock, h⟩ := h
  rw [h] at e
  cases e
/-- ints in a block of ints -/
def IntT (w : World) (A : Option Addr) (xs : List Int) : Prop := xs = [] ∨ ∃ g off cs, A = some ⟨g, off, none⟩ ∧ Blk w g 3 cs ∧ ∀ j (h : j < xs.length), cs[off + j]? = some (.int .i64 xs[j])
set_option maxRecDepth 20000 in
theorem IntT.row {w : World} {A : Option Addr} {xs : List Int} (h : IntT w A xs) : IntRow w A xs := by
  rcases h with h | ⟨g, off, cs, e, hb, hc⟩
  · exact .inl h
  · exact .inr ⟨g, off, e, fun j hj => by rw [blk_cell hb]; exact hc j hj⟩
set_option maxRecDepth 20000 in
theorem IntT.kp {S : Nat → Prop} {w w' : World} {A : Option Addr} {xs : List Int} (h : IntT w A xs) (k : KpS S w w') (s : ∀ g, S g → NoT 3 w g) : IntT w' A xs := by
  rcases h with h | ⟨g, off, cs, e, hb, hc⟩
  · exact .inl h
  · exact .inr ⟨g, off, cs, e, k.blk hb fun q => s g q cs _ hb.out, hc⟩
set_option maxRecDepth 20000 in
theorem IntT.mo {w w' : World} {A : Option Addr} {xs : List Int} (h : IntT w A xs) (k : Mo w w') : IntT w' A xs := by
  rcases h with h | ⟨g, off, cs, e, hb, hc⟩
  · exact .inl h
  · exact .inr ⟨g, off, cs, e, k.blk hb, hc⟩
set_option maxRecDepth 20000 in
theorem IntT.setRow {w : World} {A : Option Addr} {xs : List Int} (h : IntT w A xs) {g : Nat} {t : TypeId} {cs : Array Value} (b : Blk w g t cs) (ne : t ≠ 3) (cs' : Array Value) : IntT (w.setRow g cs') A xs := by
  rcases h with h | ⟨q, off, ds, e, hb, hc⟩
  · exact .inl h
  · refine .inr ⟨q, off, ds, e, blk_setRow_ne hb fun e2 => ?_, hc⟩
    subst e2
    have := b.out.symm.trans hb.out
    simp at this
    exact ne this.2
set_option maxRecDepth 20000 in
theorem IntT.nil (w : World) (A : Option Addr) : IntT w A [] := .inl rfl
set_option maxRecDepth 20000 in
theorem own_intT {w : World} {base n : Nat} {v : Value} {xs : List Int} (h : w.ownsRow base 3 1 v n (i64L xs)) (hn : xs.length = n) : ∃ A c, v = .slice A n c ∧ IntT w A xs := by
  have hr := h
  rcases h.2 with ⟨rfl, rfl⟩ | ⟨g, cap, cur, rfl, hb, hg, rest⟩
  · exact ⟨none, 0, rfl, .inl (List.eq_nil_of_length_eq_zero hn)⟩
  · refine ⟨_, _, rfl, .inr ⟨g, 0, cur, rfl, ⟨hg⟩, fun j hj => ?_⟩⟩
    have h1 := own_cell64 hr j (.int .i64 xs[j]) (by unfold i64L; rw [List.getElem?_map, List.getElem?_eq_getElem hj]; rfl)
    rw [Nat.zero_add] at h1 ⊢
    rwa [blk_cell (⟨hg⟩ : Blk w g 3 cur)] at h1
/-- what is told of an epoch, in memory -/
def EpF (w : World) (E : Ep) (v : Value) : Prop := ∃ A c B d, v = .agg #[.int .i64 E.num, .slice A E.srv.length c, .bool E.maj, .int .i64 E.lo, .int .i64 E.hi, .int .i64 (E.fl : Nat), .slice B E.tr.length d] ∧ IntT w A (natI E.srv) ∧ IntT w B (natI E.tr)
set_option maxRecDepth 20000 in
theorem EpF.kp {S : Nat → Prop} {w w' : World} {E : Ep} {v : Value} (h : EpF w E v) (k : KpS S w w') (s : ∀ g, S g → NoT 3 w g) : EpF w' E v := by
  obtain ⟨A, c, B, d, e, h1, h2⟩ := h
  exact ⟨A, c, B, d, e, h1.kp k s, h2.kp k s⟩
set_option maxRecDepth 20000 in
theorem EpF.mo {w w' : World} {E : Ep} {v : Value} (h : EpF w E v) (k : Mo w w') : EpF w' E v := by
  obtain ⟨A, c, B, d, e, h1, h2⟩ := h
  exact ⟨A, c, B, d, e, h1.mo k, h2.mo k⟩
set_option maxRecDepth 20000 in
theorem EpF.zero (w : World) : EpF w ep0 (.agg #[.int .i64 0, .slice none 0 0, .bool false, .int .i64 0, .int .i64 0, .int .i64 0, .slice none 0 0]) := ⟨none, 0, none, 0, rfl, .inl rfl, .inl rfl⟩
/-- a maker -/
structure MkS where
  wd : Int
  sv : Nat
  some : Bool
  num : Int
  f : BestF
structure MkIs (W : World) (M B : Nat) (m : MkS) : Prop where
  bm : Blk W M 54 #[.int .i64 m.wd, .int .i64 (m.sv : Nat), .bool m.some, .int .i64 m.num, .map (some B)]
  b : BestIs W B m.sv m.f
  s0 : 1 ≤ m.sv
  s1 : m.sv ≤ 256
  w0 : 1 ≤ m.wd
  w1 : m.wd ≤ 1152921504606846976
  ok : ∀ s x, m.f s = Option.some x → Is64 x.1 ∧ Is64 x.2
set_option maxRecDepth 20000 in
theorem MkIs.ne {W : World} {M B : Nat} {m : MkS} (h : MkIs W M B m) : M ≠ B := fun e => by
  obtain ⟨es, clock, hb⟩ := h.b.isMap
  have := h.bm.out
  rw [e, hb] at this
  cases this
set_option maxRecDepth 20000 in
theorem MkIs.noM {W : World} {M B : Nat} {m : MkS} {t : TypeId} (h : MkIs W M B m) (ne : 54 ≠ t) : ∀ g, g = M ∨ g = B → NoT t W g := by
  rintro g (rfl | rfl)
  · exact noT_blk h.bm ne
  · exact noT_map h.b.isMap
set_option maxRecDepth 20000 in
theorem MkIs.keep {W w : World} {M B : Nat} {m : MkS} (h : MkIs W M B m) (k : ∀ g, g = M ∨ g = B → w.heap[g]? = W.heap[g]?) : MkIs w M B m :=
  ⟨⟨(k M (.inl rfl)).trans h.bm.out⟩, h.b.keep (k B (.inr rfl)), h.s0, h.s1, h.w0, h.w1, h.ok⟩
set_option maxRecDepth 20000 in
theorem MkIs.mo {W w : World} {M B : Nat} {m : MkS} (h : MkIs W M B m) (k : Mo W w) : MkIs w M B m := h.keep fun g q => by
  rcases q with rfl | rfl
  · exact k.below.block _ h.bm.lt
  · exact k.below.block _ h.b.lt
set_option maxRecDepth 20000 in
theorem MkIs.kp {S : Nat → Prop} {W w : World} {M B : Nat} {m : MkS} (h : MkIs W M B m) (k : KpS S W w) (nM : ¬ S M) (nB : ¬ S B) : MkIs w M B m := h.keep fun g q => by
  rcases q with rfl | rfl
  · exact k.block _ h.bm.lt nM
  · exact k.block _ h.b.lt nB
/-! ### returns -/
set_option maxRecDepth 20000 in
theorem resV_c {fn : Func} {p : Tmp} {ty : TypeId} (h : fn.results = #[.cell p ty]) (tmps : Array Value) (P : Program) (w : World) :
    (results fn tmps).run P w = ((asAddr (tmps.getD p undef)).run P w).andThen fun a w₁ => (loadVar ty a).run P w₁ := by
  simp only [results, h]
  simp [Sem.run_bind, Result.andThen]
set_option maxRecDepth 20000 in
theorem resV_ctt {fn : Func} {p s u : Tmp} {ty : TypeId} (h : fn.results = #[.cell p ty, .tmp s, .tmp u]) (tmps : Array Value) (P : Program) (w : World) :
    (results fn tmps).run P w = ((asAddr (tmps.getD p undef)).run P w).andThen fun a w₁ => ((loadVar ty a).run P w₁).andThen fun v w₂ => .ok (.tuple #[v, tmps.getD s undef, tmps.getD u undef]) w₂ := by
  simp only [results, h]
  simp [Sem.run_bind, Result.andThen]
set_option maxRecDepth 20000 in
theorem retV_c {fn : Func} {p : Tmp} {T : TypeId} {R : Ending → World → Prop} {a : Act} {w : World} (hr : fn.results = #[.cell p T]) (g : Nat) (cs : Array Value) (hp : a.tmps.getD p undef = .pointer (some ⟨g, 0, none⟩)) (hd : a.defers = []) {n : Nat} [h : RowT T n] (z : cs.size = n) (b : Blk w g T cs)
    (hR : R (.returned (.agg cs)) w) : bodyPost Try.prog fn R .ret a w :=
  bodyPost_ret (v := .agg cs) (by
    rw [resV_c hr, hp]
    have e : (asAddr (.pointer (some ⟨g, 0, none⟩))).run Try.prog w = .ok (⟨g, 0, none⟩ : Addr) w := rfl
    rw [e, Result.andThen_ok, loadVar_flat T b z]) hd hR
set_option maxRecDepth 20000 in
theorem retV_ct {fn : Func} {p s : Tmp} {T : TypeId} {R : Ending → World → Prop} {a : Act} {w : World} (hr : fn.results = #[.cell p T, .tmp s]) (g : Nat) (cs : Array Value) (hp : a.tmps.getD p undef = .pointer (some ⟨g, 0, none⟩)) (hd : a.defers = []) {n : Nat} [h : RowT T n] (z : cs.size = n) (b : Blk w g T cs)
    (hR : R (.returned (.tuple #[.agg cs, a.tmps.getD s undef])) w) : bodyPost Try.prog fn R .ret a w := ret_cell_tmp hr g _ hp hd (loadVar_flat T b z) hR
set_option maxRecDepth 20000 in
theorem retV_ctt {fn : Func} {p s u : Tmp} {T : TypeId} {R : Ending → World → Prop} {a : Act} {w : World} (hr : fn.results = #[.cell p T, .tmp s, .tmp u]) (g : Nat) (cs : Array Value) (hp : a.tmps.getD p undef = .pointer (some ⟨g, 0, none⟩)) (hd : a.defers = []) {n : Nat} [h : RowT T n] (z : cs.size = n) (b : Blk w g T cs)
    (hR : R (.returned (.tuple #[.agg cs, a.tmps.getD s undef, a.tmps.getD u undef])) w) : bodyPost Try.prog fn R .ret a w :=
  bodyPost_ret (v := .tuple #[.agg cs, a.tmps.getD s undef, a.tmps.getD u undef]) (by
    rw [resV_ctt hr, hp]
    have e : (asAddr (.pointer (some ⟨g, 0, none⟩))).run Try.prog w = .ok (⟨g, 0, none⟩ : Addr) w := rfl
    rw [e, Result.andThen_ok, loadVar_flat T b z, Result.andThen_ok]) hd hR
set_option maxRecDepth 20000 in
theorem natI_snoc35 (xs : List Nat) (k : Nat) : i64L (natI (xs ++ [k])) = i64L (natI xs) ++ [.int .i64 (k : Int)] := by
  unfold i64L natI
  rw [List.map_append, List.map_append]
  rfl
set_option maxRecDepth 20000 in
theorem KpS.grown35 {S : Nat → Prop} {a b b' : World} {row : Option Nat} (h : KpS S a b) (g : b.grownBy b' row) (s : ∀ k, row = some k → a.heap.size ≤ k) : KpS S a b' :=
  ⟨g.os.trans h.os, g.tape.trans h.tape, g.output.trans h.output, Nat.le_trans h.size g.size, fun k hk n => (g.block k (Nat.lt_of_lt_of_le hk h.size) fun e => by
    have := s k e.symm
    omega).trans (h.block k hk n)⟩
set_option maxRecDepth 20000 in
theorem KpS.drew35 {S : Nat → Prop} {a b : World} (h : KpS S a b) : KpS S a b.drew := ⟨h.os, h.tape, h.output, h.size, h.block⟩
set_option maxRecDepth 20000 in
theorem owns_set35 {w : World} {b s n R : Nat} {e : TypeId} {v : Value} {xs : List Value} (h : w.ownsRow b e s v n xs) (ne : some R ≠ v.ownBlock) (i : Nat) (u : Value) : (w.setCell ⟨R, i, none⟩ u).ownsRow b e s v n xs := by
  refine ⟨h.1, ?_⟩
  rcases h.2 with q | ⟨g, cap, cur, rfl, hb, hg, rest⟩
  · exact .inl q
  · refine .inr ⟨g, cap, cur, rfl, hb, (heap_setCell_other w ⟨R, i, none⟩ g u (fun e => ne ?_)).trans hg, rest⟩
    have e' : g = R := e
    rw [e']
    rfl
/-! ### the closure of told -/
def app35 (ats : Array TypeId) (ty : TypeId) (args : Array Value) : Sem Value := Builtin.append_ ats ty args
set_option maxRecDepth 20000 in
theorem app35_fold (ats : Array TypeId) (ty : TypeId) (args : Array Value) : Builtin.append_ ats ty args = app35 ats ty args := rfl
attribute [local go_sem ↓] app35_fold
attribute [local go_sem] blk_cell' blk_frozen'
set_option maxRecDepth 20000 in
set_option maxHeartbeats 4000000 in
theorem add35_any (g n : Nat) (T : Value) (tr srv : List Nat) (A : Option Addr) (k nS cS : Nat) (num lo hi fl : Value) (mj : Value) (V W : World) (hB : Blk W g 38 #[num, .slice A nS cS, mj, lo, hi, fl, T]) (hS : IntT W A (natI srv)) (hnS : srv.length = nS) (hk : k < nS) (ho : W.ownsRow V.heap.size 3 1 T n (i64L (natI tr))) (hn : n ≤ 1000) (hK : KpS (fun i => i = g) V W) (hg : g < V.heap.size) :
    Calls Try.prog 41 #[.int .i64 (k : Int), .pointer (some ⟨g, 0, none⟩)] W fun e w' => e = .returned (.tuple #[]) ∧ ∃ T', Blk w' g 38 #[num, .slice A nS cS, mj, lo, hi, fl, T'] ∧ w'.ownsRow V.heap.size 3 1 T' (n + 1) (i64L (natI (tr ++ [srv.getD k 0]))) ∧ KpS (fun i => i = g) V w' := by
  have hkl : k < srv.length := by rw [hnS]; exact hk
  obtain ⟨gS, off, e0, hc⟩ := hS.row.resolve_left (fun e => by have h0 := congrArg List.length e; rw [natI_length] at h0; have h1 : srv.length = 0 := h0; omega)
  subst e0
  have y := hc k (by rw [natI_length]; exact hkl)
  obtain ⟨x, hx⟩ : ∃ x, srv.getD k 0 = x := ⟨_, rfl⟩
  have ex : (natI srv)[k]'(by rw [natI_length]; exact hkl) = (x : Int) := by
    rw [← hx, List.getD_eq_getElem?_getD, List.getElem?_eq_getElem hkl]
    unfold natI
    rw [List.getElem_map]
    rfl
  rw [ex] at y
  rw [hx]
  have z : LtW gS W := LtW.of_cell y
  have i0 : (0 : Int) ≤ k := by omega
  have i1 : (k : Int) < nS := by omega
  obtain ⟨tb, hib, hb0, hb1, hb2⟩ := info_parts infoInt
  have yT : W.cell? ⟨g, 6, none⟩ = some T := by rw [blk_cell hB]; rfl
  have hT := (Mor.out : Mo W ((W.alloc (.cells #[.int .i64 (x : Int)] 3)).drew))
  obtain ⟨v4, w4, hrun, hown4, hgrow4, -, -⟩ := run_append_own_at (P := Try.prog) ((W.alloc (.cells #[.int .i64 (x : Int)] 3)).drew) V.heap.size 36 36 3 tb (.int .i64 0) 1 8 Try.underlying36 hib hb0 hb1 hb2 rfl (by decide) _ _ _ (owns_mo ho hT) ⟨W.heap.size, 0, none⟩ 1 1 [.int .i64 (x : Int)] rfl (news_of_blk (g := W.heap.size) (t := 3) (cs := #[.int .i64 (x : Int)]) inferInstance _ rfl) (by intro u hu; simp at hu; subst hu; rfl) (by unfold maxLen; omega) (by omega) (Nat.le_trans hK.size hT.size)
  replace hrun : (app35 #[36, 36] 36 #[T, .slice (some ⟨W.heap.size, 0, none⟩) 1 1]).run Try.prog _ = .ok v4 w4 := hrun
  obtain ⟨g4, c4, rfl⟩ := ownsRow_succ hown4
  have gne : some g ≠ T.ownBlock := fun e => by
    have := (ho.lt g e.symm).1
    omega
  have hB4 : Blk w4 g 38 #[num, .slice (some ⟨gS, off, none⟩) nS cS, mj, lo, hi, fl, T] := ⟨(hgrow4.block g (by have := hB.lt; simp; omega) gne).trans (inferInstance : Blk ((W.alloc (.cells #[.int .i64 (x : Int)] 3)).drew) g 38 #[num, .slice (some ⟨gS, off, none⟩) nS cS, mj, lo, hi, fl, T]).out⟩
  rw [← natI_snoc35] at hown4
  have K4 : KpS (fun i => i = g) V w4 := by
    refine (hK.trans (KpS.of_mo hT) fun _ _ q => q).grown35 hgrow4 fun j e => ?_
    exact (ho.lt j e).1
  have hR := Lib.hid (owns_set35 hown4 (R := g) (fun e => by have := (hown4.lt g e.symm).1; omega) 6 (.slice (some ⟨g4, 0, none⟩) (n + 1) c4))
  have hB5 := Lib.hid (blk_setCell hB4 6 (.slice (some ⟨g4, 0, none⟩) (n + 1) c4))
  have HK := Lib.hid (K4.cell rfl 6 (.slice (some ⟨g4, 0, none⟩) (n + 1) c4))
  clear hown4 hgrow4 gne hT hib hb0 hb1 hb2 K4 ho hK hS hc hx ex
  go_enter Try.func41, Try.ntmps41
  go_region
  go_wp2_with fail
  go_end0
  exact ⟨rfl, _, hB5.out, hR.out, HK.out⟩
end Go.Proofs.Ytdgmcgfkammioaa
