/- law33: truth.cover. -/
import Derived.Test.YtdgmcgfkammioaaTruN
import Derived.Maps.AppendAt
import Derived.BigRegion
namespace Go.Proofs.Ytdgmcgfkammioaa
open Go.RowKit

set_option maxRecDepth 20000 in
theorem ret_iv {fn : Func} {p u : Tmp} {R : Ending → World → Prop} {a : Act} {w : World} (hr : fn.results = #[.cell p 97, .tmp u]) (g : Nat) (t : TypeId) (cs : Array Value) (hp : a.tmps.getD p undef = .pointer (some ⟨g, 0, none⟩)) (hd : a.defers = []) (b : Blk w g t cs) (z : cs.size = 2)
    (hR : R (.returned (.tuple #[.agg cs, a.tmps.getD u undef])) w) : bodyPost Try.prog fn R .ret a w :=
  ret_cell_tmp hr g (.agg cs) hp hd (run_loadVar_row w g t 97 cs (0, 0) _ b.out Try.underlying97 rfl (by rw [z]; kernel_rfl)) hR
/-- no two rows in one block -/
def Sep (v u : Value) : Prop := ∀ k, v.ownBlock = some k → u.ownBlock ≠ some k
/-- what stays while the rows grow -/
structure CovSt (W : World) (b : Nat) (m : Nat) (q : Nat) (lo hi : Int) (vH : Value) (w : World) : Prop where
  bM : Blk w b 3 #[.int .i64 m]
  bR : Blk w (b + 1) 97 #[.int .i64 0, .int .i64 0]
  bH : Blk w (b + 1 + 1) 66 #[vH]
  bX : Blk w q 97 #[.int .i64 lo, .int .i64 hi]
  mo : Mo W w
set_option maxRecDepth 20000 in
theorem CovSt.keep {W : World} {b m q : Nat} {lo hi : Int} {vH : Value} {w w' : World} (h : CovSt W b m q lo hi vH w) (k : Mo w w') : CovSt W b m q lo hi vH w' := ⟨k.blk h.bM, k.blk h.bR, k.blk h.bH, k.blk h.bX, h.mo.trans k⟩
set_option maxRecDepth 20000 in
theorem blk_grownBy {w w' : World} {base e n k : Nat} {t : TypeId} {v : Value} {xs : List Value} {cs : Array Value} (h : Blk w k t cs) (o : w.ownsRow base e 1 v n xs) (g : w.grownBy w' v.ownBlock) (ne : t ≠ e) : Blk w' k t cs := by
  refine ⟨(g.block k h.lt fun q => ?_).trans h.out⟩
  rcases o.2 with ⟨e0, _⟩ | ⟨g', cap, cur, e0, _, hg, _⟩
  · rw [e0] at q; simp [Value.ownBlock] at q
  · rw [e0] at q
    obtain rfl : k = g' := by simpa [Value.ownBlock] using q
    have := h.out.symm.trans hg
    simp at this
    exact ne this.2
set_option maxRecDepth 20000 in
theorem CovSt.grown {W : World} {b m q n : Nat} {lo hi : Int} {vH v : Value} {w w' : World} {xs : List Value} (h : CovSt W b m q lo hi vH w) (o : w.ownsRow W.heap.size 2 1 v n xs) (g : w.grownBy w' v.ownBlock) : CovSt W b m q lo hi vH w' :=
  ⟨blk_grownBy h.bM o g (by decide), blk_grownBy h.bR o g (by decide), blk_grownBy h.bH o g (by decide), blk_grownBy h.bX o g (by decide), mo_grown h.mo g fun k e => (o.lt k e).1⟩
set_option maxRecDepth 20000 in
theorem CovSt.cells {W : World} {b m q : Nat} {lo hi : Int} {vH : Value} {w : World} (h : CovSt W b m q lo hi vH w) : w.cell? ⟨q, 0, none⟩ = some (.int .i64 lo) ∧ w.cell? ⟨q, 1, none⟩ = some (.int .i64 hi) ∧ w.cell? ⟨b + 1 + 1, 0, none⟩ = some vH :=
  ⟨by rw [blk_cell h.bX]; rfl, by rw [blk_cell h.bX]; rfl, by rw [blk_cell h.bH]; rfl⟩
set_option maxRecDepth 20000 in
theorem i64L_snoc (xs : List Int) (x : Int) : i64L (xs ++ [x]) = i64L xs ++ [.int .i64 x] := by unfold i64L; rw [List.map_append]; rfl
set_option maxRecDepth 20000 in
theorem owns_sep {w w' : World} {base e n : Nat} {v u : Value} {xs : List Value} (h : w.ownsRow base e 1 u n xs) (g : w.grownBy w' v.ownBlock) (s : ∀ k, u.ownBlock = some k → v.ownBlock ≠ some k) : w'.ownsRow base e 1 u n xs := by
  refine ⟨h.1, ?_⟩
  rcases h.2 with q | ⟨g', cap, cur, rfl, hb, hg, rest⟩
  · exact .inl q
  · exact .inr ⟨g', cap, cur, rfl, hb, (g.block g' (Array.getElem?_eq_some_iff.1 hg).1 (fun e => s g' rfl e.symm)).trans hg, rest⟩
set_option maxRecDepth 20000 in
/-- the law of an append to an own row, at a step of a region that draws; where the row lies behind it -/
theorem step_own2 {P : Program} {w : World} {ops : Array Oper} {o : Oper} {a : Act} {K : Act → World → Prop} {Q : Exit → Act → World → Prop} {E : Prop} (hgd : o.guard = none) (s x : Operand) (t : TypeId)
    (ho : o.op = .call { callee := .builtin .append, args := #[s, x], argTypes := #[t, t] })
    (base : Nat) (e : TypeId) (i : TypeInfo) (z : Value) (size bytes : Nat) (ht : P.underlying t = some (.slice e)) (hi : P.info? e = some i) (hz : i.zero = some z)
    (hsize : i.size = size) (hby : i.bytes = bytes) (hzs : z.cells.size = size) (hsz : 0 < size)
    (v : Value) (n : Nat) (xs : List Value) (hs : a.eval s = v) (hown : w.ownsRow base e size v n xs)
    (ad : Addr) (m c : Nat) (news : List Value) (hx : a.eval x = .slice (some ad) m c) (hl : news.length = m * size) (hnews : ∀ j u, news[j]? = some u → w.cell? (ad.add j) = some u) (h1 : ∀ u ∈ news, u.oneCell' = true)
    (h63 : n + m ≤ maxLen) (hbytes : (n + m) * bytes ≤ 140737488355328) (hbase : base ≤ w.heap.size)
    (h : ∀ v' w', w'.ownsRow base e size v' (n + m) (xs ++ news) → w.grownBy w' v.ownBlock → (v'.ownBlock = v.ownBlock ∨ v'.ownBlock = some w.heap.size) → K (a.put o.dst v') w') :
    if Region.wanted o (yielded ops a.tmps) = true then Oper.wp P o a w K Q else E := by
  have hw : Region.wanted o (yielded ops a.tmps) = true := by simp [Region.wanted, hgd]
  rw [if_pos hw]
  obtain ⟨v', w', hr, h2, h3, _, h4⟩ := run_append_own_at (P := P) w base t o.type e i z size bytes ht hi hz hsize hby hzs hsz v n xs hown ad m c news hl hnews h1 h63 hbytes hbase
  unfold Oper.wp execOp
  simp only [ho, resolve, invoke, builtin, Sem.run_bind, Sem.run_pure, Result.andThen_ok, List.map_toArray, List.map_cons, List.map_nil, hs, hx, hr]
  exact h v' w' h2 h3 h4
set_option maxRecDepth 20000 in
theorem news_of_blk {w : World} {g : Nat} {t : TypeId} {cs : Array Value} (h : Blk w g t cs) (l : List Value) (hl : l = cs.toList) : ∀ j u, l[j]? = some u → w.cell? ((⟨g, 0, none⟩ : Addr).add j) = some u := by
  intro j u hj
  have e : (⟨g, 0, none⟩ : Addr).add j = ⟨g, j, none⟩ := by rw [Addr.add_mid, Nat.zero_add]
  rw [e, blk_cell h, ← Array.getElem?_toList, ← hl]
  exact hj
set_option maxRecDepth 20000 in
/-- a block that was laid behind the row stays where the row grows -/
theorem blk_far {w0 w w' : World} {base e n g : Nat} {t : TypeId} {v : Value} {xs : List Value} {cs : Array Value} (b : Blk w g t cs) (o : w0.ownsRow base e 1 v n xs) (gr : w.grownBy w' v.ownBlock) (h : w0.heap.size ≤ g) : Blk w' g t cs :=
  ⟨(gr.block g b.lt fun q => by have := (o.lt g q.symm).2; omega).trans b.out⟩
set_option maxRecDepth 20000 in
theorem sep_new {v v' u : Value} {k0 : Nat} (s : Sep v u) (h : v'.ownBlock = v.ownBlock ∨ v'.ownBlock = some k0) (hu : ∀ k, u.ownBlock = some k → k < k0) : Sep v' u := by
  intro k hk q
  rcases h with h | h
  · exact s k (by rw [← h]; exact hk) q
  · have := hu k q
    rw [h] at hk
    injection hk with hk
    omega
set_option maxRecDepth 20000 in
theorem sep_new2 {v u u' : Value} {k0 : Nat} (s : Sep v u) (h : u'.ownBlock = u.ownBlock ∨ u'.ownBlock = some k0) (hv : ∀ k, v.ownBlock = some k → k < k0) : Sep v u' := by
  intro k hk q
  rcases h with h | h
  · exact s k hk (by rw [← h]; exact q)
  · have := hv k hk
    rw [h] at q
    injection q with q
    omega
set_option maxRecDepth 20000 in
theorem row_succT {w : World} {base : Nat} {e : TypeId} {sz n : Nat} {v : Value} {xs : List Value} (h : w.ownsRow base e sz v (n + 1) xs) : ∃ g c, v = .slice (some ⟨g, 0, none⟩) (n + 1) c := by
  rcases h.2 with ⟨_, e0⟩ | ⟨g, cap, cur, e0, _⟩
  · omega
  · exact ⟨g, cap, e0⟩
/-- what the first loop keeps -/
structure Rows2 (W : World) (l : List Iv) (m j : Nat) (v6 vH : Value) (w : World) : Prop where
  o6 : w.ownsRow W.heap.size 2 1 v6 j (i64L ((l.take j).map (·.lo)))
  oH : w.ownsRow W.heap.size 2 1 vH j (i64L ((l.take j).map (·.hi)))
  sep : Sep v6 vH
  bM : Blk w W.heap.size 3 #[.int .i64 m]
  bR : Blk w (W.heap.size + 1) 97 #[.int .i64 0, .int .i64 0]
  bH : Blk w (W.heap.size + 1 + 1) 66 #[vH]
  mo : Mo W w
set_option maxRecDepth 20000 in
theorem owns_setCell_ne {w : World} {b s n R : Nat} {e t : TypeId} {v : Value} {xs : List Value} {cs : Array Value} (h : w.ownsRow b e s v n xs) (k : Blk w R t cs) (ne : t ≠ e) (i : Nat) (u : Value) : (w.setCell ⟨R, i, none⟩ u).ownsRow b e s v n xs := owns_setCell_blk h k ne i u
set_option maxRecDepth 20000 in
theorem fin_round {W : World} {l : List Iv} {m j q : Nat} {lo hi : Int} {vH v6 u : Value} {w : World} (s1 : (l.take (j + 1)).map (·.lo) = (l.take j).map (·.lo) ++ [lo]) (s2 : (l.take (j + 1)).map (·.hi) = (l.take j).map (·.hi) ++ [hi])
    (s : CovSt W W.heap.size m q lo hi vH w) (o6 : w.ownsRow W.heap.size 2 1 v6 (j + 1) (i64L ((l.take j).map (·.lo)) ++ [.int .i64 lo])) (oH : w.ownsRow W.heap.size 2 1 u (j + 1) (i64L ((l.take j).map (·.hi)) ++ [.int .i64 hi])) (p : Sep v6 u) :
    Rows2 W l m (j + 1) v6 u (w.setCell ⟨W.heap.size + 1 + 1, 0, none⟩ u) :=
  ⟨by rw [s1, i64L_snoc]; exact owns_setCell_ne o6 s.bH (by decide) 0 u, by rw [s2, i64L_snoc]; exact owns_setCell_ne oH s.bH (by decide) 0 u, p, blk_setCell_ne s.bM (by omega) 0 u, blk_setCell_ne s.bR (by omega) 0 u, blk_setCell s.bH 0 u, mo_setCell s.mo (by omega) 0 u⟩
def app64 (ats : Array TypeId) (ty : TypeId) (args : Array Value) : Sem Value := Builtin.append_ ats ty args
set_option maxRecDepth 20000 in
theorem app64_fold (ats : Array TypeId) (ty : TypeId) (args : Array Value) : Builtin.append_ ats ty args = app64 ats ty args := rfl
set_option maxRecDepth 20000 in
theorem i64_get {L : List Int} {i : Nat} (h : i < L.length) : (i64L L)[i]? = some (.int .i64 L[i]) := by
  unfold i64L
  rw [List.getElem?_map, List.getElem?_eq_getElem h]
  rfl
set_option maxRecDepth 20000 in
theorem own_far {w w' : World} {base e n g c : Nat} {xs : List Int} {S : Nat → Prop} (o : w.ownsRow base e 1 (.slice (some ⟨g, 0, none⟩) n c) n (i64L xs)) (h : KpS S w w') (ns : ¬ S g) (hg : g < w.heap.size) : ∀ (j : Nat) u, (i64L xs)[j]? = some u → w'.cell? ⟨g, j, none⟩ = some u := by
  intro j u hj
  have h1 := own_cell64 o j u hj
  rw [Nat.zero_add] at h1
  rw [← h1]
  unfold World.cell?
  rw [h.block g hg ns]
set_option maxRecDepth 20000 in
theorem row_keep {w w' : World} {base n g c gE gH gM gF gO hh nn cc m e : Nat} {f : Bool} {lo hi : Int} {xs : List Int} (o : w.ownsRow base 2 1 (.slice (some ⟨g, 0, none⟩) n c) n (i64L xs)) (N : NoteW w gE gH gM gF gO hh nn cc m e f lo hi) (h : KpS (fun i => i = gE ∨ i = gF ∨ i = gO) w w') :
    ∀ (j : Nat) u, (i64L xs)[j]? = some u → w'.cell? ⟨g, j, none⟩ = some u := by
  rcases o.2 with ⟨q, _⟩ | ⟨g', cap, cur, q, hb, hg, rest⟩
  · cases q
  · injection q with q1 _ q3
    injection q1 with q1
    injection q1 with q1
    subst q1 q3
    have B : Blk w g 2 cur := ⟨hg⟩
    refine own_far o h ?_ B.lt
    rintro (rfl | rfl | rfl)
    · exact blk_type_ne B N.bE (by decide) rfl
    · exact blk_type_ne B N.bF (by decide) rfl
    · exact blk_type_ne B N.bO (by decide) rfl
attribute [local go_sem ↓] app64_fold
attribute [local go_sem] blk_cell' blk_frozen'
set_option maxRecDepth 20000 in
set_option maxHeartbeats 8000000 in
theorem cover_any (l : List Iv) (A : Option Addr) (c : Nat) (m : Nat) (W : World) (hR : IvRow W A l) (hl : l.length ≤ 65536) (h0 : 0 < l.length) (hm : 0 < m) (hm2 : m ≤ 65536) (hy : MayL l) (hb : ∀ x ∈ l, -9223372036854775808 ≤ x.lo ∧ x.hi ≤ 9223372036854775807) :
    Calls Try.prog 62 #[.slice A l.length c, .int .i64 m] W fun e w' => (∃ o, IsAgr l m o ∧ e = .returned (.tuple #[.agg (ivC (ivO o)), .bool o.isSome])) ∧ Mo W w' := by
  have HR := Lib.hid hR
  have HY := Lib.hid hy
  have HBD := Lib.hid hb
  clear hR hy hb
  obtain ⟨N, hN⟩ : ∃ N, l.length = N := ⟨_, rfl⟩
  have HN := Lib.hid hN
  rw [hN] at hl h0 ⊢
  clear hN
  obtain ⟨i0, hi0, hz0, hz1, hz2⟩ := info_parts info64
  go_enter Try.func62, Try.ntmps62
  go_wp2_with fail
  go_loopw [6, 21] (fun v6 i wr => ∃ (j : Nat) (vH : Value), j ≤ N ∧ i = .int .i64 j ∧ Rows2 W l m j v6 vH wr) (fun _ i _ => N - (intOf i).toNat)
  case atStart => exact ⟨0, .slice none 0 0, by omega, rfl, ⟨rfl, .inl ⟨rfl, rfl⟩⟩, ⟨rfl, .inl ⟨rfl, rfl⟩⟩, fun k h => by simp [Value.ownBlock] at h, inferInstance, inferInstance, inferInstance, Mor.out⟩
  case round =>
    obtain ⟨j, vH, hj, rfl, o6, oH, hS, bM, bR, bH, hM⟩ := hrel
    by_cases cj : j < N
    · have hjl : j < l.length := by rw [HN.out]; exact cj
      obtain ⟨g, off, rfl, hc⟩ := (HR.out.mo hM).resolve_left (fun e => by rw [e] at hjl; simp at hjl)
      obtain ⟨y0, y1⟩ := hc j hjl
      clear hc
      have z0 : LtW g wr := LtW.of_cell y0
      have e0 : (0 : Int) ≤ j := by omega
      have e1 : (j : Int) < N := by omega
      have HS := Lib.hid (take_snoc l j hjl)
      obtain ⟨lo, elo⟩ : ∃ x, l[j].lo = x := ⟨_, rfl⟩
      obtain ⟨hi, ehi⟩ : ∃ x, l[j].hi = x := ⟨_, rfl⟩
      have S1 : Hid ((l.take (j + 1)).map (·.lo) = (l.take j).map (·.lo) ++ [lo]) := Lib.hid (by rw [HS.out, List.map_append, ← elo]; rfl)
      have S2 : Hid ((l.take (j + 1)).map (·.hi) = (l.take j).map (·.hi) ++ [hi]) := Lib.hid (by rw [HS.out, List.map_append, ← ehi]; rfl)
      rw [elo] at y0
      rw [ehi] at y1
      clear elo ehi hjl HS
      go_upto_region 5 with (fail)
      refine wp_name ?_
      intro wq hwq
      have SQ : CovSt W W.heap.size m wr.heap.size lo hi vH wq := by rw [hwq]; exact ⟨inferInstance, inferInstance, inferInstance, inferInstance, hM.trans Mor.out⟩
      have O1 : wq.ownsRow W.heap.size 2 1 u6 j (i64L ((l.take j).map (·.lo))) := by rw [hwq]; exact owns_mo o6 Mor.out
      have O2 : wq.ownsRow W.heap.size 2 1 vH j (i64L ((l.take j).map (·.hi))) := by rw [hwq]; exact owns_mo oH Mor.out
      clear hwq o6 oH bM bR bH y0 y1 z0 hM
      obtain ⟨q9, hq9⟩ : ∃ q, wr.heap.size = q := ⟨_, rfl⟩
      rw [hq9] at SQ ⊢
      clear hq9 wr
      obtain ⟨y0, y1, y2⟩ := SQ.cells
      have qX := SQ.bX
      have qH := SQ.bH
      have hsz := SQ.mo.size
      have LQ := SQ.bX.lt
      have SP := Lib.hid hS
      have ML := Lib.hid (show ∀ k, u6.ownBlock = some k → k < wq.heap.size from fun k e => (O1.lt k e).2)
      have MH := Lib.hid (show ∀ k, vH.ownBlock = some k → k < wq.heap.size from fun k e => (O2.lt k e).2)
      clear hS
      obtain ⟨va1, wa1, hruna1, Oa1, Ga1, -, Qa1⟩ := run_append_own_at (P := Try.prog) ((wq.alloc (.cells #[.int .i64 lo] 2)).drew) W.heap.size 66 66 2 i0 (.int .i64 0) 1 8 Try.underlying66 hi0 hz0 hz1 hz2 rfl (by decide) _ _ _ (owns_mo O1 (Mor.out : Mo wq ((wq.alloc (.cells #[.int .i64 lo] 2)).drew))) ⟨wq.heap.size, 0, none⟩ 1 1 [.int .i64 lo] rfl (news_of_blk (inferInstance : Blk ((wq.alloc (.cells #[.int .i64 lo] 2)).drew) wq.heap.size 2 #[.int .i64 lo]) _ rfl) (by simp [Value.oneCell']) (by unfold maxLen; omega) (by omega) (by simp; omega)
      replace hruna1 : (app64 #[66, 66] 66 #[u6, .slice (some ⟨wq.heap.size, 0, none⟩) 1 1]).run Try.prog ((wq.alloc (.cells #[.int .i64 lo] 2)).drew) = .ok va1 wa1 := hruna1
      have Sa1 := (SQ.keep (Mor.out : Mo wq ((wq.alloc (.cells #[.int .i64 lo] 2)).drew))).grown (owns_mo O1 Mor.out) Ga1
      have Ra1 := owns_sep (owns_mo O2 (Mor.out : Mo wq ((wq.alloc (.cells #[.int .i64 lo] 2)).drew))) Ga1 (fun k e1 e2 => SP.out k e2 e1)
      have Pa1 : Sep va1 vH := sep_new SP.out Qa1 (fun k e => by have := MH.out k e; simp; omega)
      have Xa1 := Sa1.bX
      have Ha1 := Sa1.bH
      obtain ⟨vb1, wb1, hrunb1, Ob1, Gb1, -, Qb1⟩ := run_append_own_at (P := Try.prog) (wa1.alloc (.cells #[.int .i64 hi] 2)) W.heap.size 66 66 2 i0 (.int .i64 0) 1 8 Try.underlying66 hi0 hz0 hz1 hz2 rfl (by decide) _ _ _ (owns_mo Ra1 (Mor.out : Mo wa1 (wa1.alloc (.cells #[.int .i64 hi] 2)))) ⟨wa1.heap.size, 0, none⟩ 1 1 [.int .i64 hi] rfl (news_of_blk (inferInstance : Blk (wa1.alloc (.cells #[.int .i64 hi] 2)) wa1.heap.size 2 #[.int .i64 hi]) _ rfl) (by simp [Value.oneCell']) (by unfold maxLen; omega) (by omega) (by have := Sa1.mo.size; simp; omega)
      obtain ⟨gb1, cb1, rfl⟩ := row_succT Ob1
      replace hrunb1 : (app64 #[66, 66] 66 #[vH, .slice (some ⟨wa1.heap.size, 0, none⟩) 1 1]).run Try.prog (wa1.alloc (.cells #[.int .i64 hi] 2)) = .ok (.slice (some ⟨gb1, 0, none⟩) (j + 1) cb1) wb1 := hrunb1
      have Sb1 := (Sa1.keep (Mor.out : Mo wa1 (wa1.alloc (.cells #[.int .i64 hi] 2)))).grown (owns_mo Ra1 (Mor.out : Mo wa1 (wa1.alloc (.cells #[.int .i64 hi] 2)))) Gb1
      have Rb1 := owns_sep (owns_mo Oa1 (Mor.out : Mo wa1 (wa1.alloc (.cells #[.int .i64 hi] 2)))) Gb1 (fun k e1 e2 => Pa1 k e1 e2)
      have Pb1 : Sep va1 (.slice (some ⟨gb1, 0, none⟩) (j + 1) cb1) := sep_new2 Pa1 Qb1 (fun k e => by have := (Oa1.lt k e).2; simp; omega)
      have Xb1 := Sb1.bX
      have Hb1 := Sb1.bH
      have FF1 := Lib.hid (fin_round S1.out S2.out Sb1 Rb1 Ob1 Pb1)
      clear Ga1 Gb1 Qa1 Qb1 Sa1 Sb1 Ra1 Rb1 Oa1 Ob1 Pa1 Pb1
      obtain ⟨va2, wa2, hruna2, Oa2, Ga2, -, Qa2⟩ := run_append_own_at (P := Try.prog) (((wq.alloc (.cells #[.int .i64 lo] 2)).alloc (.cells #[.int .i64 hi] 2)).drew) W.heap.size 66 66 2 i0 (.int .i64 0) 1 8 Try.underlying66 hi0 hz0 hz1 hz2 rfl (by decide) _ _ _ (owns_mo O1 (Mor.out : Mo wq (((wq.alloc (.cells #[.int .i64 lo] 2)).alloc (.cells #[.int .i64 hi] 2)).drew))) ⟨wq.heap.size, 0, none⟩ 1 1 [.int .i64 lo] rfl (news_of_blk (inferInstance : Blk (((wq.alloc (.cells #[.int .i64 lo] 2)).alloc (.cells #[.int .i64 hi] 2)).drew) wq.heap.size 2 #[.int .i64 lo]) _ rfl) (by simp [Value.oneCell']) (by unfold maxLen; omega) (by omega) (by simp; omega)
      replace hruna2 : (app64 #[66, 66] 66 #[u6, .slice (some ⟨wq.heap.size, 0, none⟩) 1 1]).run Try.prog (((wq.alloc (.cells #[.int .i64 lo] 2)).alloc (.cells #[.int .i64 hi] 2)).drew) = .ok va2 wa2 := hruna2
      have Sa2 := (SQ.keep (Mor.out : Mo wq (((wq.alloc (.cells #[.int .i64 lo] 2)).alloc (.cells #[.int .i64 hi] 2)).drew))).grown (owns_mo O1 Mor.out) Ga2
      have Ra2 := owns_sep (owns_mo O2 (Mor.out : Mo wq (((wq.alloc (.cells #[.int .i64 lo] 2)).alloc (.cells #[.int .i64 hi] 2)).drew))) Ga2 (fun k e1 e2 => SP.out k e2 e1)
      have Pa2 : Sep va2 vH := sep_new SP.out Qa2 (fun k e => by have := MH.out k e; simp; omega)
      have Xa2 := Sa2.bX
      have Ha2 := Sa2.bH
      obtain ⟨vb2, wb2, hrunb2, Ob2, Gb2, -, Qb2⟩ := run_append_own_at (P := Try.prog) wa2 W.heap.size 66 66 2 i0 (.int .i64 0) 1 8 Try.underlying66 hi0 hz0 hz1 hz2 rfl (by decide) _ _ _ Ra2 ⟨(wq.heap.size + 1), 0, none⟩ 1 1 [.int .i64 hi] rfl (news_of_blk (blk_far (inferInstance : Blk (((wq.alloc (.cells #[.int .i64 lo] 2)).alloc (.cells #[.int .i64 hi] 2)).drew) (wq.heap.size + 1) 2 #[.int .i64 hi]) O1 Ga2 (by omega)) _ rfl) (by simp [Value.oneCell']) (by unfold maxLen; omega) (by omega) (by have := Sa2.mo.size; omega)
      obtain ⟨gb2, cb2, rfl⟩ := row_succT Ob2
      replace hrunb2 : (app64 #[66, 66] 66 #[vH, .slice (some ⟨(wq.heap.size + 1), 0, none⟩) 1 1]).run Try.prog wa2 = .ok (.slice (some ⟨gb2, 0, none⟩) (j + 1) cb2) wb2 := hrunb2
      have Sb2 := Sa2.grown Ra2 Gb2
      have Rb2 := owns_sep Oa2 Gb2 (fun k e1 e2 => Pa2 k e1 e2)
      have Pb2 : Sep va2 (.slice (some ⟨gb2, 0, none⟩) (j + 1) cb2) := sep_new2 Pa2 Qb2 (fun k e => (Oa2.lt k e).2)
      have Xb2 := Sb2.bX
      have Hb2 := Sb2.bH
      have FF2 := Lib.hid (fin_round S1.out S2.out Sb2 Rb2 Ob2 Pb2)
      clear Ga2 Gb2 Qa2 Qb2 Sa2 Sb2 Ra2 Rb2 Oa2 Ob2 Pa2 Pb2
      obtain ⟨va3, wa3, hruna3, Oa3, Ga3, -, Qa3⟩ := run_append_own_at (P := Try.prog) (((wq.alloc (.cells #[.int .i64 hi] 2)).alloc (.cells #[.int .i64 lo] 2)).drew) W.heap.size 66 66 2 i0 (.int .i64 0) 1 8 Try.underlying66 hi0 hz0 hz1 hz2 rfl (by decide) _ _ _ (owns_mo O1 (Mor.out : Mo wq (((wq.alloc (.cells #[.int .i64 hi] 2)).alloc (.cells #[.int .i64 lo] 2)).drew))) ⟨(wq.heap.size + 1), 0, none⟩ 1 1 [.int .i64 lo] rfl (news_of_blk (inferInstance : Blk (((wq.alloc (.cells #[.int .i64 hi] 2)).alloc (.cells #[.int .i64 lo] 2)).drew) (wq.heap.size + 1) 2 #[.int .i64 lo]) _ rfl) (by simp [Value.oneCell']) (by unfold maxLen; omega) (by omega) (by simp; omega)
      replace hruna3 : (app64 #[66, 66] 66 #[u6, .slice (some ⟨(wq.heap.size + 1), 0, none⟩) 1 1]).run Try.prog (((wq.alloc (.cells #[.int .i64 hi] 2)).alloc (.cells #[.int .i64 lo] 2)).drew) = .ok va3 wa3 := hruna3
      have Sa3 := (SQ.keep (Mor.out : Mo wq (((wq.alloc (.cells #[.int .i64 hi] 2)).alloc (.cells #[.int .i64 lo] 2)).drew))).grown (owns_mo O1 Mor.out) Ga3
      have Ra3 := owns_sep (owns_mo O2 (Mor.out : Mo wq (((wq.alloc (.cells #[.int .i64 hi] 2)).alloc (.cells #[.int .i64 lo] 2)).drew))) Ga3 (fun k e1 e2 => SP.out k e2 e1)
      have Pa3 : Sep va3 vH := sep_new SP.out Qa3 (fun k e => by have := MH.out k e; simp; omega)
      have Xa3 := Sa3.bX
      have Ha3 := Sa3.bH
      obtain ⟨vb3, wb3, hrunb3, Ob3, Gb3, -, Qb3⟩ := run_append_own_at (P := Try.prog) wa3 W.heap.size 66 66 2 i0 (.int .i64 0) 1 8 Try.underlying66 hi0 hz0 hz1 hz2 rfl (by decide) _ _ _ Ra3 ⟨wq.heap.size, 0, none⟩ 1 1 [.int .i64 hi] rfl (news_of_blk (blk_far (inferInstance : Blk (((wq.alloc (.cells #[.int .i64 hi] 2)).alloc (.cells #[.int .i64 lo] 2)).drew) wq.heap.size 2 #[.int .i64 hi]) O1 Ga3 (by omega)) _ rfl) (by simp [Value.oneCell']) (by unfold maxLen; omega) (by omega) (by have := Sa3.mo.size; omega)
      obtain ⟨gb3, cb3, rfl⟩ := row_succT Ob3
      replace hrunb3 : (app64 #[66, 66] 66 #[vH, .slice (some ⟨wq.heap.size, 0, none⟩) 1 1]).run Try.prog wa3 = .ok (.slice (some ⟨gb3, 0, none⟩) (j + 1) cb3) wb3 := hrunb3
      have Sb3 := Sa3.grown Ra3 Gb3
      have Rb3 := owns_sep Oa3 Gb3 (fun k e1 e2 => Pa3 k e1 e2)
      have Pb3 : Sep va3 (.slice (some ⟨gb3, 0, none⟩) (j + 1) cb3) := sep_new2 Pa3 Qb3 (fun k e => (Oa3.lt k e).2)
      have Xb3 := Sb3.bX
      have Hb3 := Sb3.bH
      have FF3 := Lib.hid (fin_round S1.out S2.out Sb3 Rb3 Ob3 Pb3)
      clear Ga3 Gb3 Qa3 Qb3 Sa3 Sb3 Ra3 Rb3 Oa3 Ob3 Pa3 Pb3
      go_region
      all_goals (go_wp2_with fail; go_roundw)
      all_goals first
        | exact ⟨j + 1, _, by omega, by go_num, FF1.out⟩
        | exact ⟨j + 1, _, by omega, by go_num, FF2.out⟩
        | exact ⟨j + 1, _, by omega, by go_num, FF3.out⟩
        | (simp [intOf]; omega)
    · obtain rfl : j = N := by omega
      obtain ⟨k, rfl⟩ : ∃ k, j = k + 1 := ⟨j - 1, by omega⟩
      obtain ⟨g6, c6, rfl⟩ := row_succT o6
      obtain ⟨g7, c7, rfl⟩ := row_succT oH
      have ek : l.take (k + 1) = l := List.take_of_length_le (by rw [HN.out]; exact Nat.le_refl _)
      rw [ek] at o6 oH
      obtain ⟨L0, hL0⟩ : ∃ L, l.map (·.lo) = L := ⟨_, rfl⟩
      obtain ⟨H0, hH0⟩ : ∃ H, l.map (·.hi) = H := ⟨_, rfl⟩
      have lL : L0.length = k + 1 := by rw [← hL0, List.length_map]; exact HN.out
      have lH : H0.length = k + 1 := by rw [← hH0, List.length_map]; exact HN.out
      have CV : Hid (Cov l (sortL L0) (sortL H0)) := Lib.hid (by rw [← hL0, ← hH0]; exact Cov.ex HY.out)
      rw [hL0] at o6
      rw [hH0] at oH
      have SA := Lib.hid (fun w (M : Mo wr w) => sorted_any W.heap.size g6 (k + 1) c6 L0 w lL hl (owns_mo o6 M))
      have SB := Lib.hid (fun w (M : Mo wr w) => sorted_any W.heap.size g7 (k + 1) c7 H0 w lH hl (owns_mo oH M))
      clear o6 oH hS ek hL0 hH0 cj hj
      go_upto_region 7 with (fail)
      go_cut [6] (fun s6 wx => ∃ gL cL gH cH, s6 = .slice (some ⟨gL, 0, none⟩) (k + 1) cL ∧ wx.ownsRow W.heap.size 2 1 (.slice (some ⟨gL, 0, none⟩) (k + 1) cL) (k + 1) (i64L (sortL L0)) ∧
        wx.ownsRow W.heap.size 2 1 (.slice (some ⟨gH, 0, none⟩) (k + 1) cH) (k + 1) (i64L (sortL H0)) ∧ Blk wx W.heap.size 3 #[.int .i64 m] ∧ Blk wx (W.heap.size + 1) 97 #[.int .i64 0, .int .i64 0] ∧
        Blk wx (W.heap.size + 1 + 1) 66 #[.slice (some ⟨gH, 0, none⟩) (k + 1) cH] ∧ Mo W wx)
      case first =>
        go_region_with (first
          | ((with_reducible refine (SA.out _ Mor.out).mono ?_); rintro e w1 ⟨hL, cL, rfl, OL, hgL, M1⟩; have N1 := (Mor.out : Mo wr _).trans M1; have iN1 : Mor wr w1 := ⟨N1⟩; have bH1 := N1.blk bH)
          | ((with_reducible refine (SB.out _ Mor.out).mono ?_); rintro e w2 ⟨hH, cH, rfl, OH, hgH, M2⟩; have N2 := N1.trans ((Mor.out : Mo w1 _).trans M2); have bH2 := N2.blk bH))
        all_goals (
          go_wp2_with fail
          go_meet
          exact ⟨hL, cL, hH, cH, rfl, owns_setCell_ne (owns_base (owns_mo OL ((Mor.out : Mo w1 _).trans M2)) hM.size) bH2 (by decide) 0 _, owns_setCell_ne (owns_base OH (Nat.le_trans hM.size N1.size)) bH2 (by decide) 0 _,
            blk_setCell_ne (N2.blk bM) (by omega) 0 _, blk_setCell_ne (N2.blk bR) (by omega) 0 _, blk_setCell bH2 0 _, mo_setCell (hM.trans N2) (by omega) 0 _⟩)
      obtain ⟨gL, cL, gH, cH, rfl, OL, OH, cM, cR, cH', MC⟩ := hcut
      clear SA SB bM bR bH hM
      obtain ⟨L, hL⟩ : ∃ L, sortL L0 = L := ⟨_, rfl⟩
      obtain ⟨H, hH⟩ : ∃ H, sortL H0 = H := ⟨_, rfl⟩
      have nL : L.length = k + 1 := by rw [← hL, sortL_length]; exact lL
      have nH : H.length = k + 1 := by rw [← hH, sortL_length]; exact lH
      rw [hL, hH] at CV
      rw [hL] at OL
      rw [hH] at OH
      clear hL hH lL lH
      obtain ⟨K, hK⟩ : ∃ K, k + 1 = K := ⟨_, rfl⟩
      rw [hK] at h0 hl HN nL nH OL OH cH' ⊢
      clear hK
      go_upto_region 11 with (fail)
      refine wp_name ?_
      intro w0 hw0
      have NW : NoteW w0 (wc.heap.size + 1 + 1) (W.heap.size + 1 + 1) W.heap.size (wc.heap.size + 1) wc.heap.size gH K cH m 0 false 0 0 := by rw [hw0]; exact ⟨inferInstance, inferInstance, inferInstance, inferInstance, inferInstance⟩
      have dR : Blk w0 (W.heap.size + 1) 97 #[.int .i64 0, .int .i64 0] := by rw [hw0]; infer_instance
      have M0 : Mo W w0 := by rw [hw0]; exact MC.trans Mor.out
      have PL : w0.ownsRow W.heap.size 2 1 (.slice (some ⟨gL, 0, none⟩) K cL) K (i64L L) := by rw [hw0]; exact owns_mo OL Mor.out
      have PH : w0.ownsRow W.heap.size 2 1 (.slice (some ⟨gH, 0, none⟩) K cH) K (i64L H) := by rw [hw0]; exact owns_mo OH Mor.out
      have SZ := MC.size
      have LC : wc.heap.size < w0.heap.size := NW.bO.lt
      have LB := cH'.lt
      clear hw0 OL OH cM cR cH' MC
      obtain ⟨gO, hgO⟩ : ∃ g, wc.heap.size = g := ⟨_, rfl⟩
      rw [hgO] at NW SZ LC LB ⊢
      clear hgO wc
      have HLc := Lib.hid (fun w (h : KpS (fun i => i = gO + 1 + 1 ∨ i = gO + 1 ∨ i = gO) w0 w) => row_keep PL NW h)
      have HHc := Lib.hid (fun w (h : KpS (fun i => i = gO + 1 + 1 ∨ i = gO + 1 ∨ i = gO) w0 w) => row_keep PH NW h)
      clear PL PH
      go_wp2_with fail
      go_loopw [44] (fun s wr => ∃ (i e : Nat) (f : Bool) (lo hi : Int), i ≤ K ∧ s = .int .i64 i ∧ Noted l L m i f lo hi ∧ (∀ j (hj : j < L.length), i ≤ j → e ≤ ended H L[j]) ∧
        NoteW wr (gO + 1 + 1) (W.heap.size + 1 + 1) W.heap.size (gO + 1) gO gH K cH m e f lo hi ∧ KpS (fun i => i = gO + 1 + 1 ∨ i = gO + 1 ∨ i = gO) w0 wr) (fun s _ => K - (intOf s).toNat)
      case atStart => exact ⟨0, 0, false, 0, 0, by omega, rfl, noted_start _ _ _, fun _ _ _ => Nat.zero_le _, NW, KpS.refl _ _⟩
      case round =>
        obtain ⟨i, e, f, lo, hi, hi', rfl, hno, hen, hnw, hkp⟩ := hrel
        have HNO := Lib.hid hno
        have HEN := Lib.hid hen
        have HNW := Lib.hid hnw
        have HKP := Lib.hid hkp
        clear hno hen hnw hkp
        by_cases ci : i < K
        · have hil : i < L.length := by rw [nL]; exact ci
          have y0 := HLc.out wr HKP.out i _ (i64_get hil)
          have e0 : (0 : Int) ≤ i := by omega
          have e1 : (i : Int) < K := by omega
          have wi : IntKind.i64.wrap ((i : Int) + 1) = i + 1 := by rw [IntKind.wrap_i64]; omega
          by_cases cl : i + 1 = K
          · have b1 : ((i : Int) + 1 == (K : Int)) = true := by simp; omega
            have HB : Hid (∀ k : i + 1 < L.length, L[i] < L[i + 1]) := Lib.hid fun k => absurd k (by omega)
            have hb := begun_last CV.out.sL hil HB.out
            have hd := CV.out.had L[i]
            have hE : ∀ j (hj : j < L.length), i + 1 ≤ j → ended H (L[i]'hil) ≤ ended H L[j] := fun j hj q => ended_mono H (sorted_le CV.out.sL (show i ≤ j by omega) hj)
            have NT := note_any (gO + 1 + 1) (W.heap.size + 1 + 1) W.heap.size (gO + 1) gO gH K cH m e (i + 1) f L[i] lo hi H wr HNW.out (by omega) nH hl (by omega) CV.out.sH (HEN.out i hil (Nat.le_refl _)) (fun w q => HHc.out w (HKP.out.trans q fun _ _ q => q))
            have NL := Lib.hid (fun q => Noted.less CV.out.sL HNO.out hil q)
            have NM := Lib.hid (fun q => Noted.more CV.out.sL HNO.out hil hb q)
            obtain ⟨x, hx⟩ : ∃ x, L[i] = x := ⟨_, rfl⟩
            rw [hx] at y0 hd hE NT NL NM hb
            rw [show (((i + 1 : Nat)) : Int) = (i : Int) + 1 by omega] at NT
            have HE := Lib.hid hE
            have HD := Lib.hid hd
            have HBB := Lib.hid hb
            have NT' := Lib.hid NT
            clear hx hil hd hE hb NT HB HNO HNW HEN
            go_wp2_with fail
            refine NT'.out.mono ?_
            rintro en w' ⟨rfl, K', D⟩
            have D' := Lib.hid D
            clear D NT'
            go_wp2_with fail
            go_roundw
            case rel =>
              have d1 := HD.out
              rw [HBB.out] at d1
              rcases D'.out with ⟨d2, nw⟩ | ⟨d2, nw⟩
              · exact ⟨i + 1, ended H x, f, lo, hi, by omega, by go_num, NL.out (by omega), HE.out, nw, HKP.out.trans K' fun _ _ q => q⟩
              · exact ⟨i + 1, ended H x, true, if f then lo else x, x, by omega, by go_num, NM.out (by omega), HE.out, nw, HKP.out.trans K' fun _ _ q => q⟩
            case measure => simp [intOf]; omega
          · have b1 : ((i : Int) + 1 == (K : Int)) = false := by simp; omega
            have hil2 : i + 1 < L.length := by omega
            have y1 := HLc.out wr HKP.out (i + 1) _ (i64_get hil2)
            have e2 : (0 : Int) ≤ i + 1 := by omega
            have e3 : (i : Int) + 1 < K := by omega
            by_cases cc : L[i] < L[i + 1]
            · have HB : Hid (∀ k : i + 1 < L.length, L[i] < L[i + 1]) := Lib.hid fun _ => cc
              have b2 : decide (L[i] < L[i + 1]) = true := decide_eq_true cc
              clear cc
              have hb := begun_last CV.out.sL hil HB.out
              have hd := CV.out.had L[i]
              have hE : ∀ j (hj : j < L.length), i + 1 ≤ j → ended H (L[i]'hil) ≤ ended H L[j] := fun j hj q => ended_mono H (sorted_le CV.out.sL (show i ≤ j by omega) hj)
              have NT := note_any (gO + 1 + 1) (W.heap.size + 1 + 1) W.heap.size (gO + 1) gO gH K cH m e (i + 1) f L[i] lo hi H wr HNW.out (by omega) nH hl (by omega) CV.out.sH (HEN.out i hil (Nat.le_refl _)) (fun w q => HHc.out w (HKP.out.trans q fun _ _ q => q))
              have NL := Lib.hid (fun q => Noted.less CV.out.sL HNO.out hil q)
              have NM := Lib.hid (fun q => Noted.more CV.out.sL HNO.out hil hb q)
              obtain ⟨x, hx⟩ : ∃ x, L[i] = x := ⟨_, rfl⟩
              obtain ⟨x2, hx2⟩ : ∃ x, L[i + 1] = x := ⟨_, rfl⟩
              rw [hx2, hx] at b2
              rw [hx2] at y1
              clear hx2 hil2
              rw [hx] at y0 hd hE NT NL NM hb
              rw [show (((i + 1 : Nat)) : Int) = (i : Int) + 1 by omega] at NT
              have HE := Lib.hid hE
              have HD := Lib.hid hd
              have HBB := Lib.hid hb
              have NT' := Lib.hid NT
              clear hx hil hd hE hb NT HB HNO HNW HEN
              go_wp2_with fail
              refine NT'.out.mono ?_
              rintro en w' ⟨rfl, K', D⟩
              have D' := Lib.hid D
              clear D NT'
              go_wp2_with fail
              go_roundw
              case rel =>
                have d1 := HD.out
                rw [HBB.out] at d1
                rcases D'.out with ⟨d2, nw⟩ | ⟨d2, nw⟩
                · exact ⟨i + 1, ended H x, f, lo, hi, by omega, by go_num, NL.out (by omega), HE.out, nw, HKP.out.trans K' fun _ _ q => q⟩
                · exact ⟨i + 1, ended H x, true, if f then lo else x, x, by omega, by go_num, NM.out (by omega), HE.out, nw, HKP.out.trans K' fun _ _ q => q⟩
              case measure => simp [intOf]; omega
            · have b2 : decide (L[i] < L[i + 1]) = false := decide_eq_false cc
              have NS := Lib.hid (HNO.out.skip CV.out.sL hil2 (by omega))
              obtain ⟨x, hx⟩ : ∃ x, L[i] = x := ⟨_, rfl⟩
              obtain ⟨x2, hx2⟩ : ∃ x, L[i + 1] = x := ⟨_, rfl⟩
              rw [hx2, hx] at b2
              rw [hx2] at y1
              rw [hx] at y0
              clear hx hx2 hil hil2 cc HNO
              go_wp2_with fail
              go_roundw
              case rel => exact ⟨i + 1, e, f, lo, hi, by omega, by go_num, NS.out, fun j hj q => HEN.out j hj (by omega), HNW.out, HKP.out⟩
              case measure => simp [intOf]; omega
        · obtain rfl : i = K := by omega
          have MR : Mo W wr := HKP.out.mo M0 (fun k _ q => by omega)
          have dR' : Blk wr (W.heap.size + 1) 97 #[.int .i64 0, .int .i64 0] := HKP.out.blk dR (by omega)
          obtain ⟨nE, nH', nM, nF, nO⟩ := HNW.out
          cases f with
          | false =>
            have HA := Lib.hid (noted_none CV.out (m := m) (by rw [nL]; exact HNO.out))
            go_wp2_with fail
            refine ret_iv Try.results62 (W.heap.size + 1) _ #[.int .i64 0, .int .i64 0] rfl rfl (blk_setCell (blk_setCell dR' 0 _) 1 _) rfl ?_
            exact ⟨⟨none, HA.out, rfl⟩, mo_setCell (mo_setCell MR (by omega) 0 _) (by omega) 1 _⟩
          | true =>
            obtain ⟨hmB, hj, ha⟩ := noted_some CV.out hm (by rw [nL]; exact HNO.out)
            have HA0 := Lib.hid ha
            clear ha
            have hBl : begun L hi ≤ i := by rw [← nL]; exact begun_le _ _
            have hmem := (HNO.out.highs rfl).1
            obtain ⟨x, hx, ex⟩ := CV.out.low hmem
            have b1 := HBD.out x hx
            have b2 := HY.out x hx
            have hcell : ∀ j, j < L.length → wr.cell? ⟨gL, 0 + j, none⟩ = some (.int .i64 (L.getD j 0)) := fun j hj => by
              rw [Nat.zero_add, HLc.out wr HKP.out j _ (i64_get hj)]
              simp [List.getD, List.getElem?_eq_getElem hj]
            by_cases cm : hi = 9223372036854775807
            · have BI : begun L hi = i := by
                unfold begun
                rw [← nL, List.countP_eq_length]
                intro y hy
                obtain ⟨z, hz, ez⟩ := CV.out.low hy
                have q1 := HBD.out z hz
                have q2 := HY.out z hz
                simp
                omega
              have HSE := Lib.hid (search64_any gL i cL L (-9223372036854775808) wr nL hl hcell CV.out.sL)
              subst cm
              obtain ⟨D, hDD⟩ : ∃ D, begun L 9223372036854775807 - m = D := ⟨_, rfl⟩
              have hD : D < H.length := by rw [← hDD]; exact hj
              have HA : Hid (IsAgr l m (some ⟨lo, H[D]⟩)) := Lib.hid (by have := HA0.out; simp only [hDD] at this; exact this)
              rw [BI] at hDD hmB
              obtain ⟨B, hB⟩ : ∃ B, i = B := ⟨_, rfl⟩
              clear hcell hx ex b1 b2 hmem HA0 hj BI hBl
              have wD : IntKind.i64.wrap ((i : Int) - m) = D := by rw [IntKind.wrap_i64]; omega
              have yD := HHc.out wr HKP.out D _ (i64_get hD)
              obtain ⟨h9, eh9⟩ : ∃ h, H[D] = h := ⟨_, rfl⟩
              rw [eh9] at yD HA
              have dD0 : (0 : Int) ≤ D := by omega
              have dD1 : (D : Int) < i := by omega
              clear eh9 hD B hB
              go_wp2_with fail
              rw [show wrap64 9223372036854775808 = -9223372036854775808 by kernel_rfl]
              refine HSE.out.mono ?_
              rintro e w2 ⟨⟨bb, rfl⟩, q, rfl⟩
              go_wp2_with fail
              refine ret_iv Try.results62 (W.heap.size + 1) _ #[.int .i64 lo, .int .i64 h9] rfl rfl (blk_setCell (blk_setCell (blk_setCell_ne (inferInstance : Blk (wr.drewN q) (W.heap.size + 1) 97 #[.int .i64 0, .int .i64 0]) (by omega) 1 _) 0 _) 1 _) rfl ?_
              exact ⟨⟨_, HA.out, rfl⟩, mo_drewN (mo_setCell (mo_setCell (mo_setCell MR (by omega) 1 _) (by omega) 0 _) (by omega) 1 _) q⟩
            · have hlt : hi < 9223372036854775807 := by omega
              have HSE := Lib.hid (search64_any gL i cL L (hi + 1) wr nL hl hcell CV.out.sL)
              have wm : IntKind.i64.wrap (hi + 1) = hi + 1 := by rw [IntKind.wrap_i64]; omega
              have cmb : (hi == 9223372036854775807) = false := by simp; omega
              have ec : L.countP (fun y => decide (y < hi + 1)) = begun L hi := by
                unfold begun
                congr 1
                funext a
                simp [Int.lt_add_one_iff]
              rw [ec] at HSE
              obtain ⟨B, hB⟩ : ∃ B, begun L hi = B := ⟨_, rfl⟩
              obtain ⟨D, hDD⟩ : ∃ D, begun L hi - m = D := ⟨_, rfl⟩
              have hD : D < H.length := by rw [← hDD]; exact hj
              have HA : Hid (IsAgr l m (some ⟨lo, H[D]⟩)) := Lib.hid (by have := HA0.out; simp only [hDD] at this; exact this)
              rw [hB] at HSE hDD hmB hBl
              clear hcell hx ex b1 b2 hmem HA0 hj ec hB cm
              have wD : IntKind.i64.wrap ((B : Int) - m) = D := by rw [IntKind.wrap_i64]; omega
              have yD := HHc.out wr HKP.out D _ (i64_get hD)
              obtain ⟨h9, eh9⟩ : ∃ h, H[D] = h := ⟨_, rfl⟩
              rw [eh9] at yD HA
              have dD0 : (0 : Int) ≤ D := by omega
              have dD1 : (D : Int) < i := by omega
              clear eh9 hD
              go_wp2_with fail
              refine HSE.out.mono ?_
              rintro e w2 ⟨⟨bb, rfl⟩, q, rfl⟩
              go_wp2_with fail
              refine ret_iv Try.results62 (W.heap.size + 1) _ #[.int .i64 lo, .int .i64 h9] rfl rfl (blk_setCell (blk_setCell (blk_setCell_ne (inferInstance : Blk (wr.drewN q) (W.heap.size + 1) 97 #[.int .i64 0, .int .i64 0]) (by omega) 1 _) 0 _) 1 _) rfl ?_
              exact ⟨⟨_, HA.out, rfl⟩, mo_drewN (mo_setCell (mo_setCell (mo_setCell MR (by omega) 1 _) (by omega) 0 _) (by omega) 1 _) q⟩
end Go.Proofs.Ytdgmcgfkammioaa
