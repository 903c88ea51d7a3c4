/- ext.Take: the fields of a tail, and its MAC. -/
import Derived.Test.YtofbhkodnijkjaaExtC
import Derived.Test.YtofbhkodnijkjaaExtB
import Derived.Test.YtofbhkodnijkjaaInRound
namespace Go.Proofs.Ytofbhkodnijkjaa
open Go.RowKit Go.Shelf
attribute [local go_sem] Oper.semAt_some
set_option maxRecDepth 20000 in
theorem walk_any (A : Option Addr) (n cap : Nat) (W : World) : Calls Try.prog 32 #[.slice A n cap] W fun e w' => e = .returned (.func (.func 45) #[] #[.pointer (some ⟨W.heap.size, 0, none⟩)]) ∧ W.alloc (.cells #[.slice A n cap] 31) = w' := by
  go_enter Try.func32, Try.ntmps32
  go_wp2_with fail
  go_ret
  exact ⟨rfl, rfl⟩
set_option maxRecDepth 20000 in
theorem walk_seq (n Bn : Nat) (V w : World) (A : Option Addr) (cap m : Nat) (bs : List Int) (hm : bs.length = m) (hb : ByteS V A cap bs) (hV : Mo V w) (hBn : Boxed w Bn 31 (.slice A m cap)) :
    SeqP Fence.wide n Try.prog 45 #[.pointer (some ⟨Bn, 0, none⟩)] itmV (KpB V.heap.size Bn) (PxW V bs) (fun xs => xs.map Itm.fe = parse bs 0) (fun pre => ∃ r, pre.map Itm.fe ++ r = parse bs 0) (parse bs 0).length w :=
  fun l J Jx W hW hJ _ hY h0 => walk1_in n l Bn V A cap m bs hm hb J Jx hY W (hV.trans (Mo.of hW)) (boxed_mo hBn (Mo.of hW)) hJ h0
/-! ### what the loop keeps -/
def Cel (W W' : World) : Prop := W.heap.size ≤ W'.heap.size ∧ ∀ (k : Nat) (t : TypeId) (cs : Array Value) (z : Nat × Nat), W.heap[k]? = some (.cells cs t z) → W'.heap[k]? = some (.cells cs t z)
set_option maxRecDepth 20000 in
theorem ownFrom_cel {β : Type} {B : Nat} {I : β → World → Prop} (h : ∀ s W W', I s W → Cel W W' → I s W') : OwnFrom B I := fun s W W' row hs hg hr =>
  h s W W' hs ⟨hg.size, fun k t cs z hk => (hg.block k (Array.getElem?_eq_some_iff.1 hk).1 (fun e => by
    obtain ⟨_, o, ho, hc⟩ := hr k e.symm
    rw [hk] at ho
    cases ho
    cases hc)).trans hk⟩
set_option maxRecDepth 20000 in
theorem boxed_cel {W W' : World} {B : Nat} {t : TypeId} {v : Value} (h : Boxed W B t v) (k : Cel W W') : Boxed W' B t v := k.2 _ _ _ _ h
set_option maxRecDepth 20000 in
theorem owns_cel {W W' : World} {b : Nat} {e : TypeId} {size : Nat} {v : Value} {n : Nat} {xs : List Value} (h : W.ownsRow b e size v n xs) (k : Cel W W') : W'.ownsRow b e size v n xs := by
  refine ⟨h.1, ?_⟩
  rcases h.2 with hn | ⟨g, cap, cur, rfl, hb, hg, rest⟩
  · exact .inl hn
  · exact .inr ⟨g, cap, cur, rfl, hb, k.2 _ _ _ _ hg, rest⟩
set_option maxRecDepth 20000 in
/-- a row of another element type stays when a row grows -/
theorem owns_grown {w w1 : World} {b b' : Nat} {e e' : TypeId} {s s' : Nat} {v v' : Value} {n n' : Nat} {xs xs' : List Value} (h : w.ownsRow b e s v n xs) (h2 : w.ownsRow b' e' s' v' n' xs') (hne : e ≠ e') (hg : w.grownBy w1 v'.ownBlock) : w1.ownsRow b e s v n xs := by
  refine ⟨h.1, ?_⟩
  rcases h.2 with hn | ⟨g, cap, cur, rfl, hb, hh, rest⟩
  · exact .inl hn
  · refine .inr ⟨g, cap, cur, rfl, hb, (hg.block g (Array.getElem?_eq_some_iff.1 hh).1 (fun e1 => ?_)).trans hh, rest⟩
    rcases h2.2 with ⟨rfl, _⟩ | ⟨g', cap', cur', rfl, _, hh', _⟩
    · simp [Value.ownBlock] at e1
    · obtain rfl : g = g' := by simpa [Value.ownBlock] using e1
      rw [hh] at hh'
      cases hh'
      exact hne rfl
set_option maxRecDepth 20000 in
/-- a row stays when a variable of another type is stored into -/
theorem owns_set_box {w : World} {b B : Nat} {e t : TypeId} {s : Nat} {v u : Value} {n : Nat} {xs : List Value} (h : w.ownsRow b e s v n xs) (hx : Boxed w B t u) (hne : t ≠ e) (u' : Value) : (w.setCell ⟨B, 0, none⟩ u').ownsRow b e s v n xs :=
  h.kept (grownBy_setCell' w B u') (.inr (hx.not_row hne h).symm)
def endL (a : Nat) : List Fe → Nat
  | [] => a
  | f :: fs => endL (f.at_ + 4 + f.val.length) fs
set_option maxRecDepth 20000 in
theorem endL_snoc (a : Nat) (l : List Fe) (x : Fe) : endL a (l ++ [x]) = x.at_ + 4 + x.val.length := by
  induction l generalizing a with
  | nil => rfl
  | cons y ys ih => exact ih _
set_option maxRecDepth 20000 in
theorem part_len {bs : List Int} {a : Nat} (h : (nextM (bs.drop a)).1 = 2) : (((bs.drop a).drop 4).take (sz (bs.drop a) - 4)).length = sz (bs.drop a) - 4 := by
  obtain ⟨f1, f2, f3, f4, f5⟩ := nextM_field h
  rw [List.length_take, List.length_drop]
  omega
set_option maxRecDepth 20000 in
theorem parse_end (bs : List Int) : ∀ (m a : Nat), bs.length - a ≤ m → endL a (parse bs a) = endF bs a ∧ (a ≤ bs.length → endF bs a ≤ bs.length) := by
  intro m
  induction m with
  | zero =>
    intro a hm
    have h : ¬ (nextM (bs.drop a)).1 = 2 := fun h => by
      have := (nextM_field h).1
      rw [List.length_drop] at this
      omega
    rw [parse_nil h, endF_nil h]
    exact ⟨rfl, id⟩
  | succ m ih =>
    intro a hm
    by_cases h : (nextM (bs.drop a)).1 = 2
    · obtain ⟨f1, f2, f3, f4, f5⟩ := nextM_field h
      have hl := part_len h
      rw [List.length_drop] at f1 f5
      obtain ⟨i1, i2⟩ := ih (a + sz (bs.drop a)) (by omega)
      rw [parse_cons h, endF_cons h]
      refine ⟨?_, fun _ => i2 (by omega)⟩
      show endL (a + 4 + List.length _) _ = _
      rw [hl, show a + 4 + (sz (bs.drop a) - 4) = a + sz (bs.drop a) by omega]
      exact i1
    · rw [parse_nil h, endF_nil h]
      exact ⟨rfl, id⟩
def itmL (l : List Itm) : List Value := l.flatMap fun x => [.int .u16 x.fe.kind, x.u]
set_option maxRecDepth 20000 in
theorem itmL_snoc (l : List Itm) (x : Itm) : itmL (l ++ [x]) = itmL l ++ [.int .u16 x.fe.kind, x.u] := by unfold itmL; simp
structure TakeI (n₀ b2 b3 b4 b5 Bn : Nat) (sl : Value) (pre : List Itm) (W : World) : Prop where
  l : ∃ v, Boxed W b2 40 v ∧ W.ownsRow n₀ 70 2 v pre.length (itmL pre)
  m : Boxed W b3 31 (.slice none 0 0)
  c : Boxed W b4 44 (.int .i64 0)
  e : Boxed W b5 3 (.int .i64 (endL 0 (pre.map Itm.fe)))
  s : Boxed W Bn 31 sl
  own : ∀ x ∈ pre, W.ownsRow n₀ 5 1 x.u x.fe.val.length (byteL x.fe.val) ∧ ItmOk x
  le : pre.length ≤ 32
set_option maxRecDepth 20000 in
theorem TakeI.cel {n₀ b2 b3 b4 b5 Bn : Nat} {sl : Value} {pre : List Itm} {W W' : World} (h : TakeI n₀ b2 b3 b4 b5 Bn sl pre W) (k : Cel W W') : TakeI n₀ b2 b3 b4 b5 Bn sl pre W' := by
  obtain ⟨v, h1, h2⟩ := h.l
  exact ⟨⟨v, boxed_cel h1 k, owns_cel h2 k⟩, boxed_cel h.m k, boxed_cel h.c k, boxed_cel h.e k, boxed_cel h.s k, fun x hx => ⟨owns_cel (h.own x hx).1 k, (h.own x hx).2⟩, h.le⟩
structure TakeX (n₀ b2 b3 b4 : Nat) (c : Code) (pre : List Itm) (W : World) : Prop where
  ret : c = .ret
  l : Boxed W b2 40 (.slice none 0 0)
  m : Boxed W b3 31 (.slice none 0 0)
  c : Boxed W b4 44 (.int .i64 3)
  len : pre.length = 33
structure TakeA (n₀ b2 : Nat) (x : Itm) (Bx : Nat) (W : World) : Prop where
  v : ∃ v, Boxed W b2 40 v ∧ v.ownBlock ≠ some Bx
  box : W.heap[Bx]? = some (.cells #[.int .u16 x.fe.kind, x.u] 70 (0, 0))
  own : W.ownsRow n₀ 5 1 x.u x.fe.val.length (byteL x.fe.val)
  ok : ItmOk x
set_option maxRecDepth 20000 in
theorem TakeA.cel {n₀ b2 : Nat} {x : Itm} {Bx : Nat} {W W' : World} (h : TakeA n₀ b2 x Bx W) (k : Cel W W') : TakeA n₀ b2 x Bx W' := by
  obtain ⟨v, h1, h2⟩ := h.v
  exact ⟨⟨v, boxed_cel h1 k, h2⟩, k.2 _ _ _ _ h.box, owns_cel h.own k, h.ok⟩
set_option maxRecDepth 20000 in
theorem Cel.alloc (W : World) (o : Obj) : Cel W (W.alloc o) := ⟨by simp, fun k t cs z hk => (Below.heap_alloc W o k (Array.getElem?_eq_some_iff.1 hk).1).trans hk⟩
set_option maxRecDepth 20000 in
theorem infoExt : (Try.prog.info? 70).map (fun i => (i.zero, i.size, i.bytes)) = some (some (.agg #[.int .u16 0, .slice none 0 0]), 2, 32) := by kernel_rfl
/-- an append, kept whole -/
def appAny (ats : Array TypeId) (ty : TypeId) (args : Array Value) : Sem Value := Builtin.append_ ats ty args
set_option maxRecDepth 20000 in
theorem app_fold (ats : Array TypeId) (ty : TypeId) (args : Array Value) : Builtin.append_ ats ty args = appAny ats ty args := rfl
attribute [local go_sem ↓] app_fold
abbrev actT (A : Option Addr) (n cap h : Nat) (x : Itm) (Bx : Nat) : Act := { tmps := #[.slice A n cap, undef, .pointer (some ⟨h, 0, none⟩), .pointer (some ⟨h + 1, 0, none⟩), .pointer (some ⟨h + 1 + 1, 0, none⟩), .pointer (some ⟨h + 1 + 1 + 1, 0, none⟩), .int .i64 x.fe.at_, .pointer (some ⟨Bx, 0, none⟩), undef, undef, .slice A n cap, .func (.func 45) #[] #[.pointer (some ⟨h + 1 + 1 + 1 + 1, 0, none⟩)], .int .i64 x.fe.at_, .agg #[.int .u16 x.fe.kind, x.u], undef, undef, undef, undef, undef, undef, undef, undef, undef, undef, undef, undef, undef, undef, undef, undef, undef, undef, undef, undef, undef, undef, undef, undef, undef, undef, undef, undef, undef, undef, undef], defers := [] }
def takeM (bs : List Int) : List Fld × List Int × Int :=
  let l := (parse bs 0).map fun f => (⟨f.kind, f.val⟩ : Fld)
  let t := bs.drop (endF bs 0)
  if 32 < l.length then ([], [], 3) else if (nextM t).1 = 3 then ([], [], 8) else (l, if (nextM t).1 = 1 then t else [], 0)
def TakeRet (r : List Fld × List Int × Int) (W : World) (e : Ending) (w' : World) : Prop := ∃ v1 v2, e = .returned (.tuple #[v1, v2, .int .i64 r.2.2]) ∧ ExtV w' v1 r.1 ∧ ByteV w' v2 r.2.1 ∧ Mo W w'
set_option maxRecDepth 20000 in
theorem itmL_get (l : List Itm) : ∀ (i : Nat) (hi : i < l.length), (itmL l)[i * 2]? = some (.int .u16 l[i].fe.kind) ∧ (itmL l)[i * 2 + 1]? = some l[i].u := by
  induction l with
  | nil => intro i hi; simp at hi
  | cons x xs ih =>
    intro i hi
    have e : itmL (x :: xs) = .int .u16 x.fe.kind :: x.u :: itmL xs := rfl
    rw [e]
    cases i with
    | zero => exact ⟨rfl, rfl⟩
    | succ i =>
      obtain ⟨h1, h2⟩ := ih i (by simpa using hi)
      rw [show (i + 1) * 2 = i * 2 + 1 + 1 by omega, List.getElem?_cons_succ, List.getElem?_cons_succ, List.getElem?_cons_succ, List.getElem?_cons_succ]
      exact ⟨h1, h2⟩
set_option maxRecDepth 20000 in
theorem itmL_len (l : List Itm) : (itmL l).length = l.length * 2 := by
  induction l with
  | nil => rfl
  | cons x xs ih =>
    have e : itmL (x :: xs) = .int .u16 x.fe.kind :: x.u :: itmL xs := rfl
    rw [e, List.length_cons, List.length_cons, ih, List.length_cons]
    omega
abbrev fldOf (x : Fe) : Fld := ⟨x.kind, x.val⟩
set_option maxRecDepth 20000 in
theorem extV_owns {w : World} {b : Nat} {v : Value} {l : List Itm} (h : w.ownsRow b 70 2 v l.length (itmL l)) (ho : ∀ x ∈ l, w.ownsRow b 5 1 x.u x.fe.val.length (byteL x.fe.val) ∧ ItmOk x) (hl : l.length ≤ 4398046511104) : ExtV w v (l.map fun x => fldOf x.fe) := by
  rcases h.2 with ⟨rfl, h0⟩ | ⟨g, cap, cur, rfl, hbb, hg, h3, h4, h5, h6⟩
  · rw [List.eq_nil_of_length_eq_zero h0]
    exact extV_nil w
  · refine ⟨_, _, by rw [List.length_map], by rw [List.length_map]; exact h3, by rw [List.length_map]; exact hl, fun e => (by cases e), .inr ⟨g, 0, rfl, fun i hi => ?_⟩⟩
    have hi' : i < l.length := by rwa [List.length_map] at hi
    obtain ⟨k1, k2⟩ := itmL_get l i hi'
    obtain ⟨o1, o2⟩ := ho _ (List.getElem_mem hi')
    have hB : Blk w g 70 cur := ⟨hg⟩
    have hll := itmL_len l
    rw [List.getElem_map]
    refine ⟨?_, o2.kl, o2.ku, l[i].u, ?_, owns_byteS o1 o2.vu o2.byte⟩
    · rw [blk_cell hB, Nat.zero_add, ← Array.getElem?_toList, ← k1, ← h6, List.getElem?_take_of_lt (by omega)]
    · rw [blk_cell hB, Nat.zero_add, ← Array.getElem?_toList, ← k2, ← h6, List.getElem?_take_of_lt (by omega)]
set_option maxRecDepth 20000 in
theorem take_ret {R : Ending → World → Prop} {a : Act} {w : World} (b2 b3 b4 D : Nat) (A1 A2 : Option Addr) (n1 c1 n2 c2 : Nat) (c : Int)
    (h2 : a.tmps.getD 2 undef = .pointer (some ⟨b2, 0, none⟩)) (h3 : a.tmps.getD 3 undef = .pointer (some ⟨b3, 0, none⟩)) (h4 : a.tmps.getD 4 undef = .pointer (some ⟨b4, 0, none⟩)) (hd : a.defers = [{ target := Target.collected D, args := #[] }])
    (x2 : Boxed w b2 40 (.slice A1 n1 c1)) (x3 : Boxed w b3 31 (.slice A2 n2 c2)) (x4 : Boxed w b4 44 (.int .i64 c)) (hK : w.heap[D]? = some (.deferred (some [])))
    (hR : R (.returned (.tuple #[.slice A1 n1 c1, .slice A2 n2 c2, .int .i64 c])) (w.putObj D (.deferred none))) : bodyPostM Fence.wide 6 Try.prog Try.f22 R .ret a w := by
  have y2 := (x2.kept (grownBy_putObj' w D (.deferred none)) (fun e => by
    obtain rfl : b2 = D := by simpa using e
    rw [show w.heap[b2]? = _ from x2] at hK; cases hK)).cell
  have y3 := (x3.kept (grownBy_putObj' w D (.deferred none)) (fun e => by
    obtain rfl : b3 = D := by simpa using e
    rw [show w.heap[b3]? = _ from x3] at hK; cases hK)).cell
  have y4 := (x4.kept (grownBy_putObj' w D (.deferred none)) (fun e => by
    obtain rfl : b4 = D := by simpa using e
    rw [show w.heap[b4]? = _ from x4] at hK; cases hK)).cell
  obtain ⟨tm, df⟩ := a
  simp only at h2 h3 h4 hd
  subst hd
  refine ⟨by simp, .inl ⟨_, _, rfl, run_takeDeferred hK, ?_⟩⟩
  refine ⟨.tuple #[.slice A1 n1 c1, .slice A2 n2 c2, .int .i64 c], ?_, hR⟩
  have k2 : tm[2]?.getD undef = .pointer (some ⟨b2, 0, none⟩) := by simpa using h2
  have k3 : tm[3]?.getD undef = .pointer (some ⟨b3, 0, none⟩) := by simpa using h3
  have k4 : tm[4]?.getD undef = .pointer (some ⟨b4, 0, none⟩) := by simpa using h4
  simp [results, Try.results22, go_sem, k2, k3, k4, y2, y3, y4]
set_option maxRecDepth 20000 in
theorem owns_far {w Z : World} {b : Nat} {e : TypeId} {sz : Nat} {v : Value} {n : Nat} {xs : List Value} {B2 B3 B4 : Nat} {t2 t3 t4 : TypeId} {u2 u3 u4 : Value} (h : w.ownsRow b e sz v n xs)
    (x2 : Boxed w B2 t2 u2) (x3 : Boxed w B3 t3 u3) (x4 : Boxed w B4 t4 u4) (n2 : t2 ≠ e) (n3 : t3 ≠ e) (n4 : t4 ≠ e)
    (hZ : ∀ k, k ≠ B2 → k ≠ B3 → k ≠ B4 → Z.heap[k]? = w.heap[k]?) : Z.ownsRow b e sz v n xs :=
  owns_block h fun g _ hg => hZ g (fun e => x2.not_row n2 h (by rw [← e]; exact hg.symm)) (fun e => x3.not_row n3 h (by rw [← e]; exact hg.symm)) (fun e => x4.not_row n4 h (by rw [← e]; exact hg.symm))
set_option maxRecDepth 20000 in
theorem take_fin {W w w2 Z : World} {D : Nat} {l : List Itm} {v1 v2 u3 u4 : Value} {m : List Int}
    (x2 : Boxed w2 W.heap.size 40 v1) (x3 : Boxed w2 (W.heap.size + 1) 31 u3) (x4 : Boxed w2 (W.heap.size + 1 + 1) 44 u4)
    (row : w2.ownsRow W.heap.size 70 2 v1 l.length (itmL l)) (own : ∀ x ∈ l, w2.ownsRow W.heap.size 5 1 x.u x.fe.val.length (byteL x.fe.val) ∧ ItmOk x) (hl : l.length ≤ 32)
    (hv : w2.ownsRow W.heap.size 5 1 v2 m.length (byteL m)) (hm : m.length ≤ 140737488355328) (hmb : ∀ c ∈ m, 0 ≤ c ∧ c ≤ 255)
    (hZ : ∀ k, k ≠ W.heap.size → k ≠ W.heap.size + 1 → k ≠ W.heap.size + 1 + 1 → Z.heap[k]? = w2.heap[k]?) (hMZ : Mo W Z) (hD : w.heap.size ≤ D) (hWw : W.heap.size ≤ w.heap.size) (hK : Z.heap[D]? = some (.deferred (some []))) :
    ExtV (Z.putObj D (.deferred none)) v1 (l.map fun x => fldOf x.fe) ∧ ByteV (Z.putObj D (.deferred none)) v2 m ∧ Mo W (Z.putObj D (.deferred none)) := by
  refine ⟨extV_owns (ownsRow_putObj (owns_far row x2 x3 x4 (by decide) (by decide) (by decide) hZ) _ hK rfl) (fun x hx => ⟨ownsRow_putObj (owns_far (own x hx).1 x2 x3 x4 (by decide) (by decide) (by decide) hZ) _ hK rfl, (own x hx).2⟩) (by omega), owns_byteS (ownsRow_putObj (owns_far hv x2 x3 x4 (by decide) (by decide) (by decide) hZ) _ hK rfl) hm hmb, hMZ.of_below (belowK_b (w := w) hWw _ D _ _ hD hK rfl rfl)⟩
set_option maxRecDepth 100000 in
set_option maxHeartbeats 2000000 in
theorem take_any (A : Option Addr) (cap n : Nat) (bs : List Int) (W : World) (hn : bs.length = n) (hb : ByteS W A cap bs) :
    Calls Try.prog 22 #[.slice A n cap] W (TakeRet (takeM bs) W) := by
  refine (callsIn_wide (n := 6)).1 ?_
  refine callsIn_of_wp_marks Try.func22 rfl trivial ?_ rfl
  simp only [Try.ntmps22, List.size_toArray, List.length_cons, List.length_nil, Nat.reduceAdd, Nat.reduceSub, Array.replicate_succ, Array.replicate_zero, List.push_toArray, List.append_toArray, List.nil_append, List.cons_append]
  refine wpIn_wide.2 ?_
  go_wp2_with fail
  refine (walk_any _ _ _ _).mono ?_
  rintro e w' ⟨rfl, rfl⟩
  go_wp2_with fail
  obtain ⟨w, hw⟩ : ∃ w, ((((W.alloc (.cells #[.slice none 0 0] 40)).alloc (.cells #[.slice none 0 0] 31)).alloc (.cells #[.int .i64 0] 44)).alloc (.cells #[.int .i64 0] 3)).alloc (.cells #[.slice A n cap] 31) = w := ⟨_, rfl⟩
  have x2 : Boxed w W.heap.size 40 (.slice none 0 0) := by rw [← hw]; exact (inferInstance : Blk _ _ _ _).out
  have x3 : Boxed w (W.heap.size + 1) 31 (.slice none 0 0) := by rw [← hw]; exact (inferInstance : Blk _ _ _ _).out
  have x4 : Boxed w (W.heap.size + 1 + 1) 44 (.int .i64 0) := by rw [← hw]; exact (inferInstance : Blk _ _ _ _).out
  have x5 : Boxed w (W.heap.size + 1 + 1 + 1) 3 (.int .i64 0) := by rw [← hw]; exact (inferInstance : Blk _ _ _ _).out
  have xn : Boxed w (W.heap.size + 1 + 1 + 1 + 1) 31 (.slice A n cap) := by rw [← hw]; exact (inferInstance : Blk _ _ _ _).out
  have hWw : Mo W w := by rw [← hw]; exact Mor.out
  rw [hw]
  clear hw
  have HB := Lib.hid hb
  have HN := Lib.hid hn
  clear hb hn
  refine (wpIn_wide (n := 6)).1 ?_
  refine wpIn_range_px (F := Fence.wide) (n := 6) (w0 := w) rfl (by omega) (gf := 45) (lb := #[.pointer (some ⟨W.heap.size + 1 + 1 + 1 + 1, 0, none⟩)]) rfl trivial (enters_of Try.func45 (by kernel_rfl) rfl)
    (walk_seq 5 _ W w A cap n bs HN.out HB.out hWw xn) KpB.trans (KpB.put hWw.size) (Below.refl _ _) (fun _ => rfl)
    (fun pre W' => TakeI W.heap.size W.heap.size (W.heap.size + 1) (W.heap.size + 1 + 1) (W.heap.size + 1 + 1 + 1) (W.heap.size + 1 + 1 + 1 + 1) (.slice A n cap) pre W' ∧ Below W.heap.size W W')
    (fun c pre W' => TakeX W.heap.size W.heap.size (W.heap.size + 1) (W.heap.size + 1 + 1) c pre W' ∧ Below W.heap.size W W')
    (OwnFrom.and (ownFrom_cel fun _ _ _ h k => h.cel k) (ownFrom_below (Nat.le_refl _) hWw.size))
    (fun c => OwnFrom.and (ownFrom_cel fun _ _ _ h k => ⟨h.ret, boxed_cel h.l k, boxed_cel h.m k, boxed_cel h.c k, h.len⟩) (ownFrom_below (Nat.le_refl _) hWw.size))
    ⟨⟨⟨_, x2, World.ownsRow_nil _ _ _ _⟩, x3, x4, x5, xn, fun x hx => (by cases hx), by simp⟩, hWw.below⟩
    (fun pre x a' W' => ∃ Bx, TakeA W.heap.size W.heap.size x Bx W' ∧ a' = actT A n cap W.heap.size x Bx)
    (fun pre x a' => ownFrom_cel fun _ _ _ ⟨Bx, h, e⟩ k => ⟨Bx, h.cel k, e⟩)
    ?assign ?body ?done ?stop
  case assign =>
    rintro l pre ⟨⟨a, k, vs⟩, u⟩ Wr K ⟨hI, hB⟩ hP hK
    have hvl : 12 ≤ vs.length := hP.ok.vl
    have hown : Wr.ownsRow W.heap.size 5 1 u vs.length (byteL vs) := hP.own
    obtain ⟨g3, c3, rfl, hg3, hl3⟩ := owns_form hown (by omega)
    have hok := hP.ok
    clear hP
    dsimp only [itmV]
    gi_wp2
    obtain ⟨v, hv, hrow⟩ := hI.l
    refine hK _ _ ((KeepsOthers.alloc _ _).from _) ⟨(Below.refl _ Wr).alloc (by have := hB.size; have := (Array.getElem?_eq_some_iff.1 hI.l.choose_spec.1).1; omega) _, fun v hv => hv.alloc _⟩ ⟨hI.cel (Cel.alloc _ _), hB.alloc hB.size _⟩ ⟨Wr.heap.size, ⟨⟨v, hv.alloc _, fun e => ?_⟩, heap_alloc_new _ _, owns_cel hown (Cel.alloc _ _), hok⟩, rfl⟩
    rcases hrow.2 with ⟨rfl, _⟩ | ⟨g, cap', cur, rfl, _, hg, _⟩
    · simp [Value.ownBlock] at e
    · have e1 : g = Wr.heap.size := by simpa [Value.ownBlock] using e
      have := (Array.getElem?_eq_some_iff.1 hg).1
      omega
  case body =>
    rintro l pre ⟨⟨a, k, vs⟩, u⟩ a' Wr hl ⟨r, hr⟩ ⟨hI, hB⟩ ⟨Bx, hA, rfl⟩ hlt
    clear hr hlt
    obtain ⟨v, hv, hrow⟩ := hI.l
    obtain ⟨v', hv', hne⟩ := hA.v
    obtain rfl : v' = v := by
      have := (show Wr.heap[_]? = _ from hv').symm.trans hv
      simpa using this
    have hvl : 12 ≤ vs.length := hA.ok.vl
    have hvu : vs.length ≤ 140737488355328 := hA.ok.vu
    have hau : a ≤ 140737488355328 := hA.ok.at_
    have hown : Wr.ownsRow W.heap.size 5 1 u vs.length (byteL vs) := hA.own
    obtain ⟨g3, c3, rfl, hg3, hl3⟩ := owns_form hown (by omega)
    have hbx : Wr.heap[Bx]? = some (.cells #[.int .u16 k, .slice (some ⟨g3, 0, none⟩) vs.length c3] 70 (0, 0)) := hA.box
    obtain ⟨A2, c2, rfl⟩ : ∃ A c, v' = .slice A pre.length c := by
      rcases hrow.2 with ⟨rfl, h0⟩ | ⟨g, cap', cur, rfl, _⟩
      · exact ⟨none, 0, by rw [h0]⟩
      · exact ⟨_, _, rfl⟩
    have hm := hI.m
    have hcc := hI.c
    have he := hI.e
    have hs := hI.s
    have hle := hI.le
    have ho := hI.own
    have hok := hA.ok
    clear hI hA hv'
    have y2 := hv.cell
    have z2 := hv.frozen
    have y3 := hm.cell
    have z3 := hm.frozen
    have y4 := hcc.cell
    have z4 := hcc.frozen
    obtain ⟨q, hq⟩ : ∃ q, pre.length = q := ⟨_, rfl⟩
    have HQ := Lib.hid hq
    rw [hq] at hv hrow y2 hle hne
    clear hq
    by_cases hc : q = 32
    · subst hc
      gi_wp2
      refine ⟨(((KeepsOthers.setCell _ _ _).trans (KeepsOthers.setCell _ _ _)).trans (KeepsOthers.setCell _ _ _)).from _, ⟨rfl, ?_, ?_, ?_, ?_⟩, ?_⟩
      · exact ((hv.set _).other (by omega) _).other (by omega) _
      · exact ((hm.other (by omega) _).set _).other (by omega) _
      · exact ((hcc.other (by omega) _).other (by omega) _).set _
      · rw [List.length_append, HQ.out]; rfl
      · exact ((hB.setCell (p := ⟨_, 0, none⟩) (by simp) _).setCell (p := ⟨_, 0, none⟩) (by simp) _).setCell (p := ⟨_, 0, none⟩) (by simp; omega) _
    · have d0 : ((q : Int) == 32) = false := by simp; omega
      gi_wp2
      generalize Value.slice A2 q c2 = v at *
      have hmix : Try.prog.follows .mixedOrders = true := by kernel_rfl
      obtain ⟨i0, hi, hz0, hz1, hz2⟩ := info_parts infoExt
      have hsz := hB.size
      obtain ⟨v2, w1, hrun, hown1, hgrow, -, -⟩ := run_append_own_at (P := Try.prog) ((Wr.alloc (.cells #[.int .u16 k, .slice (some ⟨g3, 0, none⟩) vs.length c3] 70)).drew) W.heap.size 40 40 70 i0 (.agg #[.int .u16 0, .slice none 0 0]) 2 32 Try.underlying40 hi hz0 hz1 hz2 rfl (by decide) _ q _ (owns_mo hrow Mor.out) ⟨Wr.heap.size, 0, none⟩ 1 1 [.int .u16 k, .slice (some ⟨g3, 0, none⟩) vs.length c3] rfl (news_of_blk (g := Wr.heap.size) (t := 70) (cs := #[.int .u16 k, .slice (some ⟨g3, 0, none⟩) vs.length c3]) inferInstance _ rfl) (by intro u hu; simp at hu; rcases hu with rfl | rfl <;> rfl) (by unfold maxLen; omega) (by omega) (by simp; omega)
      replace hrun : (appAny #[40, 40] 40 #[v, .slice (some ⟨Wr.heap.size, 0, none⟩) 1 1]).run Try.prog _ = .ok v2 w1 := hrun
      obtain ⟨g4, c4, rfl⟩ := ownsRow_succ hown1
      have T2 := boxed_mo hv (Mor.out : Mo Wr ((Wr.alloc (.cells #[.int .u16 k, .slice (some ⟨g3, 0, none⟩) vs.length c3] 70)).drew))
      have T5 := boxed_mo he (Mor.out : Mo Wr ((Wr.alloc (.cells #[.int .u16 k, .slice (some ⟨g3, 0, none⟩) vs.length c3] 70)).drew))
      have hrowT := owns_mo hrow (Mor.out : Mo Wr ((Wr.alloc (.cells #[.int .u16 k, .slice (some ⟨g3, 0, none⟩) vs.length c3] 70)).drew))
      have U2 := T2.kept hgrow (T2.not_row (by decide) hrowT)
      have U5 := T5.kept hgrow (T5.not_row (by decide) hrowT)
      have BX : Blk Wr Bx 70 #[.int .u16 k, .slice (some ⟨g3, 0, none⟩) vs.length c3] := ⟨hbx⟩
      have BX1 : Blk w1 Bx 70 #[.int .u16 k, .slice (some ⟨g3, 0, none⟩) vs.length c3] := ⟨(hgrow.block Bx (by have := BX.lt; simp; omega) (fun e => hne e.symm)).trans (inferInstance : Blk ((Wr.alloc (.cells #[.int .u16 k, .slice (some ⟨g3, 0, none⟩) vs.length c3] 70)).drew) Bx 70 #[.int .u16 k, .slice (some ⟨g3, 0, none⟩) vs.length c3]).out⟩
      have a0 : Wr.cell? ⟨Bx, 0, none⟩ = some (.int .u16 k) := by rw [blk_cell BX]; rfl
      have a1 : Wr.cell? ⟨Bx, 1, none⟩ = some (.slice (some ⟨g3, 0, none⟩) vs.length c3) := by rw [blk_cell BX]; rfl
      have a2 : w1.cell? ⟨Bx, 0, none⟩ = some (.int .u16 k) := by rw [blk_cell BX1]; rfl
      have a3 : w1.cell? ⟨Bx, 1, none⟩ = some (.slice (some ⟨g3, 0, none⟩) vs.length c3) := by rw [blk_cell BX1]; rfl
      have p2 := U2.cell
      have q2 := U2.frozen
      have p5 := U5.cell
      have q5 := U5.frozen
      have LX : LtW Bx Wr := LtW.of_cell a0
      have LY : LtW W.heap.size Wr := LtW.of_cell y2
      have t1 : IntKind.i64.wrap ((a : Int) + 4) = a + 4 := by rw [IntKind.wrap_i64]; omega
      have t2 : IntKind.i64.wrap ((a : Int) + 4 + vs.length) = a + 4 + vs.length := by rw [IntKind.wrap_i64]; omega
      have nx2 : Bx ≠ W.heap.size := fun e => by
        have h1 := (show Wr.heap[W.heap.size]? = _ from hv)
        rw [← e, BX.out] at h1
        simp at h1
      have nx5 : Bx ≠ W.heap.size + 1 + 1 + 1 := fun e => by
        have h1 := (show Wr.heap[W.heap.size + 1 + 1 + 1]? = _ from he)
        rw [← e, BX.out] at h1
        simp at h1
      clear BX BX1 hbx T2 T5 hrowT hi hz0 hz1 hz2 hsz hne
      obtain ⟨W2, hW2⟩ : ∃ W2, (w1.setCell ⟨W.heap.size, 0, none⟩ (.slice (some ⟨g4, 0, none⟩) (q + 1) c4)).setCell ⟨W.heap.size + 1 + 1 + 1, 0, none⟩ (.int .i64 ((a : Int) + 4 + vs.length)) = W2 := ⟨_, rfl⟩
      have FIN : KeepsFrom w.heap.size Wr W2 ∧ KpB W.heap.size (W.heap.size + 1 + 1 + 1 + 1) Wr W2 ∧ TakeI W.heap.size W.heap.size (W.heap.size + 1) (W.heap.size + 1 + 1) (W.heap.size + 1 + 1 + 1) (W.heap.size + 1 + 1 + 1 + 1) (.slice A n cap) (pre ++ [⟨⟨a, k, vs⟩, .slice (some ⟨g3, 0, none⟩) vs.length c3⟩]) W2 ∧ Below W.heap.size W W2 := by
        have hT := (Mor.out : Mo Wr ((Wr.alloc (.cells #[.int .u16 k, .slice (some ⟨g3, 0, none⟩) vs.length c3] 70)).drew))
        have hrowT := owns_mo hrow hT
        have lift : ∀ (B : Nat) (t : TypeId) (u : Value), t ≠ 70 → B ≠ W.heap.size → B ≠ W.heap.size + 1 + 1 + 1 → Boxed Wr B t u → Boxed W2 B t u := fun B t u ht n1 n2 hb => by
          rw [← hW2]
          have h1 := boxed_mo hb hT
          exact ((h1.kept hgrow (h1.not_row ht hrowT)).other n1 _).other n2 _
        have liftO : ∀ (u : Value) (z : Nat) (xs : List Value), Wr.ownsRow W.heap.size 5 1 u z xs → W2.ownsRow W.heap.size 5 1 u z xs := fun u z xs h => by
          rw [← hW2]
          exact owns_set_box (owns_set_box (owns_grown (owns_mo h hT) hrowT (by decide) hgrow) U2 (by decide) _) (U5.other (by omega) _) (by decide) _
        have hb2 : Below W.heap.size Wr W2 := by
          rw [← hW2]
          refine (((hT.below.mono hB.size).grown hgrow (Nat.le_trans hB.size hT.size) fun j ej => ?_).setCell (p := ⟨_, 0, none⟩) (by simp) _).setCell (p := ⟨_, 0, none⟩) (by simp; omega) _
          exact (hrow.lt j ej).1
        refine ⟨KeepsOthers.from ?_ _, ⟨hb2, fun v hv => lift _ _ _ (by decide) (by omega) (by omega) hv⟩, ⟨⟨.slice (some ⟨g4, 0, none⟩) (q + 1) c4, ?_, ?_⟩, lift _ _ _ (by decide) (by omega) (by omega) hm, lift _ _ _ (by decide) (by omega) (by omega) hcc, ?_, lift _ _ _ (by decide) (by omega) (by omega) hs, ?_, ?_⟩, hB.trans hb2⟩
        · rw [← hW2]
          refine ((((KeepsOthers.alloc Wr _).trans (KeepsOthers.drew _)).trans (KeepsOthers.of_grownBy hgrow fun j o ej hj => ?_)).trans (KeepsOthers.setCell _ _ _)).trans (KeepsOthers.setCell _ _ _)
          rcases hrowT.2 with ⟨e, _⟩ | ⟨g, cap', cur, e, _, hg, _⟩
          · rw [e] at ej; simp [Value.ownBlock] at ej
          · rw [e] at ej
            obtain rfl : g = j := by simpa [Value.ownBlock] using ej
            rw [hg] at hj
            cases hj
            rfl
        · rw [← hW2]
          exact (U2.set _).other (by omega) _
        · rw [← hW2, List.length_append, HQ.out, itmL_snoc]
          exact owns_set_box (owns_set_box hown1 U2 (by decide) _) (U5.other (by omega) _) (by decide) _
        · rw [← hW2, List.map_append, List.map_cons, List.map_nil, endL_snoc]
          have h5 := (U5.other (B' := W.heap.size) (by omega) (.slice (some ⟨g4, 0, none⟩) (q + 1) c4)).set (.int .i64 ((a : Int) + 4 + vs.length))
          have e5 : ((a : Int) + 4 + vs.length) = ((a + 4 + vs.length : Nat) : Int) := by push_cast; rfl
          rw [← e5]
          exact h5
        · intro x hx
          rcases List.mem_append.1 hx with h | h
          · exact ⟨liftO _ _ _ (ho x h).1, (ho x h).2⟩
          · obtain rfl : x = _ := by simpa using h
            exact ⟨liftO _ _ _ hown, hok⟩
        · rw [List.length_append, HQ.out]; simp; omega
      have a4 : W2.cell? ⟨Bx, 0, none⟩ = some (.int .u16 k) := by rw [← hW2, World.cell?_setCell_other _ _ _ _ (by intro e; injection e; omega), World.cell?_setCell_other _ _ _ _ (by intro e; injection e; omega)]; exact a2
      have a5 : W2.cell? ⟨Bx, 1, none⟩ = some (.slice (some ⟨g3, 0, none⟩) vs.length c3) := by rw [← hW2, World.cell?_setCell_other _ _ _ _ (by intro e; injection e; omega), World.cell?_setCell_other _ _ _ _ (by intro e; injection e; omega)]; exact a3
      obtain ⟨S, hS⟩ : ∃ S : World → Prop, S = fun w' => w'.cell? ⟨Bx, 0, none⟩ = some (.int .u16 k) ∧ w'.cell? ⟨Bx, 1, none⟩ = some (.slice (some ⟨g3, 0, none⟩) vs.length c3) := ⟨_, rfl⟩
      have hS0 : S Wr.drew := by rw [hS]; exact ⟨by simp [go_sem, a0], by simp [go_sem, a1]⟩
      have hS1 : S ((Wr.alloc (.cells #[.int .u16 k, .slice (some ⟨g3, 0, none⟩) vs.length c3] 70)).drew) := by rw [hS]; exact ⟨by simp [go_sem, a0], by simp [go_sem, a1]⟩
      refine wpIn_region_round (S := S) hmix (by kernel_rfl) (fun ⟨_, _, h⟩ => h) ?_
      simp only [List.size_toArray, List.length_cons, List.length_nil, Nat.reduceAdd, Array.replicate_succ, Array.replicate_zero, List.push_toArray, List.nil_append, List.cons_append]
      refine wpAnyH_take (i := 1) (v := ?_) rfl (by kernel_rfl) (by kernel_rfl) (by kernel_rfl) (fun _ _ _ h => h) (Or.inl ⟨by rfl, ?_⟩) hS0 ?_
      rotate_left
      · intro w hSw
        rw [hS] at hSw
        obtain ⟨e0, e1⟩ := hSw
        go_simp
        with_reducible rfl
      (try simp only [Act.put, List.getElem_toArray, List.getElem_cons_zero, List.getElem_cons_succ, List.setIfInBounds_toArray, List.set_cons_zero, List.set_cons_succ])
      refine wpAnyH_take (i := 4) (v := ?_) rfl (by kernel_rfl) (by kernel_rfl) (by kernel_rfl) (fun _ _ _ h => h) (Or.inl ⟨by rfl, ?_⟩) hS0 ?_
      rotate_left
      · intro w hSw
        rw [hS] at hSw
        obtain ⟨e0, e1⟩ := hSw
        go_simp
        with_reducible rfl
      (try simp only [Act.put, List.getElem_toArray, List.getElem_cons_zero, List.getElem_cons_succ, List.setIfInBounds_toArray, List.set_cons_zero, List.set_cons_succ])
      refine wpAnyH_take (i := 5) (v := ?_) rfl (by kernel_rfl) (by kernel_rfl) (by kernel_rfl) (fun _ _ _ h => h) (Or.inl ⟨by rfl, ?_⟩) hS0 ?_
      rotate_left
      · intro w hSw
        rw [hS] at hSw
        obtain ⟨e0, e1⟩ := hSw
        go_simp
        with_reducible rfl
      (try simp only [Act.put, List.getElem_toArray, List.getElem_cons_zero, List.getElem_cons_succ, List.setIfInBounds_toArray, List.set_cons_zero, List.set_cons_succ])
      refine wpAnyH_take (i := 6) (v := ?_) rfl (by kernel_rfl) (by kernel_rfl) (by kernel_rfl) (fun _ _ _ h => h) (Or.inl ⟨by rfl, ?_⟩) hS0 ?_
      rotate_left
      · intro w hSw
        rw [hS] at hSw
        obtain ⟨e0, e1⟩ := hSw
        go_simp
        with_reducible rfl
      (try simp only [Act.put, List.getElem_toArray, List.getElem_cons_zero, List.getElem_cons_succ, List.setIfInBounds_toArray, List.set_cons_zero, List.set_cons_succ])
      refine wpAnyH_take (i := 7) (v := ?_) rfl (by kernel_rfl) (by kernel_rfl) (by kernel_rfl) (fun _ _ _ h => h) (Or.inl ⟨by rfl, ?_⟩) hS0 ?_
      rotate_left
      · intro w hSw
        rw [hS] at hSw
        obtain ⟨e0, e1⟩ := hSw
        go_simp
        with_reducible rfl
      (try simp only [Act.put, List.getElem_toArray, List.getElem_cons_zero, List.getElem_cons_succ, List.setIfInBounds_toArray, List.set_cons_zero, List.set_cons_succ])
      refine wpAnyH_take (i := 8) (v := ?_) rfl (by kernel_rfl) (by kernel_rfl) (by kernel_rfl) (fun _ _ _ h => h) (Or.inl ⟨by rfl, ?_⟩) hS0 ?_
      rotate_left
      · intro w hSw
        rw [hS] at hSw
        obtain ⟨e0, e1⟩ := hSw
        go_simp
        with_reducible rfl
      (try simp only [Act.put, List.getElem_toArray, List.getElem_cons_zero, List.getElem_cons_succ, List.setIfInBounds_toArray, List.set_cons_zero, List.set_cons_succ])
      refine wpAnyH_take (i := 9) (v := ?_) rfl (by kernel_rfl) (by kernel_rfl) (by kernel_rfl) (fun _ _ _ h => h) (Or.inl ⟨by rfl, ?_⟩) hS0 ?_
      rotate_left
      · intro w hSw
        rw [hS] at hSw
        obtain ⟨e0, e1⟩ := hSw
        go_simp
        with_reducible rfl
      (try simp only [Act.put, List.getElem_toArray, List.getElem_cons_zero, List.getElem_cons_succ, List.setIfInBounds_toArray, List.set_cons_zero, List.set_cons_succ])
      refine wpAnyH_ready (rs := [0, 2]) (by kernel_rfl) (by simp) (AllReadyH.cons rfl (fun K hK => ?_) (AllReadyH.cons rfl (fun K hK => ?_) AllReadyH.nil))
      · (try simp only [Act.put, List.getElem_toArray, List.getElem_cons_zero, List.setIfInBounds_toArray, List.set_cons_zero, List.set_cons_succ])
        go_simp
        refine hK.out _ _ hS0 (fun hHeld => ?_)
        clear hK hHeld K
        (try simp only [List.setIfInBounds_toArray, List.set_cons_zero])
        refine wpAnyH_ready (rs := [2]) (by kernel_rfl) (by simp) (AllReadyH.cons rfl (fun K hK => ?_) AllReadyH.nil)
        (try simp only [Act.put, List.getElem_toArray, List.getElem_cons_zero, List.getElem_cons_succ, List.setIfInBounds_toArray, List.set_cons_zero, List.set_cons_succ])
        go_simp
        refine hK.out _ _ hS1 (fun hHeld => ?_)
        clear hK hHeld K
        (try simp only [List.setIfInBounds_toArray, List.set_cons_zero, List.set_cons_succ])
        refine wpAnyH_ready (rs := [3]) (by kernel_rfl) (by simp) (AllReadyH.cons rfl (fun K hK => ?_) AllReadyH.nil)
        (try simp only [Act.put, List.getElem_toArray, List.getElem_cons_zero, List.getElem_cons_succ, List.setIfInBounds_toArray, List.set_cons_zero, List.set_cons_succ])
        go_simp
        refine hK.out _ _ (by rw [hS]; exact ⟨by simp [go_sem, a2], by simp [go_sem, a3]⟩) (fun hHeld => ?_)
        clear hK hHeld K
        (try simp only [List.setIfInBounds_toArray, List.set_cons_zero, List.set_cons_succ])
        refine wpAnyH_ready (rs := [10]) (by kernel_rfl) (by simp) (AllReadyH.cons rfl (fun K hK => ?_) AllReadyH.nil)
        (try simp only [Act.put, List.getElem_toArray, List.getElem_cons_zero, List.getElem_cons_succ])
        go_simp
        refine hK.out _ _ (by rw [hS]; exact ⟨by rw [World.cell?_setCell_other _ _ _ _ (by intro e; injection e; omega)]; exact a2, by rw [World.cell?_setCell_other _ _ _ _ (by intro e; injection e; omega)]; exact a3⟩) (fun hHeld => ?_)
        clear hK hHeld K
        (try simp only [List.setIfInBounds_toArray, List.set_cons_zero, List.set_cons_succ])
        refine wpAnyH_ready (rs := [11]) (by kernel_rfl) (by simp) (AllReadyH.cons rfl (fun K hK => ?_) AllReadyH.nil)
        (try simp only [Act.put, List.getElem_toArray, List.getElem_cons_zero, List.getElem_cons_succ])
        go_simp
        refine hK.out _ _ (by rw [hS]; exact ⟨a4, a5⟩) (fun hHeld => ?_)
        clear hK hHeld K
        (try simp only [List.setIfInBounds_toArray, List.set_cons_zero, List.set_cons_succ])
        refine wpAnyH_done (by kernel_rfl) ?_ _
        exact FIN
      · (try simp only [Act.put, List.getElem_toArray, List.getElem_cons_zero, List.getElem_cons_succ, List.setIfInBounds_toArray, List.set_cons_zero, List.set_cons_succ])
        go_simp
        refine hK.out _ _ hS1 (fun hHeld => ?_)
        clear hK hHeld K
        (try simp only [List.setIfInBounds_toArray, List.set_cons_zero, List.set_cons_succ])
        refine wpAnyH_ready (rs := [0]) (by kernel_rfl) (by simp) (AllReadyH.cons rfl (fun K hK => ?_) AllReadyH.nil)
        (try simp only [Act.put, List.getElem_toArray, List.getElem_cons_zero, List.setIfInBounds_toArray, List.set_cons_zero, List.set_cons_succ])
        go_simp
        refine hK.out _ _ hS1 (fun hHeld => ?_)
        clear hK hHeld K
        (try simp only [List.setIfInBounds_toArray, List.set_cons_zero])
        refine wpAnyH_ready (rs := [3]) (by kernel_rfl) (by simp) (AllReadyH.cons rfl (fun K hK => ?_) AllReadyH.nil)
        (try simp only [Act.put, List.getElem_toArray, List.getElem_cons_zero, List.getElem_cons_succ, List.setIfInBounds_toArray, List.set_cons_zero, List.set_cons_succ])
        go_simp
        refine hK.out _ _ (by rw [hS]; exact ⟨by simp [go_sem, a2], by simp [go_sem, a3]⟩) (fun hHeld => ?_)
        clear hK hHeld K
        (try simp only [List.setIfInBounds_toArray, List.set_cons_zero, List.set_cons_succ])
        refine wpAnyH_ready (rs := [10]) (by kernel_rfl) (by simp) (AllReadyH.cons rfl (fun K hK => ?_) AllReadyH.nil)
        (try simp only [Act.put, List.getElem_toArray, List.getElem_cons_zero, List.getElem_cons_succ])
        go_simp
        refine hK.out _ _ (by rw [hS]; exact ⟨by rw [World.cell?_setCell_other _ _ _ _ (by intro e; injection e; omega)]; exact a2, by rw [World.cell?_setCell_other _ _ _ _ (by intro e; injection e; omega)]; exact a3⟩) (fun hHeld => ?_)
        clear hK hHeld K
        (try simp only [List.setIfInBounds_toArray, List.set_cons_zero, List.set_cons_succ])
        refine wpAnyH_ready (rs := [11]) (by kernel_rfl) (by simp) (AllReadyH.cons rfl (fun K hK => ?_) AllReadyH.nil)
        (try simp only [Act.put, List.getElem_toArray, List.getElem_cons_zero, List.getElem_cons_succ])
        go_simp
        refine hK.out _ _ (by rw [hS]; exact ⟨a4, a5⟩) (fun hHeld => ?_)
        clear hK hHeld K
        (try simp only [List.setIfInBounds_toArray, List.set_cons_zero, List.set_cons_succ])
        refine wpAnyH_done (by kernel_rfl) ?_ _
        exact FIN
  case done =>
    rintro D xs Wr hD hS ⟨hI, hB⟩ hK
    obtain ⟨v, hv, hrow⟩ := hI.l
    have pe := parse_end bs bs.length 0 (by omega)
    have hel : endF bs 0 ≤ bs.length := pe.2 (by omega)
    have he := hI.e
    rw [hS, pe.1] at he
    have hlen : xs.length = (parse bs 0).length := by rw [← hS, List.length_map]
    have hM : Mo W Wr := Mo.of hB
    obtain ⟨A', hB', hs1, hs2⟩ := (HB.out.mo hM).drop (endF bs 0) hel
    rw [HN.out] at hs1 hs2 hel
    have NX := Lib.hid (fun w (k : Mo Wr w) => next_any A' (cap - endF bs 0) (bs.drop (endF bs 0)) (n - endF bs 0) w (by rw [List.length_drop, HN.out]) (hB'.mo k))
    have y5 := he.cell
    have i0 : (0 : Int) ≤ endF bs 0 := by omega
    obtain ⟨tl, htl⟩ : ∃ tl, takeM bs = tl := ⟨_, rfl⟩
    have TL := Lib.hid htl
    clear htl y5
    have y5 := he.cell
    go_wp2_with fail
    refine (NX.out _ (Mo.refl _)).mono ?_
    rintro e w1 ⟨rfl, M1⟩
    obtain ⟨A2, c2, rfl⟩ : ∃ A c, v = .slice A xs.length c := by
      rcases hrow.2 with ⟨rfl, h0⟩ | ⟨g, cap', cur, rfl, _⟩
      · exact ⟨none, 0, by rw [h0]⟩
      · exact ⟨_, _, rfl⟩
    have x2 := boxed_mo hv M1
    have x3 := boxed_mo hI.m M1
    have x4 := boxed_mo hI.c M1
    have x5 := boxed_mo he M1
    have row1 := owns_mo hrow M1
    have own1 := fun x hx => (⟨owns_mo (hI.own x hx).1 M1, (hI.own x hx).2⟩ : _ ∧ _)
    have hB1 := hM.trans M1
    have hD' : D < Wr.heap.size := (Array.getElem?_eq_some_iff.1 hK).1
    have hK1 := (M1.below.block D hD').trans hK
    have hle := hI.le
    have OW := Lib.hid own1
    have HBB := Lib.hid (hB'.mo M1)
    clear hv hI he hrow own1 hK hM y5 NX hB' M1 hB
    have c2' := x2.cell
    have c3 := x3.cell
    have c4 := x4.cell
    have c5 := x5.cell
    have f2 := x2.frozen
    have f3 := x3.frozen
    have f4 := x4.frozen
    obtain ⟨r, hr⟩ : ∃ r, nextM (bs.drop (endF bs 0)) = r := ⟨_, rfl⟩
    have hr' := hr
    rw [hr]
    obtain ⟨r1, r2⟩ := r
    have NR := Lib.hid hr'
    clear hr hr'
    have HS := Lib.hid hS
    have HL := Lib.hid hlen
    have PE := Lib.hid pe
    clear hS hlen pe
    by_cases e3 : r1 = 3
    · subst e3
      have hTM : takeM bs = ([], [], 8) := by
        unfold takeM
        simp only [List.length_map]
        rw [if_neg (by have := HL.out; omega), NR.out]
        rfl
      have HTM := Lib.hid hTM
      clear hTM
      go_wp2_with fail
      have z2 := ((x2.set (.slice none 0 0)).other (B' := W.heap.size + 1) (by omega) (.slice none 0 0)).other (B' := W.heap.size + 1 + 1) (by omega) (.int .i64 8)
      have z3 := ((x3.other (B' := W.heap.size) (by omega) (.slice none 0 0)).set (.slice none 0 0)).other (B' := W.heap.size + 1 + 1) (by omega) (.int .i64 8)
      have z4 := ((x4.other (B' := W.heap.size) (by omega) (.slice none 0 0)).other (B' := W.heap.size + 1) (by omega) (.slice none 0 0)).set (.int .i64 8)
      have hK2 := (((KeepsOthers.setCell w1 ⟨W.heap.size, 0, none⟩ (.slice none 0 0)).trans (KeepsOthers.setCell _ ⟨W.heap.size + 1, 0, none⟩ (.slice none 0 0))).trans (KeepsOthers.setCell _ ⟨W.heap.size + 1 + 1, 0, none⟩ (.int .i64 8))).same D _ hK1 rfl
      have hM2 := mo_setCell (mo_setCell (mo_setCell hB1 (g := W.heap.size) (by omega) 0 (.slice none 0 0)) (g := W.heap.size + 1) (by omega) 0 (.slice none 0 0)) (g := W.heap.size + 1 + 1) (by omega) 0 (.int .i64 8)
      refine take_ret _ _ _ D _ _ _ _ _ _ _ rfl rfl rfl rfl z2 z3 z4 hK2 ?_
      rw [HTM.out]
      exact ⟨_, _, rfl, extV_nil _, byteV_nil _, hM2.of_below (belowK_b (w := w) hWw.size _ D _ _ hD hK2 rfl rfl)⟩
    · by_cases e1 : r1 = 1
      · subst e1
        have hTM : takeM bs = ((parse bs 0).map fldOf, bs.drop (endF bs 0), 0) := by
          unfold takeM
          simp only [List.length_map]
          rw [if_neg (by have := HL.out; omega), NR.out]
          rfl
        have HTM := Lib.hid hTM
        clear hTM e3
        have hpos : 0 < (bs.drop (endF bs 0)).length := by
          rcases Nat.eq_zero_or_pos (bs.drop (endF bs 0)).length with h | h
          · have := NR.out
            unfold nextM at this
            rw [if_pos h] at this
            simp at this
          · exact h
        obtain ⟨g', off', rfl, -, -⟩ := HBB.out.get hpos
        have hpos' : 0 < n - endF bs 0 := by rw [List.length_drop, HN.out] at hpos; exact hpos
        have CL := Lib.hid (fun w (k : Mo w1 w) => cloneB_own ⟨g', off', none⟩ (n - endF bs 0) (cap - endF bs 0) (bs.drop (endF bs 0)) w (by rw [List.length_drop, HN.out]) (HBB.out.mo k))
        clear hpos
        go_wp2_with fail
        refine (CL.out _ (Mo.refl _)).mono ?_
        rintro e w2 ⟨v2, rfl, hv2, M2⟩
        obtain ⟨g5, c5', rfl, -, -⟩ := owns_form hv2 hpos'
        have X2 := boxed_mo x2 M2
        have X3 := boxed_mo x3 M2
        have X4 := boxed_mo x4 M2
        have R2 := owns_mo row1 M2
        have hK2 := (M2.below.block D (Array.getElem?_eq_some_iff.1 hK1).1).trans hK1
        have O2 := Lib.hid (fun x hx => (⟨owns_mo (OW.out x hx).1 M2, (OW.out x hx).2⟩ : _ ∧ _))
        have hB2 := hB1.trans M2
        have hb1 := hB1.size
        clear x2 x3 x4 x5 row1 hK1 c2' c3 c4 c5 f2 f3 f4 M2 CL hs1 hs2
        have c2' := X2.cell
        have c3 := X3.cell
        have c4 := X4.cell
        have f2 := X2.frozen
        have f3 := X3.frozen
        have f4 := X4.frozen
        go_wp2_with fail
        go_region
        go_wp2_with fail
        have hMZ : Mo W ((((w2.setCell ⟨W.heap.size + 1, 0, none⟩ (.slice (some ⟨g5, 0, none⟩) (n - endF bs 0) c5')).setCell ⟨W.heap.size, 0, none⟩ (.slice A2 xs.length c2)).setCell ⟨W.heap.size + 1, 0, none⟩ (.slice (some ⟨g5, 0, none⟩) (n - endF bs 0) c5')).setCell ⟨W.heap.size + 1 + 1, 0, none⟩ (.int .i64 0)).drew :=
          Mo.trans (mo_setCell (mo_setCell (mo_setCell (mo_setCell hB2 (g := W.heap.size + 1) (by omega) 0 (.slice (some ⟨g5, 0, none⟩) (n - endF bs 0) c5')) (g := W.heap.size) (by omega) 0 (.slice A2 xs.length c2)) (g := W.heap.size + 1) (by omega) 0 (.slice (some ⟨g5, 0, none⟩) (n - endF bs 0) c5')) (g := W.heap.size + 1 + 1) (by omega) 0 (.int .i64 0)) Mor.out
        have hZ : ∀ k, k ≠ W.heap.size → k ≠ W.heap.size + 1 → k ≠ W.heap.size + 1 + 1 → ((((w2.setCell ⟨W.heap.size + 1, 0, none⟩ (.slice (some ⟨g5, 0, none⟩) (n - endF bs 0) c5')).setCell ⟨W.heap.size, 0, none⟩ (.slice A2 xs.length c2)).setCell ⟨W.heap.size + 1, 0, none⟩ (.slice (some ⟨g5, 0, none⟩) (n - endF bs 0) c5')).setCell ⟨W.heap.size + 1 + 1, 0, none⟩ (.int .i64 0)).drew.heap[k]? = w2.heap[k]? := fun k k2 k3 k4 => by
          show (World.setCell _ _ _).heap[k]? = _
          rw [Below.heap_setCell _ _ _ _ k4, Below.heap_setCell _ _ _ _ k3, Below.heap_setCell _ _ _ _ k2, Below.heap_setCell _ _ _ _ k3]
        have hDn := hWw.size
        have Dne : ∀ (B : Nat) (t : TypeId) (u : Value), Boxed w2 B t u → D ≠ B := fun B t u hb e => by
          subst e
          rw [show w2.heap[D]? = _ from hb] at hK2
          cases hK2
        have hK3 := (hZ D (Dne _ _ _ X2) (Dne _ _ _ X3) (Dne _ _ _ X4)).trans hK2
        have z2 := (((X2.other (B' := W.heap.size + 1) (by omega) (.slice (some ⟨g5, 0, none⟩) (n - endF bs 0) c5')).set (.slice A2 xs.length c2)).other (B' := W.heap.size + 1) (by omega) (.slice (some ⟨g5, 0, none⟩) (n - endF bs 0) c5')).other (B' := W.heap.size + 1 + 1) (by omega) (.int .i64 0)
        have z3 := (((X3.set (.slice (some ⟨g5, 0, none⟩) (n - endF bs 0) c5')).other (B' := W.heap.size) (by omega) (.slice A2 xs.length c2)).set (.slice (some ⟨g5, 0, none⟩) (n - endF bs 0) c5')).other (B' := W.heap.size + 1 + 1) (by omega) (.int .i64 0)
        have z4 := (((X4.other (B' := W.heap.size + 1) (by omega) (.slice (some ⟨g5, 0, none⟩) (n - endF bs 0) c5')).other (B' := W.heap.size) (by omega) (.slice A2 xs.length c2)).other (B' := W.heap.size + 1) (by omega) (.slice (some ⟨g5, 0, none⟩) (n - endF bs 0) c5')).set (.int .i64 0)
        have hl2 : (bs.drop (endF bs 0)).length = n - endF bs 0 := by rw [List.length_drop, HN.out]
        obtain ⟨F1, F2, F3⟩ := take_fin (m := bs.drop (endF bs 0)) X2 X3 X4 R2 O2.out hle (by rw [hl2]; exact owns_base hv2 (by omega)) HBB.out.lim HBB.out.byte hZ hMZ hD hDn hK3
        refine take_ret _ _ _ D _ _ _ _ _ _ _ rfl rfl rfl rfl z2 z3 z4 hK3 ?_
        rw [HTM.out]
        exact ⟨_, _, rfl, by rw [← HS.out, List.map_map]; exact F1, F2, F3⟩
      · have hTM : takeM bs = ((parse bs 0).map fldOf, [], 0) := by
          unfold takeM
          simp only [List.length_map]
          rw [if_neg (by have := HL.out; omega), NR.out, if_neg e3, if_neg e1]
        have HTM := Lib.hid hTM
        have d3 : (r1 == 3) = false := by simp [e3]
        have d1 : (r1 == 1) = false := by simp [e1]
        clear hTM e3 e1
        go_wp2_with fail
        go_region
        go_wp2_with fail
        have hMZ : Mo W (((w1.setCell ⟨W.heap.size, 0, none⟩ (.slice A2 xs.length c2)).setCell ⟨W.heap.size + 1, 0, none⟩ (.slice none 0 0)).setCell ⟨W.heap.size + 1 + 1, 0, none⟩ (.int .i64 0)).drew :=
          Mo.trans (mo_setCell (mo_setCell (mo_setCell hB1 (g := W.heap.size) (by omega) 0 (.slice A2 xs.length c2)) (g := W.heap.size + 1) (by omega) 0 (.slice none 0 0)) (g := W.heap.size + 1 + 1) (by omega) 0 (.int .i64 0)) Mor.out
        have hZ : ∀ k, k ≠ W.heap.size → k ≠ W.heap.size + 1 → k ≠ W.heap.size + 1 + 1 → (((w1.setCell ⟨W.heap.size, 0, none⟩ (.slice A2 xs.length c2)).setCell ⟨W.heap.size + 1, 0, none⟩ (.slice none 0 0)).setCell ⟨W.heap.size + 1 + 1, 0, none⟩ (.int .i64 0)).drew.heap[k]? = w1.heap[k]? := fun k k2 k3 k4 => by
          show (World.setCell _ _ _).heap[k]? = _
          rw [Below.heap_setCell _ _ _ _ k4, Below.heap_setCell _ _ _ _ k3, Below.heap_setCell _ _ _ _ k2]
        have hDn := hWw.size
        have Dne : ∀ (B : Nat) (t : TypeId) (u : Value), Boxed w1 B t u → D ≠ B := fun B t u hb e => by
          subst e
          rw [show w1.heap[D]? = _ from hb] at hK1
          cases hK1
        have hK3 := (hZ D (Dne _ _ _ x2) (Dne _ _ _ x3) (Dne _ _ _ x4)).trans hK1
        have z2 := ((x2.set (.slice A2 xs.length c2)).other (B' := W.heap.size + 1) (by omega) (.slice none 0 0)).other (B' := W.heap.size + 1 + 1) (by omega) (.int .i64 0)
        have z3 := ((x3.other (B' := W.heap.size) (by omega) (.slice A2 xs.length c2)).set (.slice none 0 0)).other (B' := W.heap.size + 1 + 1) (by omega) (.int .i64 0)
        have z4 := ((x4.other (B' := W.heap.size) (by omega) (.slice A2 xs.length c2)).other (B' := W.heap.size + 1) (by omega) (.slice none 0 0)).set (.int .i64 0)
        obtain ⟨F1, F2, F3⟩ := take_fin (m := []) x2 x3 x4 row1 OW.out hle (World.ownsRow_nil _ _ _ _) (by simp) (by simp) hZ hMZ hD hDn hK3
        refine take_ret _ _ _ D _ _ _ _ _ _ _ rfl rfl rfl rfl z2 z3 z4 hK3 ?_
        rw [HTM.out]
        exact ⟨_, _, rfl, by rw [← HS.out, List.map_map]; exact F1, F2, F3⟩
  case stop =>
    rintro D c pre Wr hD ⟨r, hr⟩ ⟨hX, hB⟩ hK
    obtain rfl := hX.ret
    have hTM : takeM bs = ([], [], 3) := by
      unfold takeM
      simp only [List.length_map]
      rw [if_pos (by rw [← hr, List.length_append, List.length_map, hX.len]; omega)]
    have HTM := Lib.hid hTM
    clear hTM
    gi_wp2
    refine take_ret _ _ _ D _ _ _ _ _ _ _ rfl rfl rfl rfl hX.l hX.m hX.c hK ?_
    rw [HTM.out]
    exact ⟨_, _, rfl, extV_nil _, byteV_nil _, (Mo.of hB).of_below (belowK_b (w := w) hWw.size _ D _ _ hD hK rfl rfl)⟩
end Go.Proofs.Ytofbhkodnijkjaa
