/- Written by gen/bundle30.py: ExtDO, PackA in one text. -/
import Derived.Test.YtcflebggepmmcaaExtS
import Derived.Test.YtcflebggepmmcaaHeadS
/- ext.Take once more: what it hands back lies in blocks that the call made (printed by gen/gentakeo.py). -/
namespace Go.Proofs.Ytcflebggepmmcaa
open Go.RowKit Go.Shelf
attribute [local go_sem] Oper.semAt_some
attribute [local go_sem ↓] app_fold
/-- fields that lie in w's blocks from base on: they stay in every world that holds these blocks -/
def FExt (base : Nat) (w : World) (v : Value) (l : List Fld) : Prop := ∀ Z : World, (∀ k, base ≤ k → k < w.heap.size → Z.heap[k]? = w.heap[k]?) → ExtV Z v l
def FByte (base : Nat) (w : World) (v : Value) (bs : List Int) : Prop := ∀ Z : World, (∀ k, base ≤ k → k < w.heap.size → Z.heap[k]? = w.heap[k]?) → ByteV Z v bs
set_option maxRecDepth 20000 in
theorem FExt.now {b : Nat} {w : World} {v : Value} {l : List Fld} (h : FExt b w v l) : ExtV w v l := h w fun _ _ _ => rfl
set_option maxRecDepth 20000 in
theorem FByte.now {b : Nat} {w : World} {v : Value} {l : List Int} (h : FByte b w v l) : ByteV w v l := h w fun _ _ _ => rfl
set_option maxRecDepth 20000 in
theorem FExt.to {b b' : Nat} {w w' : World} {v : Value} {l : List Fld} (h : FExt b w v l) (hb : b' ≤ b) (hs : w.heap.size ≤ w'.heap.size) (k : ∀ k, b ≤ k → k < w.heap.size → w'.heap[k]? = w.heap[k]?) : FExt b' w' v l :=
  fun Z hZ => h Z fun i h1 h2 => (hZ i (Nat.le_trans hb h1) (Nat.lt_of_lt_of_le h2 hs)).trans (k i h1 h2)
set_option maxRecDepth 20000 in
theorem FByte.to {b b' : Nat} {w w' : World} {v : Value} {l : List Int} (h : FByte b w v l) (hb : b' ≤ b) (hs : w.heap.size ≤ w'.heap.size) (k : ∀ k, b ≤ k → k < w.heap.size → w'.heap[k]? = w.heap[k]?) : FByte b' w' v l :=
  fun Z hZ => h Z fun i h1 h2 => (hZ i (Nat.le_trans hb h1) (Nat.lt_of_lt_of_le h2 hs)).trans (k i h1 h2)
set_option maxRecDepth 20000 in
theorem fext_nil (b : Nat) (w : World) : FExt b w (.slice none 0 0) [] := fun Z _ => extV_nil Z
set_option maxRecDepth 20000 in
theorem fbyte_nil (b : Nat) (w : World) : FByte b w (.slice none 0 0) [] := fun Z _ => byteV_nil Z
set_option maxRecDepth 20000 in
theorem owns_held {w Z : World} {b : Nat} {e : TypeId} {size : Nat} {v : Value} {n : Nat} {xs : List Value} (h : w.ownsRow b e size v n xs) (hZ : ∀ k, b ≤ k → k < w.heap.size → Z.heap[k]? = w.heap[k]?) : Z.ownsRow b e size v n xs :=
  owns_block h fun g hb hg => hZ g hb (h.lt g hg).2
set_option maxRecDepth 20000 in
theorem fext_of_owns {w : World} {b : Nat} {v : Value} {l : List Itm} (h : w.ownsRow b 172 2 v l.length (itmL l)) (ho : ∀ x ∈ l, w.ownsRow b 5 1 x.u x.fe.val.length (byteL x.fe.val) ∧ ItmOk x) (hl : l.length ≤ 4398046511104) : FExt b w v (l.map fun x => fldOf x.fe) :=
  fun _ hZ => extV_owns (owns_held h hZ) (fun x hx => ⟨owns_held (ho x hx).1 hZ, (ho x hx).2⟩) hl
set_option maxRecDepth 20000 in
theorem fbyte_of_owns {w : World} {base n : Nat} {v : Value} {bs : List Int} (h : w.ownsRow base 5 1 v n (byteL bs)) (hn : n ≤ 140737488355328) (hb : ∀ c ∈ bs, 0 ≤ c ∧ c ≤ 255) : FByte base w v bs :=
  fun _ hZ => owns_byteS (owns_held h hZ) hn hb
def TakeOwn (r : List Fld × List Int × Int) (W : World) (e : Ending) (w' : World) : Prop := ∃ v1 v2, e = .returned (.tuple #[v1, v2, .int .i64 r.2.2]) ∧ FExt W.heap.size w' v1 r.1 ∧ FByte W.heap.size w' v2 r.2.1 ∧ Mo W w'
set_option maxRecDepth 20000 in
theorem take_finO {W w w2 Z : World} {D : Nat} {l : List Itm} {v1 v2 u3 u4 : Value} {m : List Int}
    (x2 : Boxed w2 W.heap.size 64 v1) (x3 : Boxed w2 (W.heap.size + 1) 39 u3) (x4 : Boxed w2 (W.heap.size + 1 + 1) 26 u4)
    (row : w2.ownsRow W.heap.size 172 2 v1 l.length (itmL l)) (own : ∀ x ∈ l, w2.ownsRow W.heap.size 5 1 x.u x.fe.val.length (byteL x.fe.val) ∧ ItmOk x) (hl : l.length ≤ 32)
    (hv : w2.ownsRow W.heap.size 5 1 v2 m.length (byteL m)) (hm : m.length ≤ 140737488355328) (hmb : ∀ c ∈ m, 0 ≤ c ∧ c ≤ 255)
    (hZ : ∀ k, k ≠ W.heap.size → k ≠ W.heap.size + 1 → k ≠ W.heap.size + 1 + 1 → Z.heap[k]? = w2.heap[k]?) (hMZ : Mo W Z) (hD : w.heap.size ≤ D) (hWw : W.heap.size ≤ w.heap.size) (hK : Z.heap[D]? = some (.deferred (some []))) :
    FExt W.heap.size (Z.putObj D (.deferred none)) v1 (l.map fun x => fldOf x.fe) ∧ FByte W.heap.size (Z.putObj D (.deferred none)) v2 m ∧ Mo W (Z.putObj D (.deferred none)) := by
  refine ⟨fext_of_owns (ownsRow_putObj (owns_far row x2 x3 x4 (by decide) (by decide) (by decide) hZ) _ hK rfl) (fun x hx => ⟨ownsRow_putObj (owns_far (own x hx).1 x2 x3 x4 (by decide) (by decide) (by decide) hZ) _ hK rfl, (own x hx).2⟩) (by omega), fbyte_of_owns (ownsRow_putObj (owns_far hv x2 x3 x4 (by decide) (by decide) (by decide) hZ) _ hK rfl) hm hmb, hMZ.of_below (belowK_b (w := w) hWw _ D _ _ hD hK rfl rfl)⟩
set_option maxRecDepth 100000 in
set_option maxHeartbeats 2000000 in
theorem take_own (A : Option Addr) (cap n : Nat) (bs : List Int) (W : World) (hn : bs.length = n) (hb : ByteS W A cap bs) :
    Calls Try.prog 82 #[.slice A n cap] W (TakeOwn (takeM bs) W) := by
  refine (callsIn_wide (n := 6)).1 ?_
  refine callsIn_of_wp_marks Try.func82 rfl trivial ?_ rfl
  simp only [Try.ntmps82, List.size_toArray, List.length_cons, List.length_nil, Nat.reduceAdd, Nat.reduceSub, Array.replicate_succ, Array.replicate_zero, List.push_toArray, List.append_toArray, List.nil_append, List.cons_append]
  refine wpIn_wide.2 ?_
  go_wp2_with fail
  refine (walk_any _ _ _ _).mono ?_
  rintro e w' ⟨rfl, rfl⟩
  go_wp2_with fail
  obtain ⟨w, hw⟩ : ∃ w, ((((W.alloc (.cells #[.slice none 0 0] 64)).alloc (.cells #[.slice none 0 0] 39)).alloc (.cells #[.int .i64 0] 26)).alloc (.cells #[.int .i64 0] 3)).alloc (.cells #[.slice A n cap] 39) = w := ⟨_, rfl⟩
  have x2 : Boxed w W.heap.size 64 (.slice none 0 0) := by rw [← hw]; exact (inferInstance : Blk _ _ _ _).out
  have x3 : Boxed w (W.heap.size + 1) 39 (.slice none 0 0) := by rw [← hw]; exact (inferInstance : Blk _ _ _ _).out
  have x4 : Boxed w (W.heap.size + 1 + 1) 26 (.int .i64 0) := by rw [← hw]; exact (inferInstance : Blk _ _ _ _).out
  have x5 : Boxed w (W.heap.size + 1 + 1 + 1) 3 (.int .i64 0) := by rw [← hw]; exact (inferInstance : Blk _ _ _ _).out
  have xn : Boxed w (W.heap.size + 1 + 1 + 1 + 1) 39 (.slice A n cap) := by rw [← hw]; exact (inferInstance : Blk _ _ _ _).out
  have hWw : Mo W w := by rw [← hw]; exact Mor.out
  rw [hw]
  clear hw
  have HB := Lib.hid hb
  have HN := Lib.hid hn
  clear hb hn
  refine (wpIn_wide (n := 6)).1 ?_
  refine wpIn_range_px (F := Fence.wide) (n := 6) (w0 := w) rfl (by omega) (gf := 116) (lb := #[.pointer (some ⟨W.heap.size + 1 + 1 + 1 + 1, 0, none⟩)]) rfl trivial (enters_of Try.func116 (by kernel_rfl) rfl)
    (walk_seq 5 _ W w A cap n bs HN.out HB.out hWw xn) KpB.trans (KpB.put hWw.size) (Below.refl _ _) (fun _ => rfl)
    (fun pre W' => TakeI W.heap.size W.heap.size (W.heap.size + 1) (W.heap.size + 1 + 1) (W.heap.size + 1 + 1 + 1) (W.heap.size + 1 + 1 + 1 + 1) (.slice A n cap) pre W' ∧ Below W.heap.size W W')
    (fun c pre W' => TakeX W.heap.size W.heap.size (W.heap.size + 1) (W.heap.size + 1 + 1) c pre W' ∧ Below W.heap.size W W')
    (OwnFrom.and (ownFrom_cel fun _ _ _ h k => h.cel k) (ownFrom_below (Nat.le_refl _) hWw.size))
    (fun c => OwnFrom.and (ownFrom_cel fun _ _ _ h k => ⟨h.ret, boxed_cel h.l k, boxed_cel h.m k, boxed_cel h.c k, h.len⟩) (ownFrom_below (Nat.le_refl _) hWw.size))
    ⟨⟨⟨_, x2, World.ownsRow_nil _ _ _ _⟩, x3, x4, x5, xn, fun x hx => (by cases hx), by simp⟩, hWw.below⟩
    (fun pre x a' W' => ∃ Bx, TakeA W.heap.size W.heap.size x Bx W' ∧ a' = actT A n cap W.heap.size x Bx)
    (fun pre x a' => ownFrom_cel fun _ _ _ ⟨Bx, h, e⟩ k => ⟨Bx, h.cel k, e⟩)
    ?assign ?body ?done ?stop
  case assign =>
    rintro l pre ⟨⟨a, k, vs⟩, u⟩ Wr K ⟨hI, hB⟩ hP hK
    have hvl : 12 ≤ vs.length := hP.ok.vl
    have hown : Wr.ownsRow W.heap.size 5 1 u vs.length (byteL vs) := hP.own
    obtain ⟨g3, c3, rfl, hg3, hl3⟩ := owns_form hown (by omega)
    have hok := hP.ok
    clear hP
    dsimp only [itmV]
    gi_wp2
    obtain ⟨v, hv, hrow⟩ := hI.l
    refine hK _ _ ((KeepsOthers.alloc _ _).from _) ⟨(Below.refl _ Wr).alloc (by have := hB.size; have := (Array.getElem?_eq_some_iff.1 hI.l.choose_spec.1).1; omega) _, fun v hv => hv.alloc _⟩ ⟨hI.cel (Cel.alloc _ _), hB.alloc hB.size _⟩ ⟨Wr.heap.size, ⟨⟨v, hv.alloc _, fun e => ?_⟩, heap_alloc_new _ _, owns_cel hown (Cel.alloc _ _), hok⟩, rfl⟩
    rcases hrow.2 with ⟨rfl, _⟩ | ⟨g, cap', cur, rfl, _, hg, _⟩
    · simp [Value.ownBlock] at e
    · have e1 : g = Wr.heap.size := by simpa [Value.ownBlock] using e
      have := (Array.getElem?_eq_some_iff.1 hg).1
      omega
  case body =>
    rintro l pre ⟨⟨a, k, vs⟩, u⟩ a' Wr hl ⟨r, hr⟩ ⟨hI, hB⟩ ⟨Bx, hA, rfl⟩ hlt
    clear hr hlt
    obtain ⟨v, hv, hrow⟩ := hI.l
    obtain ⟨v', hv', hne⟩ := hA.v
    obtain rfl : v' = v := by
      have := (show Wr.heap[_]? = _ from hv').symm.trans hv
      simpa using this
    have hvl : 12 ≤ vs.length := hA.ok.vl
    have hvu : vs.length ≤ 140737488355328 := hA.ok.vu
    have hau : a ≤ 140737488355328 := hA.ok.at_
    have hown : Wr.ownsRow W.heap.size 5 1 u vs.length (byteL vs) := hA.own
    obtain ⟨g3, c3, rfl, hg3, hl3⟩ := owns_form hown (by omega)
    have hbx : Wr.heap[Bx]? = some (.cells #[.int .u16 k, .slice (some ⟨g3, 0, none⟩) vs.length c3] 172 (0, 0)) := hA.box
    obtain ⟨A2, c2, rfl⟩ : ∃ A c, v' = .slice A pre.length c := by
      rcases hrow.2 with ⟨rfl, h0⟩ | ⟨g, cap', cur, rfl, _⟩
      · exact ⟨none, 0, by rw [h0]⟩
      · exact ⟨_, _, rfl⟩
    have hm := hI.m
    have hcc := hI.c
    have he := hI.e
    have hs := hI.s
    have hle := hI.le
    have ho := hI.own
    have hok := hA.ok
    clear hI hA hv'
    have y2 := hv.cell
    have z2 := hv.frozen
    have y3 := hm.cell
    have z3 := hm.frozen
    have y4 := hcc.cell
    have z4 := hcc.frozen
    obtain ⟨q, hq⟩ : ∃ q, pre.length = q := ⟨_, rfl⟩
    have HQ := Lib.hid hq
    rw [hq] at hv hrow y2 hle hne
    clear hq
    by_cases hc : q = 32
    · subst hc
      gi_wp2
      refine ⟨(((KeepsOthers.setCell _ _ _).trans (KeepsOthers.setCell _ _ _)).trans (KeepsOthers.setCell _ _ _)).from _, ⟨rfl, ?_, ?_, ?_, ?_⟩, ?_⟩
      · exact ((hv.set _).other (by omega) _).other (by omega) _
      · exact ((hm.other (by omega) _).set _).other (by omega) _
      · exact ((hcc.other (by omega) _).other (by omega) _).set _
      · rw [List.length_append, HQ.out]; rfl
      · exact ((hB.setCell (p := ⟨_, 0, none⟩) (by simp) _).setCell (p := ⟨_, 0, none⟩) (by simp) _).setCell (p := ⟨_, 0, none⟩) (by simp; omega) _
    · have d0 : ((q : Int) == 32) = false := by simp; omega
      gi_wp2
      generalize Value.slice A2 q c2 = v at *
      have hmix : Try.prog.follows .mixedOrders = true := by kernel_rfl
      obtain ⟨i0, hi, hz0, hz1, hz2⟩ := info_parts infoExt
      have hsz := hB.size
      obtain ⟨v2, w1, hrun, hown1, hgrow, -, -⟩ := run_append_own_at (P := Try.prog) ((Wr.alloc (.cells #[.int .u16 k, .slice (some ⟨g3, 0, none⟩) vs.length c3] 172)).drew) W.heap.size 64 64 172 i0 (.agg #[.int .u16 0, .slice none 0 0]) 2 32 Try.underlying64 hi hz0 hz1 hz2 rfl (by decide) _ q _ (owns_mo hrow Mor.out) ⟨Wr.heap.size, 0, none⟩ 1 1 [.int .u16 k, .slice (some ⟨g3, 0, none⟩) vs.length c3] rfl (news_of_blk (g := Wr.heap.size) (t := 172) (cs := #[.int .u16 k, .slice (some ⟨g3, 0, none⟩) vs.length c3]) inferInstance _ rfl) (by intro u hu; simp at hu; rcases hu with rfl | rfl <;> rfl) (by unfold maxLen; omega) (by omega) (by simp; omega)
      replace hrun : (appAny #[64, 64] 64 #[v, .slice (some ⟨Wr.heap.size, 0, none⟩) 1 1]).run Try.prog _ = .ok v2 w1 := hrun
      obtain ⟨g4, c4, rfl⟩ := ownsRow_succ hown1
      have T2 := boxed_mo hv (Mor.out : Mo Wr ((Wr.alloc (.cells #[.int .u16 k, .slice (some ⟨g3, 0, none⟩) vs.length c3] 172)).drew))
      have T5 := boxed_mo he (Mor.out : Mo Wr ((Wr.alloc (.cells #[.int .u16 k, .slice (some ⟨g3, 0, none⟩) vs.length c3] 172)).drew))
      have hrowT := owns_mo hrow (Mor.out : Mo Wr ((Wr.alloc (.cells #[.int .u16 k, .slice (some ⟨g3, 0, none⟩) vs.length c3] 172)).drew))
      have U2 := T2.kept hgrow (T2.not_row (by decide) hrowT)
      have U5 := T5.kept hgrow (T5.not_row (by decide) hrowT)
      have BX : Blk Wr Bx 172 #[.int .u16 k, .slice (some ⟨g3, 0, none⟩) vs.length c3] := ⟨hbx⟩
      have BX1 : Blk w1 Bx 172 #[.int .u16 k, .slice (some ⟨g3, 0, none⟩) vs.length c3] := ⟨(hgrow.block Bx (by have := BX.lt; simp; omega) (fun e => hne e.symm)).trans (inferInstance : Blk ((Wr.alloc (.cells #[.int .u16 k, .slice (some ⟨g3, 0, none⟩) vs.length c3] 172)).drew) Bx 172 #[.int .u16 k, .slice (some ⟨g3, 0, none⟩) vs.length c3]).out⟩
      have a0 : Wr.cell? ⟨Bx, 0, none⟩ = some (.int .u16 k) := by rw [blk_cell BX]; rfl
      have a1 : Wr.cell? ⟨Bx, 1, none⟩ = some (.slice (some ⟨g3, 0, none⟩) vs.length c3) := by rw [blk_cell BX]; rfl
      have a2 : w1.cell? ⟨Bx, 0, none⟩ = some (.int .u16 k) := by rw [blk_cell BX1]; rfl
      have a3 : w1.cell? ⟨Bx, 1, none⟩ = some (.slice (some ⟨g3, 0, none⟩) vs.length c3) := by rw [blk_cell BX1]; rfl
      have p2 := U2.cell
      have q2 := U2.frozen
      have p5 := U5.cell
      have q5 := U5.frozen
      have LX : LtW Bx Wr := LtW.of_cell a0
      have LY : LtW W.heap.size Wr := LtW.of_cell y2
      have t1 : IntKind.i64.wrap ((a : Int) + 4) = a + 4 := by rw [IntKind.wrap_i64]; omega
      have t2 : IntKind.i64.wrap ((a : Int) + 4 + vs.length) = a + 4 + vs.length := by rw [IntKind.wrap_i64]; omega
      have nx2 : Bx ≠ W.heap.size := fun e => by
        have h1 := (show Wr.heap[W.heap.size]? = _ from hv)
        rw [← e, BX.out] at h1
        simp at h1
      have nx5 : Bx ≠ W.heap.size + 1 + 1 + 1 := fun e => by
        have h1 := (show Wr.heap[W.heap.size + 1 + 1 + 1]? = _ from he)
        rw [← e, BX.out] at h1
        simp at h1
      clear BX BX1 hbx T2 T5 hrowT hi hz0 hz1 hz2 hsz hne
      obtain ⟨W2, hW2⟩ : ∃ W2, (w1.setCell ⟨W.heap.size, 0, none⟩ (.slice (some ⟨g4, 0, none⟩) (q + 1) c4)).setCell ⟨W.heap.size + 1 + 1 + 1, 0, none⟩ (.int .i64 ((a : Int) + 4 + vs.length)) = W2 := ⟨_, rfl⟩
      have FIN : KeepsFrom w.heap.size Wr W2 ∧ KpB W.heap.size (W.heap.size + 1 + 1 + 1 + 1) Wr W2 ∧ TakeI W.heap.size W.heap.size (W.heap.size + 1) (W.heap.size + 1 + 1) (W.heap.size + 1 + 1 + 1) (W.heap.size + 1 + 1 + 1 + 1) (.slice A n cap) (pre ++ [⟨⟨a, k, vs⟩, .slice (some ⟨g3, 0, none⟩) vs.length c3⟩]) W2 ∧ Below W.heap.size W W2 := by
        have hT := (Mor.out : Mo Wr ((Wr.alloc (.cells #[.int .u16 k, .slice (some ⟨g3, 0, none⟩) vs.length c3] 172)).drew))
        have hrowT := owns_mo hrow hT
        have lift : ∀ (B : Nat) (t : TypeId) (u : Value), t ≠ 172 → B ≠ W.heap.size → B ≠ W.heap.size + 1 + 1 + 1 → Boxed Wr B t u → Boxed W2 B t u := fun B t u ht n1 n2 hb => by
          rw [← hW2]
          have h1 := boxed_mo hb hT
          exact ((h1.kept hgrow (h1.not_row ht hrowT)).other n1 _).other n2 _
        have liftO : ∀ (u : Value) (z : Nat) (xs : List Value), Wr.ownsRow W.heap.size 5 1 u z xs → W2.ownsRow W.heap.size 5 1 u z xs := fun u z xs h => by
          rw [← hW2]
          exact owns_set_box (owns_set_box (owns_grown (owns_mo h hT) hrowT (by decide) hgrow) U2 (by decide) _) (U5.other (by omega) _) (by decide) _
        have hb2 : Below W.heap.size Wr W2 := by
          rw [← hW2]
          refine (((hT.below.mono hB.size).grown hgrow (Nat.le_trans hB.size hT.size) fun j ej => ?_).setCell (p := ⟨_, 0, none⟩) (by simp) _).setCell (p := ⟨_, 0, none⟩) (by simp; omega) _
          exact (hrow.lt j ej).1
        refine ⟨KeepsOthers.from ?_ _, ⟨hb2, fun v hv => lift _ _ _ (by decide) (by omega) (by omega) hv⟩, ⟨⟨.slice (some ⟨g4, 0, none⟩) (q + 1) c4, ?_, ?_⟩, lift _ _ _ (by decide) (by omega) (by omega) hm, lift _ _ _ (by decide) (by omega) (by omega) hcc, ?_, lift _ _ _ (by decide) (by omega) (by omega) hs, ?_, ?_⟩, hB.trans hb2⟩
        · rw [← hW2]
          refine ((((KeepsOthers.alloc Wr _).trans (KeepsOthers.drew _)).trans (KeepsOthers.of_grownBy hgrow fun j o ej hj => ?_)).trans (KeepsOthers.setCell _ _ _)).trans (KeepsOthers.setCell _ _ _)
          rcases hrowT.2 with ⟨e, _⟩ | ⟨g, cap', cur, e, _, hg, _⟩
          · rw [e] at ej; simp [Value.ownBlock] at ej
          · rw [e] at ej
            obtain rfl : g = j := by simpa [Value.ownBlock] using ej
            rw [hg] at hj
            cases hj
            rfl
        · rw [← hW2]
          exact (U2.set _).other (by omega) _
        · rw [← hW2, List.length_append, HQ.out, itmL_snoc]
          exact owns_set_box (owns_set_box hown1 U2 (by decide) _) (U5.other (by omega) _) (by decide) _
        · rw [← hW2, List.map_append, List.map_cons, List.map_nil, endL_snoc]
          have h5 := (U5.other (B' := W.heap.size) (by omega) (.slice (some ⟨g4, 0, none⟩) (q + 1) c4)).set (.int .i64 ((a : Int) + 4 + vs.length))
          have e5 : ((a : Int) + 4 + vs.length) = ((a + 4 + vs.length : Nat) : Int) := by push_cast; rfl
          rw [← e5]
          exact h5
        · intro x hx
          rcases List.mem_append.1 hx with h | h
          · exact ⟨liftO _ _ _ (ho x h).1, (ho x h).2⟩
          · obtain rfl : x = _ := by simpa using h
            exact ⟨liftO _ _ _ hown, hok⟩
        · rw [List.length_append, HQ.out]; simp; omega
      have a4 : W2.cell? ⟨Bx, 0, none⟩ = some (.int .u16 k) := by rw [← hW2, World.cell?_setCell_other _ _ _ _ (by intro e; injection e; omega), World.cell?_setCell_other _ _ _ _ (by intro e; injection e; omega)]; exact a2
      have a5 : W2.cell? ⟨Bx, 1, none⟩ = some (.slice (some ⟨g3, 0, none⟩) vs.length c3) := by rw [← hW2, World.cell?_setCell_other _ _ _ _ (by intro e; injection e; omega), World.cell?_setCell_other _ _ _ _ (by intro e; injection e; omega)]; exact a3
      obtain ⟨S, hS⟩ : ∃ S : World → Prop, S = fun w' => w'.cell? ⟨Bx, 0, none⟩ = some (.int .u16 k) ∧ w'.cell? ⟨Bx, 1, none⟩ = some (.slice (some ⟨g3, 0, none⟩) vs.length c3) := ⟨_, rfl⟩
      have hS0 : S Wr.drew := by rw [hS]; exact ⟨by simp [go_sem, a0], by simp [go_sem, a1]⟩
      have hS1 : S ((Wr.alloc (.cells #[.int .u16 k, .slice (some ⟨g3, 0, none⟩) vs.length c3] 172)).drew) := by rw [hS]; exact ⟨by simp [go_sem, a0], by simp [go_sem, a1]⟩
      refine wpIn_region_round (S := S) hmix (by kernel_rfl) (fun ⟨_, _, h⟩ => h) ?_
      simp only [List.size_toArray, List.length_cons, List.length_nil, Nat.reduceAdd, Array.replicate_succ, Array.replicate_zero, List.push_toArray, List.nil_append, List.cons_append]
      refine wpAnyH_take (i := 1) (v := ?_) rfl (by kernel_rfl) (by kernel_rfl) (by kernel_rfl) (fun _ _ _ h => h) (Or.inl ⟨by rfl, ?_⟩) hS0 ?_
      rotate_left
      · intro w hSw
        rw [hS] at hSw
        obtain ⟨e0, e1⟩ := hSw
        go_simp
        with_reducible rfl
      (try simp only [Act.put, List.getElem_toArray, List.getElem_cons_zero, List.getElem_cons_succ, List.setIfInBounds_toArray, List.set_cons_zero, List.set_cons_succ])
      refine wpAnyH_take (i := 4) (v := ?_) rfl (by kernel_rfl) (by kernel_rfl) (by kernel_rfl) (fun _ _ _ h => h) (Or.inl ⟨by rfl, ?_⟩) hS0 ?_
      rotate_left
      · intro w hSw
        rw [hS] at hSw
        obtain ⟨e0, e1⟩ := hSw
        go_simp
        with_reducible rfl
      (try simp only [Act.put, List.getElem_toArray, List.getElem_cons_zero, List.getElem_cons_succ, List.setIfInBounds_toArray, List.set_cons_zero, List.set_cons_succ])
      refine wpAnyH_take (i := 5) (v := ?_) rfl (by kernel_rfl) (by kernel_rfl) (by kernel_rfl) (fun _ _ _ h => h) (Or.inl ⟨by rfl, ?_⟩) hS0 ?_
      rotate_left
      · intro w hSw
        rw [hS] at hSw
        obtain ⟨e0, e1⟩ := hSw
        go_simp
        with_reducible rfl
      (try simp only [Act.put, List.getElem_toArray, List.getElem_cons_zero, List.getElem_cons_succ, List.setIfInBounds_toArray, List.set_cons_zero, List.set_cons_succ])
      refine wpAnyH_take (i := 6) (v := ?_) rfl (by kernel_rfl) (by kernel_rfl) (by kernel_rfl) (fun _ _ _ h => h) (Or.inl ⟨by rfl, ?_⟩) hS0 ?_
      rotate_left
      · intro w hSw
        rw [hS] at hSw
        obtain ⟨e0, e1⟩ := hSw
        go_simp
        with_reducible rfl
      (try simp only [Act.put, List.getElem_toArray, List.getElem_cons_zero, List.getElem_cons_succ, List.setIfInBounds_toArray, List.set_cons_zero, List.set_cons_succ])
      refine wpAnyH_take (i := 7) (v := ?_) rfl (by kernel_rfl) (by kernel_rfl) (by kernel_rfl) (fun _ _ _ h => h) (Or.inl ⟨by rfl, ?_⟩) hS0 ?_
      rotate_left
      · intro w hSw
        rw [hS] at hSw
        obtain ⟨e0, e1⟩ := hSw
        go_simp
        with_reducible rfl
      (try simp only [Act.put, List.getElem_toArray, List.getElem_cons_zero, List.getElem_cons_succ, List.setIfInBounds_toArray, List.set_cons_zero, List.set_cons_succ])
      refine wpAnyH_take (i := 8) (v := ?_) rfl (by kernel_rfl) (by kernel_rfl) (by kernel_rfl) (fun _ _ _ h => h) (Or.inl ⟨by rfl, ?_⟩) hS0 ?_
      rotate_left
      · intro w hSw
        rw [hS] at hSw
        obtain ⟨e0, e1⟩ := hSw
        go_simp
        with_reducible rfl
      (try simp only [Act.put, List.getElem_toArray, List.getElem_cons_zero, List.getElem_cons_succ, List.setIfInBounds_toArray, List.set_cons_zero, List.set_cons_succ])
      refine wpAnyH_take (i := 9) (v := ?_) rfl (by kernel_rfl) (by kernel_rfl) (by kernel_rfl) (fun _ _ _ h => h) (Or.inl ⟨by rfl, ?_⟩) hS0 ?_
      rotate_left
      · intro w hSw
        rw [hS] at hSw
        obtain ⟨e0, e1⟩ := hSw
        go_simp
        with_reducible rfl
      (try simp only [Act.put, List.getElem_toArray, List.getElem_cons_zero, List.getElem_cons_succ, List.setIfInBounds_toArray, List.set_cons_zero, List.set_cons_succ])
      refine wpAnyH_ready (rs := [0, 2]) (by kernel_rfl) (by simp) (AllReadyH.cons rfl (fun K hK => ?_) (AllReadyH.cons rfl (fun K hK => ?_) AllReadyH.nil))
      · (try simp only [Act.put, List.getElem_toArray, List.getElem_cons_zero, List.setIfInBounds_toArray, List.set_cons_zero, List.set_cons_succ])
        go_simp
        refine hK.out _ _ hS0 (fun hHeld => ?_)
        clear hK hHeld K
        (try simp only [List.setIfInBounds_toArray, List.set_cons_zero])
        refine wpAnyH_ready (rs := [2]) (by kernel_rfl) (by simp) (AllReadyH.cons rfl (fun K hK => ?_) AllReadyH.nil)
        (try simp only [Act.put, List.getElem_toArray, List.getElem_cons_zero, List.getElem_cons_succ, List.setIfInBounds_toArray, List.set_cons_zero, List.set_cons_succ])
        go_simp
        refine hK.out _ _ hS1 (fun hHeld => ?_)
        clear hK hHeld K
        (try simp only [List.setIfInBounds_toArray, List.set_cons_zero, List.set_cons_succ])
        refine wpAnyH_ready (rs := [3]) (by kernel_rfl) (by simp) (AllReadyH.cons rfl (fun K hK => ?_) AllReadyH.nil)
        (try simp only [Act.put, List.getElem_toArray, List.getElem_cons_zero, List.getElem_cons_succ, List.setIfInBounds_toArray, List.set_cons_zero, List.set_cons_succ])
        go_simp
        refine hK.out _ _ (by rw [hS]; exact ⟨by simp [go_sem, a2], by simp [go_sem, a3]⟩) (fun hHeld => ?_)
        clear hK hHeld K
        (try simp only [List.setIfInBounds_toArray, List.set_cons_zero, List.set_cons_succ])
        refine wpAnyH_ready (rs := [10]) (by kernel_rfl) (by simp) (AllReadyH.cons rfl (fun K hK => ?_) AllReadyH.nil)
        (try simp only [Act.put, List.getElem_toArray, List.getElem_cons_zero, List.getElem_cons_succ])
        go_simp
        refine hK.out _ _ (by rw [hS]; exact ⟨by rw [World.cell?_setCell_other _ _ _ _ (by intro e; injection e; omega)]; exact a2, by rw [World.cell?_setCell_other _ _ _ _ (by intro e; injection e; omega)]; exact a3⟩) (fun hHeld => ?_)
        clear hK hHeld K
        (try simp only [List.setIfInBounds_toArray, List.set_cons_zero, List.set_cons_succ])
        refine wpAnyH_ready (rs := [11]) (by kernel_rfl) (by simp) (AllReadyH.cons rfl (fun K hK => ?_) AllReadyH.nil)
        (try simp only [Act.put, List.getElem_toArray, List.getElem_cons_zero, List.getElem_cons_succ])
        go_simp
        refine hK.out _ _ (by rw [hS]; exact ⟨a4, a5⟩) (fun hHeld => ?_)
        clear hK hHeld K
        (try simp only [List.setIfInBounds_toArray, List.set_cons_zero, List.set_cons_succ])
        refine wpAnyH_done (by kernel_rfl) ?_ _
        exact FIN
      · (try simp only [Act.put, List.getElem_toArray, List.getElem_cons_zero, List.getElem_cons_succ, List.setIfInBounds_toArray, List.set_cons_zero, List.set_cons_succ])
        go_simp
        refine hK.out _ _ hS1 (fun hHeld => ?_)
        clear hK hHeld K
        (try simp only [List.setIfInBounds_toArray, List.set_cons_zero, List.set_cons_succ])
        refine wpAnyH_ready (rs := [0]) (by kernel_rfl) (by simp) (AllReadyH.cons rfl (fun K hK => ?_) AllReadyH.nil)
        (try simp only [Act.put, List.getElem_toArray, List.getElem_cons_zero, List.setIfInBounds_toArray, List.set_cons_zero, List.set_cons_succ])
        go_simp
        refine hK.out _ _ hS1 (fun hHeld => ?_)
        clear hK hHeld K
        (try simp only [List.setIfInBounds_toArray, List.set_cons_zero])
        refine wpAnyH_ready (rs := [3]) (by kernel_rfl) (by simp) (AllReadyH.cons rfl (fun K hK => ?_) AllReadyH.nil)
        (try simp only [Act.put, List.getElem_toArray, List.getElem_cons_zero, List.getElem_cons_succ, List.setIfInBounds_toArray, List.set_cons_zero, List.set_cons_succ])
        go_simp
        refine hK.out _ _ (by rw [hS]; exact ⟨by simp [go_sem, a2], by simp [go_sem, a3]⟩) (fun hHeld => ?_)
        clear hK hHeld K
        (try simp only [List.setIfInBounds_toArray, List.set_cons_zero, List.set_cons_succ])
        refine wpAnyH_ready (rs := [10]) (by kernel_rfl) (by simp) (AllReadyH.cons rfl (fun K hK => ?_) AllReadyH.nil)
        (try simp only [Act.put, List.getElem_toArray, List.getElem_cons_zero, List.getElem_cons_succ])
        go_simp
        refine hK.out _ _ (by rw [hS]; exact ⟨by rw [World.cell?_setCell_other _ _ _ _ (by intro e; injection e; omega)]; exact a2, by rw [World.cell?_setCell_other _ _ _ _ (by intro e; injection e; omega)]; exact a3⟩) (fun hHeld => ?_)
        clear hK hHeld K
        (try simp only [List.setIfInBounds_toArray, List.set_cons_zero, List.set_cons_succ])
        refine wpAnyH_ready (rs := [11]) (by kernel_rfl) (by simp) (AllReadyH.cons rfl (fun K hK => ?_) AllReadyH.nil)
        (try simp only [Act.put, List.getElem_toArray, List.getElem_cons_zero, List.getElem_cons_succ])
        go_simp
        refine hK.out _ _ (by rw [hS]; exact ⟨a4, a5⟩) (fun hHeld => ?_)
        clear hK hHeld K
        (try simp only [List.setIfInBounds_toArray, List.set_cons_zero, List.set_cons_succ])
        refine wpAnyH_done (by kernel_rfl) ?_ _
        exact FIN
  case done =>
    rintro D xs Wr hD hS ⟨hI, hB⟩ hK
    obtain ⟨v, hv, hrow⟩ := hI.l
    have pe := parse_end bs bs.length 0 (by omega)
    have hel : endF bs 0 ≤ bs.length := pe.2 (by omega)
    have he := hI.e
    rw [hS, pe.1] at he
    have hlen : xs.length = (parse bs 0).length := by rw [← hS, List.length_map]
    have hM : Mo W Wr := Mo.of hB
    obtain ⟨A', hB', hs1, hs2⟩ := (HB.out.mo hM).drop (endF bs 0) hel
    rw [HN.out] at hs1 hs2 hel
    have NX := Lib.hid (fun w (k : Mo Wr w) => next_any A' (cap - endF bs 0) (bs.drop (endF bs 0)) (n - endF bs 0) w (by rw [List.length_drop, HN.out]) (hB'.mo k))
    have y5 := he.cell
    have i0 : (0 : Int) ≤ endF bs 0 := by omega
    obtain ⟨tl, htl⟩ : ∃ tl, takeM bs = tl := ⟨_, rfl⟩
    have TL := Lib.hid htl
    clear htl y5
    have y5 := he.cell
    go_wp2_with fail
    refine (NX.out _ (Mo.refl _)).mono ?_
    rintro e w1 ⟨rfl, M1⟩
    obtain ⟨A2, c2, rfl⟩ : ∃ A c, v = .slice A xs.length c := by
      rcases hrow.2 with ⟨rfl, h0⟩ | ⟨g, cap', cur, rfl, _⟩
      · exact ⟨none, 0, by rw [h0]⟩
      · exact ⟨_, _, rfl⟩
    have x2 := boxed_mo hv M1
    have x3 := boxed_mo hI.m M1
    have x4 := boxed_mo hI.c M1
    have x5 := boxed_mo he M1
    have row1 := owns_mo hrow M1
    have own1 := fun x hx => (⟨owns_mo (hI.own x hx).1 M1, (hI.own x hx).2⟩ : _ ∧ _)
    have hB1 := hM.trans M1
    have hD' : D < Wr.heap.size := (Array.getElem?_eq_some_iff.1 hK).1
    have hK1 := (M1.below.block D hD').trans hK
    have hle := hI.le
    have OW := Lib.hid own1
    have HBB := Lib.hid (hB'.mo M1)
    clear hv hI he hrow own1 hK hM y5 NX hB' M1 hB
    have c2' := x2.cell
    have c3 := x3.cell
    have c4 := x4.cell
    have c5 := x5.cell
    have f2 := x2.frozen
    have f3 := x3.frozen
    have f4 := x4.frozen
    obtain ⟨r, hr⟩ : ∃ r, nextM (bs.drop (endF bs 0)) = r := ⟨_, rfl⟩
    have hr' := hr
    rw [hr]
    obtain ⟨r1, r2⟩ := r
    have NR := Lib.hid hr'
    clear hr hr'
    have HS := Lib.hid hS
    have HL := Lib.hid hlen
    have PE := Lib.hid pe
    clear hS hlen pe
    by_cases e3 : r1 = 3
    · subst e3
      have hTM : takeM bs = ([], [], 8) := by
        unfold takeM
        simp only [List.length_map]
        rw [if_neg (by have := HL.out; omega), NR.out]
        rfl
      have HTM := Lib.hid hTM
      clear hTM
      go_wp2_with fail
      have z2 := ((x2.set (.slice none 0 0)).other (B' := W.heap.size + 1) (by omega) (.slice none 0 0)).other (B' := W.heap.size + 1 + 1) (by omega) (.int .i64 8)
      have z3 := ((x3.other (B' := W.heap.size) (by omega) (.slice none 0 0)).set (.slice none 0 0)).other (B' := W.heap.size + 1 + 1) (by omega) (.int .i64 8)
      have z4 := ((x4.other (B' := W.heap.size) (by omega) (.slice none 0 0)).other (B' := W.heap.size + 1) (by omega) (.slice none 0 0)).set (.int .i64 8)
      have hK2 := (((KeepsOthers.setCell w1 ⟨W.heap.size, 0, none⟩ (.slice none 0 0)).trans (KeepsOthers.setCell _ ⟨W.heap.size + 1, 0, none⟩ (.slice none 0 0))).trans (KeepsOthers.setCell _ ⟨W.heap.size + 1 + 1, 0, none⟩ (.int .i64 8))).same D _ hK1 rfl
      have hM2 := mo_setCell (mo_setCell (mo_setCell hB1 (g := W.heap.size) (by omega) 0 (.slice none 0 0)) (g := W.heap.size + 1) (by omega) 0 (.slice none 0 0)) (g := W.heap.size + 1 + 1) (by omega) 0 (.int .i64 8)
      refine take_ret _ _ _ D _ _ _ _ _ _ _ rfl rfl rfl rfl z2 z3 z4 hK2 ?_
      rw [HTM.out]
      exact ⟨_, _, rfl, fext_nil _ _, fbyte_nil _ _, hM2.of_below (belowK_b (w := w) hWw.size _ D _ _ hD hK2 rfl rfl)⟩
    · by_cases e1 : r1 = 1
      · subst e1
        have hTM : takeM bs = ((parse bs 0).map fldOf, bs.drop (endF bs 0), 0) := by
          unfold takeM
          simp only [List.length_map]
          rw [if_neg (by have := HL.out; omega), NR.out]
          rfl
        have HTM := Lib.hid hTM
        clear hTM e3
        have hpos : 0 < (bs.drop (endF bs 0)).length := by
          rcases Nat.eq_zero_or_pos (bs.drop (endF bs 0)).length with h | h
          · have := NR.out
            unfold nextM at this
            rw [if_pos h] at this
            simp at this
          · exact h
        obtain ⟨g', off', rfl, -, -⟩ := HBB.out.get hpos
        have hpos' : 0 < n - endF bs 0 := by rw [List.length_drop, HN.out] at hpos; exact hpos
        have CL := Lib.hid (fun w (k : Mo w1 w) => cloneB_own ⟨g', off', none⟩ (n - endF bs 0) (cap - endF bs 0) (bs.drop (endF bs 0)) w (by rw [List.length_drop, HN.out]) (HBB.out.mo k))
        clear hpos
        go_wp2_with fail
        refine (CL.out _ (Mo.refl _)).mono ?_
        rintro e w2 ⟨v2, rfl, hv2, M2⟩
        obtain ⟨g5, c5', rfl, -, -⟩ := owns_form hv2 hpos'
        have X2 := boxed_mo x2 M2
        have X3 := boxed_mo x3 M2
        have X4 := boxed_mo x4 M2
        have R2 := owns_mo row1 M2
        have hK2 := (M2.below.block D (Array.getElem?_eq_some_iff.1 hK1).1).trans hK1
        have O2 := Lib.hid (fun x hx => (⟨owns_mo (OW.out x hx).1 M2, (OW.out x hx).2⟩ : _ ∧ _))
        have hB2 := hB1.trans M2
        have hb1 := hB1.size
        clear x2 x3 x4 x5 row1 hK1 c2' c3 c4 c5 f2 f3 f4 M2 CL hs1 hs2
        have c2' := X2.cell
        have c3 := X3.cell
        have c4 := X4.cell
        have f2 := X2.frozen
        have f3 := X3.frozen
        have f4 := X4.frozen
        go_wp2_with fail
        go_region
        go_wp2_with fail
        have hMZ : Mo W ((((w2.setCell ⟨W.heap.size + 1, 0, none⟩ (.slice (some ⟨g5, 0, none⟩) (n - endF bs 0) c5')).setCell ⟨W.heap.size, 0, none⟩ (.slice A2 xs.length c2)).setCell ⟨W.heap.size + 1, 0, none⟩ (.slice (some ⟨g5, 0, none⟩) (n - endF bs 0) c5')).setCell ⟨W.heap.size + 1 + 1, 0, none⟩ (.int .i64 0)).drew :=
          Mo.trans (mo_setCell (mo_setCell (mo_setCell (mo_setCell hB2 (g := W.heap.size + 1) (by omega) 0 (.slice (some ⟨g5, 0, none⟩) (n - endF bs 0) c5')) (g := W.heap.size) (by omega) 0 (.slice A2 xs.length c2)) (g := W.heap.size + 1) (by omega) 0 (.slice (some ⟨g5, 0, none⟩) (n - endF bs 0) c5')) (g := W.heap.size + 1 + 1) (by omega) 0 (.int .i64 0)) Mor.out
        have hZ : ∀ k, k ≠ W.heap.size → k ≠ W.heap.size + 1 → k ≠ W.heap.size + 1 + 1 → ((((w2.setCell ⟨W.heap.size + 1, 0, none⟩ (.slice (some ⟨g5, 0, none⟩) (n - endF bs 0) c5')).setCell ⟨W.heap.size, 0, none⟩ (.slice A2 xs.length c2)).setCell ⟨W.heap.size + 1, 0, none⟩ (.slice (some ⟨g5, 0, none⟩) (n - endF bs 0) c5')).setCell ⟨W.heap.size + 1 + 1, 0, none⟩ (.int .i64 0)).drew.heap[k]? = w2.heap[k]? := fun k k2 k3 k4 => by
          show (World.setCell _ _ _).heap[k]? = _
          rw [Below.heap_setCell _ _ _ _ k4, Below.heap_setCell _ _ _ _ k3, Below.heap_setCell _ _ _ _ k2, Below.heap_setCell _ _ _ _ k3]
        have hDn := hWw.size
        have Dne : ∀ (B : Nat) (t : TypeId) (u : Value), Boxed w2 B t u → D ≠ B := fun B t u hb e => by
          subst e
          rw [show w2.heap[D]? = _ from hb] at hK2
          cases hK2
        have hK3 := (hZ D (Dne _ _ _ X2) (Dne _ _ _ X3) (Dne _ _ _ X4)).trans hK2
        have z2 := (((X2.other (B' := W.heap.size + 1) (by omega) (.slice (some ⟨g5, 0, none⟩) (n - endF bs 0) c5')).set (.slice A2 xs.length c2)).other (B' := W.heap.size + 1) (by omega) (.slice (some ⟨g5, 0, none⟩) (n - endF bs 0) c5')).other (B' := W.heap.size + 1 + 1) (by omega) (.int .i64 0)
        have z3 := (((X3.set (.slice (some ⟨g5, 0, none⟩) (n - endF bs 0) c5')).other (B' := W.heap.size) (by omega) (.slice A2 xs.length c2)).set (.slice (some ⟨g5, 0, none⟩) (n - endF bs 0) c5')).other (B' := W.heap.size + 1 + 1) (by omega) (.int .i64 0)
        have z4 := (((X4.other (B' := W.heap.size + 1) (by omega) (.slice (some ⟨g5, 0, none⟩) (n - endF bs 0) c5')).other (B' := W.heap.size) (by omega) (.slice A2 xs.length c2)).other (B' := W.heap.size + 1) (by omega) (.slice (some ⟨g5, 0, none⟩) (n - endF bs 0) c5')).set (.int .i64 0)
        have hl2 : (bs.drop (endF bs 0)).length = n - endF bs 0 := by rw [List.length_drop, HN.out]
        obtain ⟨F1, F2, F3⟩ := take_finO (m := bs.drop (endF bs 0)) X2 X3 X4 R2 O2.out hle (by rw [hl2]; exact owns_base hv2 (by omega)) HBB.out.lim HBB.out.byte hZ hMZ hD hDn hK3
        refine take_ret _ _ _ D _ _ _ _ _ _ _ rfl rfl rfl rfl z2 z3 z4 hK3 ?_
        rw [HTM.out]
        exact ⟨_, _, rfl, by rw [← HS.out, List.map_map]; exact F1, F2, F3⟩
      · have hTM : takeM bs = ((parse bs 0).map fldOf, [], 0) := by
          unfold takeM
          simp only [List.length_map]
          rw [if_neg (by have := HL.out; omega), NR.out, if_neg e3, if_neg e1]
        have HTM := Lib.hid hTM
        have d3 : (r1 == 3) = false := by simp [e3]
        have d1 : (r1 == 1) = false := by simp [e1]
        clear hTM e3 e1
        go_wp2_with fail
        go_region
        go_wp2_with fail
        have hMZ : Mo W (((w1.setCell ⟨W.heap.size, 0, none⟩ (.slice A2 xs.length c2)).setCell ⟨W.heap.size + 1, 0, none⟩ (.slice none 0 0)).setCell ⟨W.heap.size + 1 + 1, 0, none⟩ (.int .i64 0)).drew :=
          Mo.trans (mo_setCell (mo_setCell (mo_setCell hB1 (g := W.heap.size) (by omega) 0 (.slice A2 xs.length c2)) (g := W.heap.size + 1) (by omega) 0 (.slice none 0 0)) (g := W.heap.size + 1 + 1) (by omega) 0 (.int .i64 0)) Mor.out
        have hZ : ∀ k, k ≠ W.heap.size → k ≠ W.heap.size + 1 → k ≠ W.heap.size + 1 + 1 → (((w1.setCell ⟨W.heap.size, 0, none⟩ (.slice A2 xs.length c2)).setCell ⟨W.heap.size + 1, 0, none⟩ (.slice none 0 0)).setCell ⟨W.heap.size + 1 + 1, 0, none⟩ (.int .i64 0)).drew.heap[k]? = w1.heap[k]? := fun k k2 k3 k4 => by
          show (World.setCell _ _ _).heap[k]? = _
          rw [Below.heap_setCell _ _ _ _ k4, Below.heap_setCell _ _ _ _ k3, Below.heap_setCell _ _ _ _ k2]
        have hDn := hWw.size
        have Dne : ∀ (B : Nat) (t : TypeId) (u : Value), Boxed w1 B t u → D ≠ B := fun B t u hb e => by
          subst e
          rw [show w1.heap[D]? = _ from hb] at hK1
          cases hK1
        have hK3 := (hZ D (Dne _ _ _ x2) (Dne _ _ _ x3) (Dne _ _ _ x4)).trans hK1
        have z2 := ((x2.set (.slice A2 xs.length c2)).other (B' := W.heap.size + 1) (by omega) (.slice none 0 0)).other (B' := W.heap.size + 1 + 1) (by omega) (.int .i64 0)
        have z3 := ((x3.other (B' := W.heap.size) (by omega) (.slice A2 xs.length c2)).set (.slice none 0 0)).other (B' := W.heap.size + 1 + 1) (by omega) (.int .i64 0)
        have z4 := ((x4.other (B' := W.heap.size) (by omega) (.slice A2 xs.length c2)).other (B' := W.heap.size + 1) (by omega) (.slice none 0 0)).set (.int .i64 0)
        obtain ⟨F1, F2, F3⟩ := take_finO (m := []) x2 x3 x4 row1 OW.out hle (World.ownsRow_nil _ _ _ _) (by simp) (by simp) hZ hMZ hD hDn hK3
        refine take_ret _ _ _ D _ _ _ _ _ _ _ rfl rfl rfl rfl z2 z3 z4 hK3 ?_
        rw [HTM.out]
        exact ⟨_, _, rfl, by rw [← HS.out, List.map_map]; exact F1, F2, F3⟩
  case stop =>
    rintro D c pre Wr hD ⟨r, hr⟩ ⟨hX, hB⟩ hK
    obtain rfl := hX.ret
    have hTM : takeM bs = ([], [], 3) := by
      unfold takeM
      simp only [List.length_map]
      rw [if_pos (by rw [← hr, List.length_append, List.length_map, hX.len]; omega)]
    have HTM := Lib.hid hTM
    clear hTM
    gi_wp2
    refine take_ret _ _ _ D _ _ _ _ _ _ _ rfl rfl rfl rfl hX.l hX.m hX.c hK ?_
    rw [HTM.out]
    exact ⟨_, _, rfl, fext_nil _ _, fbyte_nil _ _, (Mo.of hB).of_below (belowK_b (w := w) hWw.size _ D _ _ hD hK rfl rfl)⟩
end Go.Proofs.Ytcflebggepmmcaa
/- packet.Take: what bytes are as a packet. -/
namespace Go.Proofs.Ytcflebggepmmcaa
open Go.RowKit

structure Pk where
  h : Hd
  e : List Fld
  m : List Int
def pk0 : Pk := ⟨hd0, [], []⟩
def takeP (bs : List Int) : Pk × Int := if bs.length < 48 then (pk0, 8) else if (takeM (bs.drop 48)).2.2 = 0 then (⟨hdOf bs, (takeM (bs.drop 48)).1, (takeM (bs.drop 48)).2.1⟩, 0) else (pk0, (takeM (bs.drop 48)).2.2)
abbrev pkL (h : Hd) (x m : Value) : List Value := [.int .u8 h.l, .int .u8 h.v, .int .u8 h.m, .int .u8 h.s, .int .i8 h.po, .int .i8 h.pr, .int .u32 h.rd, .int .u32 h.rp, .int .u8 h.a, .int .u8 h.b, .int .u8 h.c, .int .u8 h.d, .int .u64 h.f, .int .u64 h.o, .int .u64 h.r, .int .u64 h.x, x, m]
abbrev pkV (h : Hd) (x m : Value) : Value := .agg (pkL h x m).toArray
/-- a value that reads as a packet, whose parts lie in w's blocks from base on -/
def PkF (base : Nat) (w : World) (p : Pk) (v : Value) : Prop := ∃ a1 c1 a2 c2, v = pkV p.h (.slice a1 p.e.length c1) (.slice a2 p.m.length c2) ∧ FExt base w (.slice a1 p.e.length c1) p.e ∧ FByte base w (.slice a2 p.m.length c2) p.m
def PTakeRet (r : Pk × Int) (W : World) (e : Ending) (w' : World) : Prop := ∃ v, e = .returned (.tuple #[v, .int .i64 r.2]) ∧ PkF W.heap.size w' r.1 v ∧ Mo W w'
set_option maxRecDepth 20000 in
theorem pkF_nil (b : Nat) (w : World) : PkF b w pk0 (pkV ⟨0, 0, 0, 0, 0, 0, 0, 0, 0, 0, 0, 0, 0, 0, 0, 0⟩ (.slice none 0 0) (.slice none 0 0)) := ⟨none, 0, none, 0, rfl, fext_nil _ _, fbyte_nil _ _⟩
set_option maxRecDepth 20000 in
theorem fext_form {b : Nat} {w : World} {v : Value} {l : List Fld} (h : FExt b w v l) : ∃ a c, v = .slice a l.length c := by
  obtain ⟨a, c, e, _⟩ := h.now
  exact ⟨a, c, e⟩
set_option maxRecDepth 20000 in
theorem fbyte_form {b : Nat} {w : World} {v : Value} {l : List Int} (h : FByte b w v l) : ∃ a c, v = .slice a l.length c := by
  obtain ⟨a, c, e, _⟩ := h.now
  exact ⟨a, c, e⟩
set_option maxRecDepth 20000 in
theorem byteS_none (w : World) : ByteS w none 0 [] := ⟨by simp, by simp, by simp, fun _ => rfl, .inl rfl⟩
set_option maxRecDepth 20000 in
theorem extS_none (w : World) : ExtS w none 0 [] := ⟨by simp, by simp, fun _ => rfl, .inl rfl⟩
attribute [local go_sem] blk_cell' blk_frozen'
attribute [local go_sem ↓] storeAt_hd storeAt_pk
attribute [local go_sem] run_storeHdAt run_storePk
set_option maxRecDepth 20000 in
set_option maxHeartbeats 8000000 in
theorem ptake_any (n cap : Nat) (A : Option Addr) (bs : List Int) (W : World) (hn : bs.length = n) (h : ByteS W A cap bs) :
    Calls Try.prog 48 #[.slice A n cap] W (PTakeRet (takeP bs) W) := by
  have hlim := h.lim
  have hle := h.le
  obtain ⟨r, hr⟩ : ∃ r, takeP bs = r := ⟨_, rfl⟩
  rw [hr]
  have HR := Lib.hid hr
  obtain ⟨R, hR⟩ : ∃ R, PTakeRet r W = R := ⟨_, rfl⟩
  rw [hR]
  have RR := Lib.hid hR
  clear hR hr
  have HT := Lib.hid (fun w (k : Mo W w) => htake_any n cap A bs w hn (h.mo k))
  have HN := Lib.hid hn
  rw [hn] at hlim hle
  have HB := Lib.hid h
  clear hn h
  by_cases cn : n < 48
  · go_enter Try.func48, Try.ntmps48
    go_wp2_with fail
    refine (HT.out _ Mor.out).mono ?_
    rintro e w1 ⟨rfl, M1⟩
    rw [HN.out, if_pos cn, if_pos cn]
    have B0 : Blk w1 W.heap.size 66 (pkL hd0 (.slice none 0 0) (.slice none 0 0)).toArray := M1.blk inferInstance
    have M1' := (Mor.out : Mo W _).trans M1
    clear M1
    go_wp2_with fail
    obtain ⟨w2, hw2⟩ : ∃ w2, w1.setRow W.heap.size (pkL ⟨0, 0, 0, 0, 0, 0, 0, 0, 0, 0, 0, 0, 0, 0, 0, 0⟩ (.slice none 0 0) (.slice none 0 0)).toArray = w2 := ⟨_, rfl⟩
    have B2 : Blk w2 W.heap.size 66 (pkL ⟨0, 0, 0, 0, 0, 0, 0, 0, 0, 0, 0, 0, 0, 0, 0, 0⟩ (.slice none 0 0) (.slice none 0 0)).toArray := by rw [← hw2]; exact blk_setRow B0
    have M2 : Mo W w2 := by rw [← hw2]; exact mo_setRow M1' (Nat.le_refl _) _
    have B2' := (Mor.out : Mo w2 (w2.alloc (.cells (hdC hd0) 63))).blk B2
    rw [hw2]
    clear hw2
    refine ret_cell_tmp Try.results48 W.heap.size (pkV ⟨0, 0, 0, 0, 0, 0, 0, 0, 0, 0, 0, 0, 0, 0, 0, 0⟩ (.slice none 0 0) (.slice none 0 0)) rfl rfl (load_pk B2' rfl) ?_
    rw [← RR.out, ← HR.out]
    unfold takeP
    rw [if_pos (by rw [HN.out]; exact cn)]
    exact ⟨_, rfl, pkF_nil _ _, M2.trans Mor.out⟩
  · obtain ⟨A', hB', hs1, -⟩ := HB.out.drop 48 (by rw [HN.out]; omega)
    rw [HN.out] at hs1
    have hs1 : ∀ w : World, (Instr.slice 39 (.slice A n cap) (some (.int .i64 48)) none none).run Try.prog w = .ok (.slice A' (n - 48) (cap - 48)) w := hs1
    have TK := Lib.hid (fun w (k : Mo W w) => take_own A' (cap - 48) (n - 48) (bs.drop 48) w (by rw [List.length_drop, HN.out]) (hB'.mo k))
    clear hB'
    go_enter Try.func48, Try.ntmps48
    go_wp2_with fail
    refine (HT.out _ Mor.out).mono ?_
    rintro e w0 ⟨rfl, M0⟩
    rw [HN.out, if_neg cn, if_neg cn]
    have B00 : Blk w0 W.heap.size 66 (pkL hd0 (.slice none 0 0) (.slice none 0 0)).toArray := M0.blk inferInstance
    have M0' := (Mor.out : Mo W _).trans M0
    clear M0
    obtain ⟨hh, hhh⟩ : ∃ hh, hdOf bs = hh := ⟨_, rfl⟩
    rw [hhh]
    have HHH := Lib.hid hhh
    clear hhh
    go_wp2_with fail
    refine (TK.out _ (M0'.trans Mor.out)).mono ?_
    rintro e w1 ⟨v1, v2, rfl, X1, X2, M1⟩
    obtain ⟨a1, c1, rfl⟩ := fext_form X1
    obtain ⟨a2, c2, rfl⟩ := fbyte_form X2
    have B0 : Blk w1 W.heap.size 66 (pkL hd0 (.slice none 0 0) (.slice none 0 0)).toArray := M1.blk inferInstance
    have Bh : Blk w1 w0.heap.size 63 (hdC hh) := M1.blk inferInstance
    have M1' := (M0'.trans Mor.out).trans M1
    clear M1
    obtain ⟨ts, hts⟩ : ∃ ts, takeM (bs.drop 48) = ts := ⟨_, rfl⟩
    have HT2 := Lib.hid hts
    rw [hts] at X1 X2 ⊢
    clear hts
    obtain ⟨tl, tm, tc⟩ := ts
    simp only at X1 X2
    have HX1 := Lib.hid X1
    have HX2 := Lib.hid X2
    clear X1 X2
    simp only
    generalize hn1 : tl.length = n1 at *
    generalize hn2 : tm.length = n2 at *
    have HN1 := Lib.hid hn1
    have HN2 := Lib.hid hn2
    clear hn1 hn2
    by_cases ct : tc = 0
    · subst ct
      go_wp2_with fail
      obtain ⟨w2, hw2⟩ : ∃ w2, w1.setRow W.heap.size (pkL hh (.slice a1 n1 c1) (.slice a2 n2 c2)).toArray = w2 := ⟨_, rfl⟩
      have B2 : Blk w2 W.heap.size 66 (pkL hh (.slice a1 n1 c1) (.slice a2 n2 c2)).toArray := by rw [← hw2]; exact blk_setRow B0
      have M2 : Mo W w2 := by rw [← hw2]; exact mo_setRow M1' (Nat.le_refl _) _
      have hS := M0'.size
      have K2 : ∀ k, w0.heap.size + 1 ≤ k → k < w1.heap.size → w2.heap[k]? = w1.heap[k]? := fun k h1 _ => by
        have h3 := B00.lt
        rw [← hw2]
        exact setRow_get_ne w1 W.heap.size k _ (by omega)
      have K3 : w1.heap.size ≤ w2.heap.size := by rw [← hw2]; exact Nat.le_of_eq (setRow_size' _ _ _).symm
      rw [hw2]
      clear hw2
      refine ret_cell_tmp Try.results48 W.heap.size (pkV hh (.slice a1 n1 c1) (.slice a2 n2 c2)) rfl rfl (load_pk B2 rfl) ?_
      rw [← RR.out, ← HR.out]
      unfold takeP
      rw [if_neg (by rw [HN.out]; exact cn), HT2.out, if_pos rfl]
      have HH := HHH.out
      obtain rfl := HN1.out
      obtain rfl := HN2.out
      refine ⟨_, rfl, ⟨a1, c1, a2, c2, by rw [HH], ?_, ?_⟩, M2⟩
      · have h1 := HX1.out
        simp only [World.size_alloc] at h1
        exact h1.to (by omega) K3 K2
      · have h1 := HX2.out
        simp only [World.size_alloc] at h1
        exact h1.to (by omega) K3 K2
    · have d0 : (tc != 0) = true := by simp [ct]
      have CT := Lib.hid ct
      clear ct
      go_wp2_with fail
      obtain ⟨w2, hw2⟩ : ∃ w2, w1.setRow W.heap.size (pkL ⟨0, 0, 0, 0, 0, 0, 0, 0, 0, 0, 0, 0, 0, 0, 0, 0⟩ (.slice none 0 0) (.slice none 0 0)).toArray = w2 := ⟨_, rfl⟩
      have B2 : Blk w2 W.heap.size 66 (pkL ⟨0, 0, 0, 0, 0, 0, 0, 0, 0, 0, 0, 0, 0, 0, 0, 0⟩ (.slice none 0 0) (.slice none 0 0)).toArray := by rw [← hw2]; exact blk_setRow B0
      have M2 : Mo W w2 := by rw [← hw2]; exact mo_setRow M1' (Nat.le_refl _) _
      have B2' := B2
      rw [hw2]
      clear hw2
      refine ret_cell_tmp Try.results48 W.heap.size (pkV ⟨0, 0, 0, 0, 0, 0, 0, 0, 0, 0, 0, 0, 0, 0, 0, 0⟩ (.slice none 0 0) (.slice none 0 0)) rfl rfl (load_pk B2' rfl) ?_
      rw [← RR.out, ← HR.out]
      unfold takeP
      rw [if_neg (by rw [HN.out]; exact cn), HT2.out, if_neg CT.out]
      exact ⟨_, rfl, pkF_nil _ _, M2⟩
end Go.Proofs.Ytcflebggepmmcaa
