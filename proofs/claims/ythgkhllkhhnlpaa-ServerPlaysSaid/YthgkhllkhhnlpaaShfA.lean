/- shift: a detector, plain and in memory; New, best, apart, Live, Clone. -/
import Derived.Test.YthgkhllkhhnlpaaBlkS
import Derived.Test.YthgkhllkhhnlpaaWideS
import Derived.Laws.AppendOwn
import Derived.Lib.Hide
import Derived.BigRegion
namespace Go.Proofs.Ythgkhllkhhnlpaa
open Go.RowKit

abbrev OD := Int × Int
def bestF (x : OD) (l : List OD) : OD := l.foldl (fun x y => if y.2 < x.2 then y else x) x
def bestO : List OD → Int
  | [] => 0
  | x :: l => (bestF x l).1
def farI (a b : Int) : Int := if b < a then a - b else b - a
structure Sd where
  w : Nat
  bd : Int
  l : List OD
  c : Nat
def sd0 (w : Nat) (bd : Int) : Sd := ⟨w, bd, [], 0⟩
/-- the window behind a further sample -/
def addL (D : Sd) (x : OD) : List OD := (D.l ++ [x]).drop (D.l.length + 1 - 2 * D.w)
def stepO (w : Nat) (bd : Int) (l : List OD) (c : Nat) : Option (Nat × Int × Int) :=
  if l.length < 2 * w then none else if bd < farI (bestO (l.take w)) (bestO (l.drop w)) then some (c - w, bestO (l.take w), bestO (l.drop w)) else none
def addD (D : Sd) (x : OD) : Sd := ⟨D.w, D.bd, addL D x, D.c + 1⟩
def tellD (D : Sd) (x : OD) : Option (Nat × Int × Int) := stepO D.w D.bd (addL D x) (D.c + 1)
def Is64S (x : Int) : Prop := -9223372036854775808 ≤ x ∧ x ≤ 9223372036854775807
structure SdOk (D : Sd) : Prop where
  w0 : 1 ≤ D.w
  w1 : D.w ≤ 64
  b0 : 0 ≤ D.bd
  b1 : D.bd ≤ 9223372036854775807
  l : D.l.length ≤ 2 * D.w
  c : D.l.length ≤ D.c
  c1 : D.c ≤ 1000000
  ok : ∀ x ∈ D.l, Is64S x.1 ∧ Is64S x.2
set_option maxRecDepth 20000 in
theorem addL_len (D : Sd) (x : OD) : (addL D x).length = min (D.l.length + 1) (2 * D.w) := by
  unfold addL
  rw [List.length_drop, List.length_append, List.length_singleton]
  omega
set_option maxRecDepth 20000 in
theorem addD_ok {D : Sd} {x : OD} (h : SdOk D) (hx : Is64S x.1 ∧ Is64S x.2) (hc : D.c + 1 ≤ 1000000) : SdOk (addD D x) := by
  have hl := addL_len D x
  have := h.l
  have := h.c
  refine ⟨h.w0, h.w1, h.b0, h.b1, ?_, ?_, hc, fun y hy => ?_⟩
  · show (addL D x).length ≤ 2 * D.w
    omega
  · show (addL D x).length ≤ D.c + 1
    omega
  · have hy' := List.mem_of_mem_drop hy
    rcases List.mem_append.1 hy' with hy' | hy'
    · exact h.ok y hy'
    · rw [List.mem_singleton] at hy'
      rw [hy']
      exact hx
set_option maxRecDepth 20000 in
theorem bestF_snoc (x : OD) (l : List OD) (y : OD) : bestF x (l ++ [y]) = if y.2 < (bestF x l).2 then y else bestF x l := by unfold bestF; rw [List.foldl_append]; rfl
set_option maxRecDepth 20000 in
theorem bestF_take (x : OD) (l : List OD) (j : Nat) (hj : j < l.length) : bestF x (l.take (j + 1)) = if l[j].2 < (bestF x (l.take j)).2 then l[j] else bestF x (l.take j) := by
  rw [List.take_add_one, List.getElem?_eq_getElem hj]
  exact bestF_snoc _ _ _
/-! ### in memory -/
def odC (x : OD) : List Value := [.int .i64 x.1, .int .i64 x.2]
def odL (l : List OD) : List Value := l.flatMap odC
set_option maxRecDepth 20000 in
theorem odL_snoc (l : List OD) (x : OD) : odL (l ++ [x]) = odL l ++ odC x := by unfold odL; rw [List.flatMap_append]; simp
set_option maxRecDepth 20000 in
theorem odL_len (l : List OD) : (odL l).length = l.length * 2 := by
  induction l with
  | nil => rfl
  | cons x l ih =>
    show (odC x ++ odL l).length = _
    rw [List.length_append, ih, List.length_cons]
    show 2 + _ = _
    omega
set_option maxRecDepth 20000 in
theorem odL_get (l : List OD) : ∀ (j : Nat) (h : j < l.length) (i : Nat), i < 2 → (odL l)[j * 2 + i]? = (odC l[j])[i]? := by
  induction l with
  | nil => intro j h; cases h
  | cons x l ih =>
    intro j h i hi
    show (odC x ++ odL l)[j * 2 + i]? = _
    cases j with
    | zero => rw [Nat.zero_mul, Nat.zero_add, List.getElem?_append_left (by show i < 2; exact hi)]; rfl
    | succ j =>
      rw [List.getElem?_append_right (by show 2 ≤ _; omega)]
      have e : (j + 1) * 2 + i - (odC x).length = j * 2 + i := by show _ - 2 = _; omega
      rw [e, ih j (by simpa using h) i hi]
      rfl
set_option maxRecDepth 20000 in
theorem odL_drop (l : List OD) : ∀ k, odL (l.drop k) = (odL l).drop (k * 2) := by
  induction l with
  | nil => intro k; simp [odL]
  | cons x l ih =>
    intro k
    cases k with
    | zero => rw [Nat.zero_mul]; rfl
    | succ k =>
      have e : odL (x :: l) = odC x ++ odL l := rfl
      have e2 : (odC x).drop ((k + 1) * 2) = [] := List.drop_eq_nil_of_le (by show 2 ≤ _; omega)
      rw [List.drop_succ_cons, ih k, e, List.drop_append, e2, List.nil_append]
      congr 1
      show _ = _ - 2
      omega
set_option maxRecDepth 20000 in
theorem odL_one (l : List OD) : ∀ u ∈ odL l, u.oneCell' = true := fun u hu => by
  obtain ⟨x, _, hx⟩ := List.mem_flatMap.1 hu
  simp only [odC, List.mem_cons, List.not_mem_nil, or_false] at hx
  rcases hx with rfl | rfl <;> rfl
/-- samples at a place -/
def ODat (W : World) (g off : Nat) (l : List OD) : Prop := ∀ j u, (odL l)[j]? = some u → W.cell? ⟨g, off + j, none⟩ = some u
set_option maxRecDepth 20000 in
theorem ODat.mo {W w : World} {g off : Nat} {l : List OD} (h : ODat W g off l) (k : Mo W w) : ODat w g off l := fun j u hj => by
  have y := h j u hj
  have : LtW g W := LtW.of_cell y
  rw [k.cell, y]
set_option maxRecDepth 20000 in
theorem ODat.get {W : World} {g off : Nat} {l : List OD} (h : ODat W g off l) (j : Nat) (hj : j < l.length) : W.cell? ⟨g, off + j * 2, none⟩ = some (.int .i64 l[j].1) ∧ W.cell? ⟨g, off + j * 2 + 1, none⟩ = some (.int .i64 l[j].2) := by
  have h0 := h (j * 2) _ (by have := odL_get l j hj 0 (by omega); rw [Nat.add_zero] at this; exact this)
  have h1 := h (j * 2 + 1) _ (odL_get l j hj 1 (by omega))
  exact ⟨h0, h1⟩
set_option maxRecDepth 20000 in
theorem ODat.drop {W : World} {g off : Nat} {l : List OD} (h : ODat W g off l) (k : Nat) : ODat W g (off + k * 2) (l.drop k) := fun j u hj => by
  rw [odL_drop, List.getElem?_drop] at hj
  have := h _ _ hj
  rw [← Nat.add_assoc] at this
  exact this
set_option maxRecDepth 20000 in
theorem ODat.take {W : World} {g off : Nat} {l : List OD} (h : ODat W g off l) (k : Nat) : ODat W g off (l.take k) := fun j u hj => by
  refine h j u ?_
  have e : odL l = odL (l.take k) ++ odL (l.drop k) := by
    conv => lhs; rw [← List.take_append_drop k l]
    unfold odL
    rw [List.flatMap_append]
  rw [e, List.getElem?_append_left (List.getElem?_eq_some_iff.1 hj).1]
  exact hj
set_option maxRecDepth 20000 in
theorem own_od {W : World} {b n g c : Nat} {l : List OD} (h : W.ownsRow b 145 2 (.slice (some ⟨g, 0, none⟩) n c) n (odL l)) : ODat W g 0 l := fun j u hj => by
  rcases h.2 with ⟨e, _⟩ | ⟨g', cap, cur, e, hb, hg, h3, h4, h5, h6⟩
  · cases e
  · injection e with e1 e2 e3
    injection e1 with e1
    injection e1 with e1
    subst e1
    have B : Blk W g 145 cur := ⟨hg⟩
    have lt := (List.getElem?_eq_some_iff.1 hj).1
    rw [Nat.zero_add, blk_cell B, ← Array.getElem?_toList]
    rw [← h6, List.getElem?_take_of_lt (by have := h.1; omega)] at hj
    exact hj
attribute [local go_sem] blk_cell' blk_frozen'
/-! ### New, apart -/
set_option maxRecDepth 20000 in
theorem run_build_det (w : Int) (bd : Int) (W : World) : (Instr.build 131 #[(0, .int .i64 w), (1, .int .i64 bd)]).run Try.prog W = .ok (.agg #[.int .i64 w, .int .i64 bd, .slice none 0 0, .int .u64 0]) W := run_build W _ _ _ (by kernel_rfl)
structure ShIs (W : World) (p b : Nat) (v : Value) (D : Sd) : Prop where
  m : Blk W p 131 #[.int .i64 (D.w : Nat), .int .i64 D.bd, v, .int .u64 (D.c : Nat)]
  row : W.ownsRow b 145 2 v D.l.length (odL D.l)
  ok : SdOk D
set_option maxRecDepth 20000 in
set_option maxHeartbeats 2000000 in
theorem snew_in (n : Nat) (bd : Int) (W : World) (h1 : 1 ≤ n) (h2 : n ≤ 64) (h3 : 0 ≤ bd) (h4 : bd ≤ 9223372036854775807) (b : Nat) :
    Calls Try.prog 28 #[.int .i64 (n : Nat), .int .i64 bd] W fun e w' => ∃ p, e = .returned (.tuple #[.pointer (some ⟨p, 0, none⟩), .int .i64 0]) ∧ W.heap.size ≤ p ∧ ShIs w' p b (.slice none 0 0) (sd0 n bd) ∧ Mo W w' := by
  have hb := run_build_det
  have d1 : decide ((n : Int) < 1) = false := decide_eq_false (by omega)
  have d1' : decide (n < 1) = false := decide_eq_false (by omega)
  have d2 : decide ((64 : Int) < n) = false := decide_eq_false (by omega)
  have d2' : decide (64 < n) = false := decide_eq_false (by omega)
  have d3 : decide (bd < 0) = false := decide_eq_false (by omega)
  go_enter Try.func28, Try.ntmps28
  go_wp2_with fail
  go_ret2
  exact ⟨W.heap.size, rfl, Nat.le_refl _, ⟨inferInstance, ⟨rfl, .inl ⟨rfl, rfl⟩⟩, ⟨h1, h2, h3, h4, Nat.zero_le _, Nat.le_refl _, by show (0 : Nat) ≤ 1000000; omega, fun x hx => by cases hx⟩⟩, Mor.out⟩
set_option maxRecDepth 20000 in
set_option maxHeartbeats 2000000 in
theorem snew_out (n bd : Int) (W : World) (c : n < 1 ∨ 64 < n ∨ bd < 0) :
    Calls Try.prog 28 #[.int .i64 n, .int .i64 bd] W fun e w' => e = .returned (.tuple #[.pointer none, .int .i64 2]) ∧ Mo W w' := by
  by_cases c1 : n < 1
  · have d1 : decide (n < 1) = true := decide_eq_true c1
    clear c
    go_enter Try.func28, Try.ntmps28
    go_wp2_with fail
    go_ret2
    exact ⟨rfl, Mor.out⟩
  have d1 : decide (n < 1) = false := decide_eq_false c1
  by_cases c2 : 64 < n
  · have d2 : decide (64 < n) = true := decide_eq_true c2
    clear c
    go_enter Try.func28, Try.ntmps28
    go_wp2_with fail
    go_ret2
    exact ⟨rfl, Mor.out⟩
  have d2 : decide (64 < n) = false := decide_eq_false c2
  have d3 : decide (bd < 0) = true := decide_eq_true (by omega)
  clear c
  go_enter Try.func28, Try.ntmps28
  go_wp2_with fail
  go_ret2
  exact ⟨rfl, Mor.out⟩
set_option maxRecDepth 20000 in
theorem wrapU_diff {a b : Int} (ha : Is64S a) (hb : Is64S b) (h : b ≤ a) : IntKind.u64.wrap (IntKind.u64.wrap a - IntKind.u64.wrap b) = a - b := by
  obtain ⟨a1, a2⟩ := ha
  obtain ⟨b1, b2⟩ := hb
  rw [IntKind.wrap_u64, IntKind.wrap_u64, IntKind.wrap_u64]
  omega
set_option maxRecDepth 20000 in
set_option maxHeartbeats 2000000 in
theorem apart_any (a b bd : Int) (W : World) (ha : Is64S a) (hb : Is64S b) (h0 : 0 ≤ bd) (h1 : bd ≤ 9223372036854775807) :
    Calls Try.prog 58 #[.int .i64 a, .int .i64 b, .int .i64 bd] W fun e w' => e = .returned (.bool (decide (bd < farI a b))) ∧ Mo W w' := by
  have wb : IntKind.u64.wrap bd = bd := by rw [IntKind.wrap_u64]; omega
  unfold farI
  by_cases c : b < a
  · have e1 : (if a < b then b else a) = a := if_neg (by omega)
    have e2 : (if b < a then b else a) = b := if_pos c
    have e3 : max a b = a := by omega
    have e4 : min a b = b := by omega
    have wd := wrapU_diff ha hb (by omega)
    rw [if_pos c]
    go_enter Try.func58, Try.ntmps58
    go_wp2_with fail
    go_ret
    exact ⟨rfl, Mor.out⟩
  · have wd := wrapU_diff hb ha (by omega)
    rw [if_neg c]
    by_cases c2 : a < b
    · have e3 : max a b = b := by omega
      have e4 : min a b = a := by omega
      have e1 : (if a < b then b else a) = b := if_pos c2
      have e2 : (if b < a then b else a) = a := if_neg c
      go_enter Try.func58, Try.ntmps58
      go_wp2_with fail
      go_ret
      exact ⟨rfl, Mor.out⟩
    · obtain rfl : a = b := by omega
      go_enter Try.func58, Try.ntmps58
      go_wp2_with fail
      go_ret
      exact ⟨rfl, Mor.out⟩
/-! ### best -/
set_option maxRecDepth 20000 in
instance row_od : RowT 145 2 := ⟨by kernel_rfl, by kernel_rfl⟩
set_option maxRecDepth 20000 in
theorem loadF_od (v : Value) : Instr.loadAt 145 v = loadF 145 v := rfl
set_option maxRecDepth 20000 in
theorem storeF_od (v x : Value) : Instr.storeAt 145 v x = storeF 145 v x := rfl
set_option maxRecDepth 20000 in
theorem run_loadMid (T : TypeId) (n : Nat) [h : RowT T n] (w : World) (g o : Nat) (cs : Array Value) (hs : cs.size = n) (hc : ∀ j v, cs.toList[j]? = some v → w.cell? ⟨g, o + j, none⟩ = some v) :
    (loadF T (.pointer (some ⟨g, o, none⟩))).run Try.prog w = .ok (.agg cs) w := by
  have hr := h.row
  split at hr
  case h_2 => cases hr
  case h_1 d hu =>
    have := run_loadAt_mid w g o T cs.toList d hc hu hr (by rw [h.info]; congr 1; simp [hs])
    rwa [Array.toArray_toList] at this
set_option maxRecDepth 20000 in
theorem ODat.ld {W : World} {g off : Nat} {l : List OD} (h : ODat W g off l) (j : Nat) (hj : j < l.length) : (loadF 145 (.pointer (some ⟨g, off + j * 2, none⟩))).run Try.prog W = .ok (.agg #[.int .i64 l[j].1, .int .i64 l[j].2]) W := by
  obtain ⟨y0, y1⟩ := h.get j hj
  refine run_loadMid 145 2 W g (off + j * 2) #[.int .i64 l[j].1, .int .i64 l[j].2] rfl fun i u hu => ?_
  match i, hu with
  | 0, hu => rw [Nat.add_zero, y0]; exact hu
  | 1, hu => rw [y1]; exact hu
set_option maxRecDepth 20000 in
theorem cut_od (A : Option Addr) (k r c : Nat) (hr : k ≤ r) (hc : r ≤ c) : ∃ A2, (∀ g off, A = some ⟨g, off, none⟩ → k < r → A2 = some ⟨g, off + k * 2, none⟩) ∧ ∀ w : World, (Instr.slice 129 (.slice A r c) (some (.int .i64 (k : Int))) none none).run Try.prog w = .ok (.slice A2 (r - k) (c - k)) w := by
  have hsz : ∀ w : World, (sizeOf (Try.prog.elem 129)).run Try.prog w = .ok 2 w := fun w => by kernel_rfl
  refine ⟨if c = k then A else A.map (·.add (k * 2)), ?_, fun w => ?_⟩
  · rintro g off rfl h
    rw [if_neg (by omega)]
    show some ((⟨g, off, none⟩ : Addr).add (k * 2)) = _
    rw [Go.WideShapes.add_plain]
  · rw [run_slice_l w 129 A r c Try.underlying129 .i64 k (by omega) (by omega), hsz]
    rfl
attribute [local go_sem ↓] loadF_od storeF_od
attribute [local go_sem] run_loadF0 run_storeF0
set_option maxRecDepth 20000 in
set_option maxHeartbeats 4000000 in
theorem sbest_any (x0 : OD) (l : List OD) (g off n cap : Nat) (W : World) (h : ODat W g off (x0 :: l)) (hn : l.length = n) (hl : n ≤ 200) (hc : n + 1 ≤ cap) :
    Calls Try.prog 57 #[.slice (some ⟨g, off, none⟩) (n + 1) cap] W fun e w' => e = .returned (.int .i64 (bestO (x0 :: l))) ∧ Mo W w' := by
  show Calls _ _ _ _ fun e w' => e = .returned (.int .i64 (bestF x0 l).1) ∧ Mo W w'
  have y0 := h.ld 0 (by simp)
  simp only [Nat.zero_mul, Nat.add_zero, List.getElem_cons_zero] at y0
  have HD : Hid (ODat W g (off + 2) l) := Lib.hid (by have := h.drop 1; simpa using this)
  have HN := Lib.hid hn
  obtain ⟨A2, hA, hs⟩ := cut_od (some ⟨g, off, none⟩) 1 (n + 1) cap (by omega) hc
  rw [show n + 1 - 1 = n by omega] at hs
  replace hs : ∀ w : World, (Instr.slice 129 (.slice (some ⟨g, off, none⟩) (n + 1) cap) (some (.int .i64 1)) none none).run Try.prog w = .ok (.slice A2 n (cap - 1)) w := hs
  have HA := Lib.hid hA
  have z : LtW g W := LtW.of_cell (h.get 0 (by simp)).1
  have i1 : (0 : Int) < (n : Int) + 1 := by omega
  obtain ⟨a0, b0⟩ := x0
  simp only at y0
  clear h hn hA
  go_enter Try.func57, Try.ntmps57
  --@@ loop
  go_wp2_with fail
  go_loopw [12] (fun i wr => ∃ j : Nat, j ≤ n ∧ i = .int .i64 j ∧ Blk wr W.heap.size 145 #[.int .i64 (bestF (a0, b0) (l.take j)).1, .int .i64 (bestF (a0, b0) (l.take j)).2] ∧ Mo W wr) (fun i _ => n - (intOf i).toNat)
  case atStart => exact ⟨0, by omega, rfl, inferInstance, Mor.out⟩
  case round =>
    obtain ⟨j, hj, rfl, hB, hM⟩ := hrel
    by_cases cj : j < n
    · have hjl : j < l.length := by rw [HN.out]; exact cj
      have u0 := (HD.out.mo hM).ld j hjl
      have z1 : LtW g wr := LtW.of_cell ((HD.out.mo hM).get j hjl).1
      obtain rfl : A2 = some ⟨g, off + 2, none⟩ := HA.out g off rfl (by omega)
      have BS := Lib.hid (bestF_take (a0, b0) l j hjl)
      generalize l[j] = y at *
      obtain ⟨ya, yb⟩ := y
      simp only at u0
      obtain ⟨q, hq⟩ : ∃ q, bestF (a0, b0) (l.take j) = q := ⟨_, rfl⟩
      rw [hq] at hB BS
      obtain ⟨qa, qb⟩ := q
      simp only at hB
      have i0 : (0 : Int) ≤ j := by omega
      have i2 : (j : Int) < n := by omega
      have hw : IntKind.i64.wrap ((j : Int) + 1) = j + 1 := by rw [IntKind.wrap_i64]; omega
      clear hq hjl
      by_cases c : yb < qb
      · have d : decide (yb < qb) = true := decide_eq_true c
        have e : Hid (bestF (a0, b0) (l.take (j + 1)) = (ya, yb)) := Lib.hid (BS.out.trans (if_pos c))
        have lt : W.heap.size < wr.heap.size := hB.lt
        clear c BS
        go_wp2_with fail
        go_roundw
        case rel => exact ⟨j + 1, by omega, by go_num, by rw [e.out]; exact Mo.blk Mor.out (blk_setRow (cs' := #[.int .i64 ya, .int .i64 yb]) hB), (mo_setRow hM (Nat.le_refl _) #[.int .i64 ya, .int .i64 yb]).trans Mor.out⟩
        case measure => simp [intOf]; omega
      · have d : decide (yb < qb) = false := decide_eq_false c
        have e : Hid (bestF (a0, b0) (l.take (j + 1)) = (qa, qb)) := Lib.hid (BS.out.trans (if_neg c))
        clear c BS
        go_wp2_with fail
        go_roundw
        case rel => exact ⟨j + 1, by omega, by go_num, by rw [e.out]; infer_instance, hM.trans Mor.out⟩
        case measure => simp [intOf]; omega
    · obtain rfl : n = j := by omega
      have e : l.take n = l := List.take_of_length_le (by rw [HN.out]; exact Nat.le_refl _)
      rw [e] at hB
      go_wp2_with fail
      go_ret
      exact ⟨rfl, hM.trans Mor.out⟩
end Go.Proofs.Ythgkhllkhhnlpaa
