/- Plain facts, no program in sight: numbers of 128 bits as integers, signs of bit operations on 64 bits; worlds that only grow. -/
import Derived.WalkKit
import Derived.Deep.Draws
namespace Go.Proofs.Ytdgmcgfkammioaa
open Go.RowKit

/-! ### signs of xor and and -/
set_option maxRecDepth 20000 in
theorem wrap_toNat (v : BitVec 64) : IntKind.i64.wrap (v.toNat : Int) = v.toInt := by
  rw [IntKind.wrap_i64, BitVec.toInt_eq_toNat_cond]
  have := v.isLt
  split <;> omega
set_option maxRecDepth 20000 in
theorem wrap_neg (v : BitVec 64) : (IntKind.i64.wrap (v.toNat : Int) < 0) = (v.msb = true) := by
  rw [wrap_toNat, BitVec.msb_eq_toInt]; simp
set_option maxRecDepth 20000 in
theorem msb_ofInt (x : Int) (h1 : -9223372036854775808 ≤ x) (h2 : x ≤ 9223372036854775807) : (BitVec.ofInt 64 x).msb = decide (x < 0) := by
  rw [BitVec.msb_eq_toInt, BitVec.toInt_ofInt]
  have : x.bmod (2 ^ 64) = x := by
    rw [Int.bmod_eq_of_le] <;> omega
  rw [this]
set_option maxRecDepth 20000 in
theorem xor_neg (x y : Int) (h1 : -9223372036854775808 ≤ x) (h2 : x ≤ 9223372036854775807) (h3 : -9223372036854775808 ≤ y) (h4 : y ≤ 9223372036854775807) :
    bits .xor .i64 x y < 0 ↔ ¬ ((x < 0) ↔ (y < 0)) := by
  show IntKind.i64.wrap ((BitVec.ofInt 64 x ^^^ BitVec.ofInt 64 y).toNat : Int) < 0 ↔ _
  rw [wrap_neg, BitVec.msb_xor, msb_ofInt x h1 h2, msb_ofInt y h3 h4]
  by_cases a : x < 0 <;> by_cases b : y < 0 <;> simp [a, b]
set_option maxRecDepth 20000 in
theorem bits_bd (op : BinOp) (x y : Int) : -9223372036854775808 ≤ bits op .i64 x y ∧ bits op .i64 x y ≤ 9223372036854775807 := by
  unfold bits
  split <;> (try rw [IntKind.wrap_i64]) <;> omega
set_option maxRecDepth 20000 in
theorem and_neg (x y : Int) (h1 : -9223372036854775808 ≤ x) (h2 : x ≤ 9223372036854775807) (h3 : -9223372036854775808 ≤ y) (h4 : y ≤ 9223372036854775807) :
    bits .and .i64 x y < 0 ↔ (x < 0 ∧ y < 0) := by
  show IntKind.i64.wrap ((BitVec.ofInt 64 x &&& BitVec.ofInt 64 y).toNat : Int) < 0 ↔ _
  rw [wrap_neg, BitVec.msb_and, msb_ofInt x h1 h2, msb_ofInt y h3 h4]
  by_cases a : x < 0 <;> by_cases b : y < 0 <;> simp [a, b]

/-! ### wide numbers -/
def hiW (x : Int) : Int := x / 18446744073709551616
def loW (x : Int) : Int := x % 18446744073709551616
def InW (x : Int) : Prop := -170141183460469231731687303715884105728 ≤ x ∧ x < 170141183460469231731687303715884105728
def minW : Int := -170141183460469231731687303715884105728
def maxW : Int := 170141183460469231731687303715884105727
/-- the wide number that is nearest -/
def cl (x : Int) : Int := if x < -170141183460469231731687303715884105728 then minW else if 170141183460469231731687303715884105728 ≤ x then maxW else x
abbrev WV (x : Int) : Value := .agg #[.int .i64 (hiW x), .int .u64 (loW x)]
set_option maxRecDepth 20000 in
theorem InW.h1 {a : Int} (h : InW a) : -9223372036854775808 ≤ hiW a := by unfold hiW; have := h.1; have := h.2; omega
set_option maxRecDepth 20000 in
theorem InW.h2 {a : Int} (h : InW a) : hiW a ≤ 9223372036854775807 := by unfold hiW; have := h.1; have := h.2; omega
set_option maxRecDepth 20000 in
theorem lo1 (a : Int) : 0 ≤ loW a := by unfold loW; omega
set_option maxRecDepth 20000 in
theorem lo2 (a : Int) : loW a < 18446744073709551616 := by unfold loW; omega
set_option maxRecDepth 20000 in
theorem hi_mk (h l : Int) (h1 : 0 ≤ l) (h2 : l < 18446744073709551616) : hiW (h * 18446744073709551616 + l) = h := by unfold hiW; omega
set_option maxRecDepth 20000 in
theorem lo_mk (h l : Int) (h1 : 0 ≤ l) (h2 : l < 18446744073709551616) : loW (h * 18446744073709551616 + l) = l := by unfold loW; omega
set_option maxRecDepth 20000 in
theorem hilo (a : Int) : hiW a * 18446744073709551616 + loW a = a := by unfold hiW loW; omega
set_option maxRecDepth 20000 in
theorem WV_inj {a b : Int} (h : hiW a = hiW b) (h' : loW a = loW b) : a = b := by rw [← hilo a, ← hilo b, h, h']
set_option maxRecDepth 20000 in
theorem inW_mk (h l : Int) (h1 : 0 ≤ l) (h2 : l < 18446744073709551616) (h3 : -9223372036854775808 ≤ h) (h4 : h ≤ 9223372036854775807) : InW (h * 18446744073709551616 + l) := by
  unfold InW; omega
set_option maxRecDepth 20000 in
theorem inW_cl (x : Int) : InW (cl x) := by unfold InW cl minW maxW; split <;> (try split) <;> omega
set_option maxRecDepth 20000 in
theorem cl_in {x : Int} (h : InW x) : cl x = x := by
  unfold cl; rw [if_neg (by have := h.1; omega), if_neg (by have := h.2; omega)]
set_option maxRecDepth 20000 in
theorem inW_i64 {n : Int} (h1 : -9223372036854775808 ≤ n) (h2 : n ≤ 9223372036854775807) : InW n := by unfold InW; omega
set_option maxRecDepth 20000 in
theorem inW_u64 {n : Int} (h1 : 0 ≤ n) (h2 : n < 18446744073709551616) : InW n := by unfold InW; omega
set_option maxRecDepth 20000 in
theorem inW_0 : InW 0 := by unfold InW; omega

/-- what Add reckons for the upper half -/
def addX (a b : Int) : Int := wrap64 ((IntKind.u64.wrap (hiW a) + IntKind.u64.wrap (hiW b) + (loW a + loW b) / 18446744073709551616) % 18446744073709551616)
set_option maxRecDepth 20000 in
theorem addX_bd (a b : Int) : -9223372036854775808 ≤ addX a b ∧ addX a b ≤ 9223372036854775807 := by unfold addX wrap64; omega
set_option maxRecDepth 20000 in
theorem addX_eq {a b : Int} (ha : InW a) (hb : InW b) : addX a b = ((a + b) / 18446744073709551616 + 9223372036854775808) % 18446744073709551616 - 9223372036854775808 := by
  unfold addX wrap64 hiW loW
  rw [IntKind.wrap_u64, IntKind.wrap_u64]
  have := ha.1; have := ha.2; have := hb.1; have := hb.2
  omega
set_option maxRecDepth 20000 in
theorem add_over {a b : Int} (ha : InW a) (hb : InW b) :
    bits .and .i64 (bits .xor .i64 (hiW a) (addX a b)) (bits .xor .i64 (hiW b) (addX a b)) < 0 ↔ ¬ InW (a + b) := by
  have b1 := bits_bd .xor (hiW a) (addX a b)
  have b2 := bits_bd .xor (hiW b) (addX a b)
  have b3 := addX_bd a b
  rw [and_neg _ _ b1.1 b1.2 b2.1 b2.2, xor_neg _ _ ha.h1 ha.h2 b3.1 b3.2, xor_neg _ _ hb.h1 hb.h2 b3.1 b3.2, addX_eq ha hb]
  unfold InW hiW at *
  omega
set_option maxRecDepth 20000 in
theorem add_hi {a b : Int} (ha : InW a) (hb : InW b) (h : InW (a + b)) : addX a b = hiW (a + b) := by
  rw [addX_eq ha hb]; unfold hiW; have := h.1; have := h.2; omega
set_option maxRecDepth 20000 in
theorem add_lo (a b : Int) : (loW a + loW b) % 18446744073709551616 = loW (a + b) := by unfold loW; omega

/-- the borrow -/
def bor (x y : Int) : Int := if x < y then 1 else 0
set_option maxRecDepth 20000 in
theorem bor1 (x y : Int) : 0 ≤ bor x y := by unfold bor; split <;> omega
set_option maxRecDepth 20000 in
theorem bor2 (x y : Int) : bor x y ≤ 1 := by unfold bor; split <;> omega
def subX (a b : Int) : Int := wrap64 ((IntKind.u64.wrap (hiW a) - IntKind.u64.wrap (hiW b) - bor (loW a) (loW b)) % 18446744073709551616)
set_option maxRecDepth 20000 in
theorem subX_bd (a b : Int) : -9223372036854775808 ≤ subX a b ∧ subX a b ≤ 9223372036854775807 := by unfold subX wrap64; omega
set_option maxRecDepth 20000 in
theorem subX_eq {a b : Int} (ha : InW a) (hb : InW b) : subX a b = ((a - b) / 18446744073709551616 + 9223372036854775808) % 18446744073709551616 - 9223372036854775808 := by
  unfold subX wrap64 hiW loW bor
  rw [IntKind.wrap_u64, IntKind.wrap_u64]
  have := ha.1; have := ha.2; have := hb.1; have := hb.2
  split <;> omega
set_option maxRecDepth 20000 in
theorem sub_over {a b : Int} (ha : InW a) (hb : InW b) :
    bits .and .i64 (bits .xor .i64 (hiW a) (hiW b)) (bits .xor .i64 (hiW a) (subX a b)) < 0 ↔ ¬ InW (a - b) := by
  have b1 := bits_bd .xor (hiW a) (hiW b)
  have b2 := bits_bd .xor (hiW a) (subX a b)
  have b3 := subX_bd a b
  rw [and_neg _ _ b1.1 b1.2 b2.1 b2.2, xor_neg _ _ ha.h1 ha.h2 hb.h1 hb.h2, xor_neg _ _ ha.h1 ha.h2 b3.1 b3.2, subX_eq ha hb]
  unfold InW hiW at *
  omega
set_option maxRecDepth 20000 in
theorem sub_hi {a b : Int} (ha : InW a) (hb : InW b) (h : InW (a - b)) : subX a b = hiW (a - b) := by
  rw [subX_eq ha hb]; unfold hiW; have := h.1; have := h.2; omega
set_option maxRecDepth 20000 in
theorem sub_lo (a b : Int) : (loW a - loW b) % 18446744073709551616 = loW (a - b) := by unfold loW; omega

/-! ### worlds that only grow -/
set_option maxRecDepth 20000 in
theorem bcell {W w1 : World} (hb : Below W.heap.size W w1) : (∀ b o, b < W.heap.size → w1.cell? ⟨b, o, none⟩ = W.cell? ⟨b, o, none⟩) ∧ (∀ b o, b < W.heap.size → w1.frozen? ⟨b, o, none⟩ = W.frozen? ⟨b, o, none⟩) :=
  ⟨fun b o h => hb.cell (p := ⟨b, o, none⟩) h, fun b o h => hb.frozen (p := ⟨b, o, none⟩) h⟩

/-- the world with more blocks, and some draws made -/
def more (w : World) (J : Array Obj) (d : Nat) : World := { w with heap := w.heap ++ J, drawn := d }
set_option maxRecDepth 20000 in
theorem below_more {w w' : World} (h : Below w.heap.size w w') : ∃ J d, w' = more w J d := by
  refine ⟨w'.heap.extract w.heap.size w'.heap.size, w'.drawn, ?_⟩
  obtain ⟨h1, h2, h3, h4, h5⟩ := h
  cases w' with
  | mk hp tp dr os out =>
    simp only at h1 h2 h3 h4 h5
    subst h1 h2 h3
    simp only [more, World.mk.injEq, and_true]
    refine Array.ext_getElem? fun i => ?_
    rw [Array.getElem?_append]
    split
    · exact h5 i (by assumption)
    · rw [Array.getElem?_extract]
      by_cases hi : i < hp.size
      · rw [if_pos (by omega)]; congr 1; omega
      · rw [if_neg (by omega), Array.getElem?_eq_none (by omega)]
set_option maxRecDepth 20000 in
theorem more_size (w : World) (J : Array Obj) (d : Nat) : (more w J d).heap.size = w.heap.size + J.size := by simp [more]
set_option maxRecDepth 20000 in
theorem more_get (w : World) (J : Array Obj) (d : Nat) (k : Nat) (h : k < w.heap.size) : (more w J d).heap[k]? = w.heap[k]? := by
  simp only [more]; rw [Array.getElem?_append_left h]
set_option maxRecDepth 20000 in
theorem more_cell (w : World) (J : Array Obj) (d b i : Nat) (h : b < w.heap.size) : (more w J d).cell? ⟨b, i, none⟩ = w.cell? ⟨b, i, none⟩ :=
  World.cell?_of_block (w := w) (more_get w J d b h)
set_option maxRecDepth 20000 in
theorem more_frozen (w : World) (J : Array Obj) (d b i : Nat) (h : b < w.heap.size) : (more w J d).frozen? ⟨b, i, none⟩ = w.frozen? ⟨b, i, none⟩ :=
  World.frozen?_of_block (w := w) (more_get w J d b h)
set_option maxRecDepth 20000 in
theorem more_shape (w : World) (J : Array Obj) (d b : Nat) (h : b < w.heap.size) : (more w J d).shape? b = w.shape? b := by
  unfold World.shape?; rw [more_get w J d b h]
set_option maxRecDepth 20000 in
theorem more_set (w : World) (J : Array Obj) (d b i : Nat) (v : Value) (h : b < w.heap.size) : (more w J d).setCell ⟨b, i, none⟩ v = more (w.setCell ⟨b, i, none⟩ v) J d := by
  simp only [World.setCell, more]
  congr 1
  refine Array.ext_getElem? fun k => ?_
  simp only [Array.getElem?_modify, Array.getElem?_append, Array.size_modify]
  by_cases hk : k = b
  · subst hk; simp [h]
  · have hk' : ¬ b = k := fun e => hk e.symm
    simp [hk']
set_option maxRecDepth 20000 in
theorem more_drew (w : World) (J : Array Obj) (d : Nat) : more w.drew J d = more w J d := rfl
set_option maxRecDepth 20000 in
theorem below_of_more {B : Nat} {a w : World} (h : Below B a w) (hB : B ≤ w.heap.size) (J : Array Obj) (d : Nat) : Below B a (more w J d) :=
  h.trans ⟨rfl, rfl, rfl, by simp [more], fun k hk => more_get w J d k (by omega)⟩
set_option maxRecDepth 20000 in
theorem more_more (w : World) (J J' : Array Obj) (d d' : Nat) : more (more w J d) J' d' = more w (J ++ J') d' := by simp [more, Array.append_assoc]
set_option maxRecDepth 20000 in
theorem more_drewN (w : World) (J : Array Obj) (d n : Nat) : more (w.drewN n) J d = more w J d := rfl
set_option maxRecDepth 20000 in
theorem set_drewN (w : World) (n : Nat) (a : Addr) (v : Value) : (w.drewN n).setCell a v = (w.setCell a v).drewN n := rfl
set_option maxRecDepth 20000 in
theorem alloc_drewN' (w : World) (n : Nat) (o : Obj) : (w.drewN n).alloc o = (w.alloc o).drewN n := rfl
set_option maxRecDepth 20000 in
theorem lt_add_r (a b c : Nat) (h : a < b) : a < b + c := by omega
attribute [go_sem] more_more more_drewN set_drewN alloc_drewN' more_size more_drew
/-- what a call that makes blocks alone leaves -/
def Mo (w w' : World) : Prop := ∃ J d, w' = more w J d
set_option maxRecDepth 20000 in
theorem Mo.below {w w' : World} (h : Mo w w') : Below w.heap.size w w' := by
  obtain ⟨J, d, rfl⟩ := h
  exact below_of_more (Below.refl _ _) (Nat.le_refl _) J d
set_option maxRecDepth 20000 in
theorem Mo.of {w w' : World} (h : Below w.heap.size w w') : Mo w w' := below_more h
/-- the same, found by the form of the world -/
class Mor (a w : World) : Prop where
  out : Mo a w
set_option maxRecDepth 20000 in
instance (a : World) : Mor a a := ⟨Mo.of (Below.refl _ _)⟩
set_option maxRecDepth 20000 in
instance (a w : World) (o : Obj) [h : Mor a w] : Mor a (w.alloc o) := ⟨Mo.of (h.out.below.alloc h.out.below.size o)⟩
set_option maxRecDepth 20000 in
instance (a w : World) (J : Array Obj) (d : Nat) [h : Mor a w] : Mor a (more w J d) := ⟨Mo.of (below_of_more h.out.below h.out.below.size J d)⟩
set_option maxRecDepth 20000 in
instance (a w : World) [h : Mor a w] : Mor a w.drew := ⟨Mo.of h.out.below.drew⟩
set_option maxRecDepth 20000 in
instance (a w : World) (n : Nat) [h : Mor a w] : Mor a (w.drewN n) := ⟨Mo.of ⟨h.out.below.os, h.out.below.tape, h.out.below.output, h.out.below.size, h.out.below.block⟩⟩

/-! ### which blocks a world holds, found by its form -/
class ArrSz (J : Array Obj) (n : Nat) : Prop where
  out : J.size = n
set_option maxRecDepth 20000 in
instance (priority := low) (J : Array Obj) : ArrSz J J.size := ⟨rfl⟩
set_option maxRecDepth 20000 in
instance (J K : Array Obj) (n m : Nat) [h : ArrSz J n] [h' : ArrSz K m] : ArrSz (J ++ K) (n + m) := ⟨by rw [Array.size_append, h.out, h'.out]⟩
class SizeIs (w : World) (n : Nat) : Prop where
  out : w.heap.size = n
set_option maxRecDepth 20000 in
instance (priority := low) (w : World) : SizeIs w w.heap.size := ⟨rfl⟩
set_option maxRecDepth 20000 in
instance (w : World) (o : Obj) (n : Nat) [h : SizeIs w n] : SizeIs (w.alloc o) (n + 1) := ⟨by rw [← h.out]; simp⟩
set_option maxRecDepth 20000 in
instance (w : World) (J : Array Obj) (d n m : Nat) [h : SizeIs w n] [h' : ArrSz J m] : SizeIs (more w J d) (n + m) := ⟨by rw [more_size, h.out, h'.out]⟩
set_option maxRecDepth 20000 in
instance (w : World) (n : Nat) [h : SizeIs w n] : SizeIs w.drew n := ⟨h.out⟩
set_option maxRecDepth 20000 in
instance (w : World) (n k : Nat) [h : SizeIs w n] : SizeIs (w.drewN k) n := ⟨h.out⟩
class LtW (b : Nat) (w : World) : Prop where
  out : b < w.heap.size
set_option maxRecDepth 20000 in
instance (priority := low) (w : World) (o : Obj) (b : Nat) [h : SizeIs w b] : LtW b (w.alloc o) := ⟨by rw [← h.out]; simp⟩
set_option maxRecDepth 20000 in
instance (w : World) (o : Obj) (b : Nat) [h : LtW b w] : LtW b (w.alloc o) := ⟨Nat.lt_of_lt_of_le h.out (by simp)⟩
set_option maxRecDepth 20000 in
instance (w : World) (J : Array Obj) (d b : Nat) [h : LtW b w] : LtW b (more w J d) := ⟨by rw [more_size]; have := h.out; omega⟩
set_option maxRecDepth 20000 in
instance (w : World) (b : Nat) [h : LtW b w] : LtW b w.drew := ⟨h.out⟩
set_option maxRecDepth 20000 in
instance (w : World) (b k : Nat) [h : LtW b w] : LtW b (w.drewN k) := ⟨h.out⟩
set_option maxRecDepth 20000 in
theorem more_cell' (w : World) (J : Array Obj) (d b i : Nat) [h : LtW b w] : (more w J d).cell? ⟨b, i, none⟩ = w.cell? ⟨b, i, none⟩ := more_cell w J d b i h.out
set_option maxRecDepth 20000 in
theorem more_frozen' (w : World) (J : Array Obj) (d b i : Nat) [h : LtW b w] : (more w J d).frozen? ⟨b, i, none⟩ = w.frozen? ⟨b, i, none⟩ := more_frozen w J d b i h.out
set_option maxRecDepth 20000 in
theorem more_shape' (w : World) (J : Array Obj) (d b : Nat) [h : LtW b w] : (more w J d).shape? b = w.shape? b := more_shape w J d b h.out
set_option maxRecDepth 20000 in
theorem more_set' (w : World) (J : Array Obj) (d b i : Nat) (v : Value) [h : LtW b w] : (more w J d).setCell ⟨b, i, none⟩ v = more (w.setCell ⟨b, i, none⟩ v) J d := more_set w J d b i v h.out
set_option maxRecDepth 20000 in
theorem alloc_cell' (w : World) (o : Obj) (b i : Nat) [h : LtW b w] : (w.alloc o).cell? ⟨b, i, none⟩ = w.cell? ⟨b, i, none⟩ := World.cell?_alloc_past (w := w) o b i h.out
set_option maxRecDepth 20000 in
theorem alloc_frozen' (w : World) (o : Obj) (b i : Nat) [h : LtW b w] : (w.alloc o).frozen? ⟨b, i, none⟩ = w.frozen? ⟨b, i, none⟩ := World.frozen?_alloc_past (w := w) o b i h.out
set_option maxRecDepth 20000 in
theorem alloc_set' (w : World) (o : Obj) (b i : Nat) (v : Value) [h : LtW b w] : (w.alloc o).setCell ⟨b, i, none⟩ v = (w.setCell ⟨b, i, none⟩ v).alloc o := World.setCell_alloc_past (w := w) o b i v h.out
attribute [go_sem] more_cell' more_frozen' more_shape' more_set' alloc_cell' alloc_frozen' alloc_set'
end Go.Proofs.Ytdgmcgfkammioaa
