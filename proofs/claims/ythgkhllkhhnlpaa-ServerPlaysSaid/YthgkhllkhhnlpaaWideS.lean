/- Written by gen/bundle36.py: Plain, Wide, Shelf, Wide2, Wide3, Wide4, Mo, RootV, AccP, QTail in one text. -/
import Derived.WalkKit
import Derived.Deep.Draws
import Derived.Test.YthgkhllkhhnlpaaProg
import Derived.WalkSpells
import Derived.WalkLawsBesides
import Derived.Shelf.Spec.BitsCarry
import Derived.Handy
import Derived.Deep.RegionHeld3
import Derived.Deep.QuietTactic
import Derived.BigQuiet
import Derived.Shelf.Small.Bits
import Derived.Shelf.Strconv.Itoa0
import Derived.Shelf.Bits.Mul64
import Derived.Lib.Hide
import Derived.Deep.DeepCutAuto
import Derived.StillTail
/- Plain facts, no program in sight: numbers of 128 bits as integers, signs of bit operations on 64 bits; worlds that only grow. -/
namespace Go.Proofs.Ythgkhllkhhnlpaa
open Go.RowKit

/-! ### signs of xor and and -/
set_option maxRecDepth 20000 in
theorem wrap_toNat (v : BitVec 64) : IntKind.i64.wrap (v.toNat : Int) = v.toInt := by
  rw [IntKind.wrap_i64, BitVec.toInt_eq_toNat_cond]
  have := v.isLt
  split <;> omega
set_option maxRecDepth 20000 in
theorem wrap_neg (v : BitVec 64) : (IntKind.i64.wrap (v.toNat : Int) < 0) = (v.msb = true) := by
  rw [wrap_toNat, BitVec.msb_eq_toInt]; simp
set_option maxRecDepth 20000 in
theorem msb_ofInt (x : Int) (h1 : -9223372036854775808 ≤ x) (h2 : x ≤ 9223372036854775807) : (BitVec.ofInt 64 x).msb = decide (x < 0) := by
  rw [BitVec.msb_eq_toInt, BitVec.toInt_ofInt]
  have : x.bmod (2 ^ 64) = x := by
    rw [Int.bmod_eq_of_le] <;> omega
  rw [this]
set_option maxRecDepth 20000 in
theorem xor_neg (x y : Int) (h1 : -9223372036854775808 ≤ x) (h2 : x ≤ 9223372036854775807) (h3 : -9223372036854775808 ≤ y) (h4 : y ≤ 9223372036854775807) :
    bits .xor .i64 x y < 0 ↔ ¬ ((x < 0) ↔ (y < 0)) := by
  show IntKind.i64.wrap ((BitVec.ofInt 64 x ^^^ BitVec.ofInt 64 y).toNat : Int) < 0 ↔ _
  rw [wrap_neg, BitVec.msb_xor, msb_ofInt x h1 h2, msb_ofInt y h3 h4]
  by_cases a : x < 0 <;> by_cases b : y < 0 <;> simp [a, b]
set_option maxRecDepth 20000 in
theorem bits_bd (op : BinOp) (x y : Int) : -9223372036854775808 ≤ bits op .i64 x y ∧ bits op .i64 x y ≤ 9223372036854775807 := by
  unfold bits
  split <;> (try rw [IntKind.wrap_i64]) <;> omega
set_option maxRecDepth 20000 in
theorem and_neg (x y : Int) (h1 : -9223372036854775808 ≤ x) (h2 : x ≤ 9223372036854775807) (h3 : -9223372036854775808 ≤ y) (h4 : y ≤ 9223372036854775807) :
    bits .and .i64 x y < 0 ↔ (x < 0 ∧ y < 0) := by
  show IntKind.i64.wrap ((BitVec.ofInt 64 x &&& BitVec.ofInt 64 y).toNat : Int) < 0 ↔ _
  rw [wrap_neg, BitVec.msb_and, msb_ofInt x h1 h2, msb_ofInt y h3 h4]
  by_cases a : x < 0 <;> by_cases b : y < 0 <;> simp [a, b]

/-! ### wide numbers -/
def hiW (x : Int) : Int := x / 18446744073709551616
def loW (x : Int) : Int := x % 18446744073709551616
def InW (x : Int) : Prop := -170141183460469231731687303715884105728 ≤ x ∧ x < 170141183460469231731687303715884105728
def minW : Int := -170141183460469231731687303715884105728
def maxW : Int := 170141183460469231731687303715884105727
/-- the wide number that is nearest -/
def cl (x : Int) : Int := if x < -170141183460469231731687303715884105728 then minW else if 170141183460469231731687303715884105728 ≤ x then maxW else x
abbrev WV (x : Int) : Value := .agg #[.int .i64 (hiW x), .int .u64 (loW x)]
set_option maxRecDepth 20000 in
theorem InW.h1 {a : Int} (h : InW a) : -9223372036854775808 ≤ hiW a := by unfold hiW; have := h.1; have := h.2; omega
set_option maxRecDepth 20000 in
theorem InW.h2 {a : Int} (h : InW a) : hiW a ≤ 9223372036854775807 := by unfold hiW; have := h.1; have := h.2; omega
set_option maxRecDepth 20000 in
theorem lo1 (a : Int) : 0 ≤ loW a := by unfold loW; omega
set_option maxRecDepth 20000 in
theorem lo2 (a : Int) : loW a < 18446744073709551616 := by unfold loW; omega
set_option maxRecDepth 20000 in
theorem hi_mk (h l : Int) (h1 : 0 ≤ l) (h2 : l < 18446744073709551616) : hiW (h * 18446744073709551616 + l) = h := by unfold hiW; omega
set_option maxRecDepth 20000 in
theorem lo_mk (h l : Int) (h1 : 0 ≤ l) (h2 : l < 18446744073709551616) : loW (h * 18446744073709551616 + l) = l := by unfold loW; omega
set_option maxRecDepth 20000 in
theorem hilo (a : Int) : hiW a * 18446744073709551616 + loW a = a := by unfold hiW loW; omega
set_option maxRecDepth 20000 in
theorem WV_inj {a b : Int} (h : hiW a = hiW b) (h' : loW a = loW b) : a = b := by rw [← hilo a, ← hilo b, h, h']
set_option maxRecDepth 20000 in
theorem inW_mk (h l : Int) (h1 : 0 ≤ l) (h2 : l < 18446744073709551616) (h3 : -9223372036854775808 ≤ h) (h4 : h ≤ 9223372036854775807) : InW (h * 18446744073709551616 + l) := by
  unfold InW; omega
set_option maxRecDepth 20000 in
theorem inW_cl (x : Int) : InW (cl x) := by unfold InW cl minW maxW; split <;> (try split) <;> omega
set_option maxRecDepth 20000 in
theorem cl_in {x : Int} (h : InW x) : cl x = x := by
  unfold cl; rw [if_neg (by have := h.1; omega), if_neg (by have := h.2; omega)]
set_option maxRecDepth 20000 in
theorem inW_i64 {n : Int} (h1 : -9223372036854775808 ≤ n) (h2 : n ≤ 9223372036854775807) : InW n := by unfold InW; omega
set_option maxRecDepth 20000 in
theorem inW_u64 {n : Int} (h1 : 0 ≤ n) (h2 : n < 18446744073709551616) : InW n := by unfold InW; omega
set_option maxRecDepth 20000 in
theorem inW_0 : InW 0 := by unfold InW; omega

/-- what Add reckons for the upper half -/
def addX (a b : Int) : Int := wrap64 ((IntKind.u64.wrap (hiW a) + IntKind.u64.wrap (hiW b) + (loW a + loW b) / 18446744073709551616) % 18446744073709551616)
set_option maxRecDepth 20000 in
theorem addX_bd (a b : Int) : -9223372036854775808 ≤ addX a b ∧ addX a b ≤ 9223372036854775807 := by unfold addX wrap64; omega
set_option maxRecDepth 20000 in
theorem addX_eq {a b : Int} (ha : InW a) (hb : InW b) : addX a b = ((a + b) / 18446744073709551616 + 9223372036854775808) % 18446744073709551616 - 9223372036854775808 := by
  unfold addX wrap64 hiW loW
  rw [IntKind.wrap_u64, IntKind.wrap_u64]
  have := ha.1; have := ha.2; have := hb.1; have := hb.2
  omega
set_option maxRecDepth 20000 in
theorem add_over {a b : Int} (ha : InW a) (hb : InW b) :
    bits .and .i64 (bits .xor .i64 (hiW a) (addX a b)) (bits .xor .i64 (hiW b) (addX a b)) < 0 ↔ ¬ InW (a + b) := by
  have b1 := bits_bd .xor (hiW a) (addX a b)
  have b2 := bits_bd .xor (hiW b) (addX a b)
  have b3 := addX_bd a b
  rw [and_neg _ _ b1.1 b1.2 b2.1 b2.2, xor_neg _ _ ha.h1 ha.h2 b3.1 b3.2, xor_neg _ _ hb.h1 hb.h2 b3.1 b3.2, addX_eq ha hb]
  unfold InW hiW at *
  omega
set_option maxRecDepth 20000 in
theorem add_hi {a b : Int} (ha : InW a) (hb : InW b) (h : InW (a + b)) : addX a b = hiW (a + b) := by
  rw [addX_eq ha hb]; unfold hiW; have := h.1; have := h.2; omega
set_option maxRecDepth 20000 in
theorem add_lo (a b : Int) : (loW a + loW b) % 18446744073709551616 = loW (a + b) := by unfold loW; omega

/-- the borrow -/
def bor (x y : Int) : Int := if x < y then 1 else 0
set_option maxRecDepth 20000 in
theorem bor1 (x y : Int) : 0 ≤ bor x y := by unfold bor; split <;> omega
set_option maxRecDepth 20000 in
theorem bor2 (x y : Int) : bor x y ≤ 1 := by unfold bor; split <;> omega
def subX (a b : Int) : Int := wrap64 ((IntKind.u64.wrap (hiW a) - IntKind.u64.wrap (hiW b) - bor (loW a) (loW b)) % 18446744073709551616)
set_option maxRecDepth 20000 in
theorem subX_bd (a b : Int) : -9223372036854775808 ≤ subX a b ∧ subX a b ≤ 9223372036854775807 := by unfold subX wrap64; omega
set_option maxRecDepth 20000 in
theorem subX_eq {a b : Int} (ha : InW a) (hb : InW b) : subX a b = ((a - b) / 18446744073709551616 + 9223372036854775808) % 18446744073709551616 - 9223372036854775808 := by
  unfold subX wrap64 hiW loW bor
  rw [IntKind.wrap_u64, IntKind.wrap_u64]
  have := ha.1; have := ha.2; have := hb.1; have := hb.2
  split <;> omega
set_option maxRecDepth 20000 in
theorem sub_over {a b : Int} (ha : InW a) (hb : InW b) :
    bits .and .i64 (bits .xor .i64 (hiW a) (hiW b)) (bits .xor .i64 (hiW a) (subX a b)) < 0 ↔ ¬ InW (a - b) := by
  have b1 := bits_bd .xor (hiW a) (hiW b)
  have b2 := bits_bd .xor (hiW a) (subX a b)
  have b3 := subX_bd a b
  rw [and_neg _ _ b1.1 b1.2 b2.1 b2.2, xor_neg _ _ ha.h1 ha.h2 hb.h1 hb.h2, xor_neg _ _ ha.h1 ha.h2 b3.1 b3.2, subX_eq ha hb]
  unfold InW hiW at *
  omega
set_option maxRecDepth 20000 in
theorem sub_hi {a b : Int} (ha : InW a) (hb : InW b) (h : InW (a - b)) : subX a b = hiW (a - b) := by
  rw [subX_eq ha hb]; unfold hiW; have := h.1; have := h.2; omega
set_option maxRecDepth 20000 in
theorem sub_lo (a b : Int) : (loW a - loW b) % 18446744073709551616 = loW (a - b) := by unfold loW; omega

/-! ### worlds that only grow -/
set_option maxRecDepth 20000 in
theorem bcell {W w1 : World} (hb : Below W.heap.size W w1) : (∀ b o, b < W.heap.size → w1.cell? ⟨b, o, none⟩ = W.cell? ⟨b, o, none⟩) ∧ (∀ b o, b < W.heap.size → w1.frozen? ⟨b, o, none⟩ = W.frozen? ⟨b, o, none⟩) :=
  ⟨fun b o h => hb.cell (p := ⟨b, o, none⟩) h, fun b o h => hb.frozen (p := ⟨b, o, none⟩) h⟩

/-- the world with more blocks, and some draws made -/
def more (w : World) (J : Array Obj) (d : Nat) : World := { w with heap := w.heap ++ J, drawn := d }
set_option maxRecDepth 20000 in
theorem below_more {w w' : World} (h : Below w.heap.size w w') : ∃ J d, w' = more w J d := by
  refine ⟨w'.heap.extract w.heap.size w'.heap.size, w'.drawn, ?_⟩
  obtain ⟨h1, h2, h3, h4, h5⟩ := h
  cases w' with
  | mk hp tp dr os out =>
    simp only at h1 h2 h3 h4 h5
    subst h1 h2 h3
    simp only [more, World.mk.injEq, and_true]
    refine Array.ext_getElem? fun i => ?_
    rw [Array.getElem?_append]
    split
    · exact h5 i (by assumption)
    · rw [Array.getElem?_extract]
      by_cases hi : i < hp.size
      · rw [if_pos (by omega)]; congr 1; omega
      · rw [if_neg (by omega), Array.getElem?_eq_none (by omega)]
set_option maxRecDepth 20000 in
theorem more_size (w : World) (J : Array Obj) (d : Nat) : (more w J d).heap.size = w.heap.size + J.size := by simp [more]
set_option maxRecDepth 20000 in
theorem more_get (w : World) (J : Array Obj) (d : Nat) (k : Nat) (h : k < w.heap.size) : (more w J d).heap[k]? = w.heap[k]? := by
  simp only [more]; rw [Array.getElem?_append_left h]
set_option maxRecDepth 20000 in
theorem more_cell (w : World) (J : Array Obj) (d b i : Nat) (h : b < w.heap.size) : (more w J d).cell? ⟨b, i, none⟩ = w.cell? ⟨b, i, none⟩ :=
  World.cell?_of_block (w := w) (more_get w J d b h)
set_option maxRecDepth 20000 in
theorem more_frozen (w : World) (J : Array Obj) (d b i : Nat) (h : b < w.heap.size) : (more w J d).frozen? ⟨b, i, none⟩ = w.frozen? ⟨b, i, none⟩ :=
  World.frozen?_of_block (w := w) (more_get w J d b h)
set_option maxRecDepth 20000 in
theorem more_shape (w : World) (J : Array Obj) (d b : Nat) (h : b < w.heap.size) : (more w J d).shape? b = w.shape? b := by
  unfold World.shape?; rw [more_get w J d b h]
set_option maxRecDepth 20000 in
theorem more_set (w : World) (J : Array Obj) (d b i : Nat) (v : Value) (h : b < w.heap.size) : (more w J d).setCell ⟨b, i, none⟩ v = more (w.setCell ⟨b, i, none⟩ v) J d := by
  simp only [World.setCell, more]
  congr 1
  refine Array.ext_getElem? fun k => ?_
  simp only [Array.getElem?_modify, Array.getElem?_append, Array.size_modify]
  by_cases hk : k = b
  · subst hk; simp [h]
  · have hk' : ¬ b = k := fun e => hk e.symm
    simp [hk']
set_option maxRecDepth 20000 in
theorem more_drew (w : World) (J : Array Obj) (d : Nat) : more w.drew J d = more w J d := rfl
set_option maxRecDepth 20000 in
theorem below_of_more {B : Nat} {a w : World} (h : Below B a w) (hB : B ≤ w.heap.size) (J : Array Obj) (d : Nat) : Below B a (more w J d) :=
  h.trans ⟨rfl, rfl, rfl, by simp [more], fun k hk => more_get w J d k (by omega)⟩
set_option maxRecDepth 20000 in
theorem more_more (w : World) (J J' : Array Obj) (d d' : Nat) : more (more w J d) J' d' = more w (J ++ J') d' := by simp [more, Array.append_assoc]
set_option maxRecDepth 20000 in
theorem more_drewN (w : World) (J : Array Obj) (d n : Nat) : more (w.drewN n) J d = more w J d := rfl
set_option maxRecDepth 20000 in
theorem set_drewN (w : World) (n : Nat) (a : Addr) (v : Value) : (w.drewN n).setCell a v = (w.setCell a v).drewN n := rfl
set_option maxRecDepth 20000 in
theorem alloc_drewN' (w : World) (n : Nat) (o : Obj) : (w.drewN n).alloc o = (w.alloc o).drewN n := rfl
set_option maxRecDepth 20000 in
theorem lt_add_r (a b c : Nat) (h : a < b) : a < b + c := by omega
attribute [go_sem] more_more more_drewN set_drewN alloc_drewN' more_size more_drew
/-- what a call that makes blocks alone leaves -/
def Mo (w w' : World) : Prop := ∃ J d, w' = more w J d
set_option maxRecDepth 20000 in
theorem Mo.below {w w' : World} (h : Mo w w') : Below w.heap.size w w' := by
  obtain ⟨J, d, rfl⟩ := h
  exact below_of_more (Below.refl _ _) (Nat.le_refl _) J d
set_option maxRecDepth 20000 in
theorem Mo.of {w w' : World} (h : Below w.heap.size w w') : Mo w w' := below_more h
/-- the same, found by the form of the world -/
class Mor (a w : World) : Prop where
  out : Mo a w
set_option maxRecDepth 20000 in
instance (a : World) : Mor a a := ⟨Mo.of (Below.refl _ _)⟩
set_option maxRecDepth 20000 in
instance (a w : World) (o : Obj) [h : Mor a w] : Mor a (w.alloc o) := ⟨Mo.of (h.out.below.alloc h.out.below.size o)⟩
set_option maxRecDepth 20000 in
instance (a w : World) (J : Array Obj) (d : Nat) [h : Mor a w] : Mor a (more w J d) := ⟨Mo.of (below_of_more h.out.below h.out.below.size J d)⟩
set_option maxRecDepth 20000 in
instance (a w : World) [h : Mor a w] : Mor a w.drew := ⟨Mo.of h.out.below.drew⟩
set_option maxRecDepth 20000 in
instance (a w : World) (n : Nat) [h : Mor a w] : Mor a (w.drewN n) := ⟨Mo.of ⟨h.out.below.os, h.out.below.tape, h.out.below.output, h.out.below.size, h.out.below.block⟩⟩

/-! ### which blocks a world holds, found by its form -/
class ArrSz (J : Array Obj) (n : Nat) : Prop where
  out : J.size = n
set_option maxRecDepth 20000 in
instance (priority := low) (J : Array Obj) : ArrSz J J.size := ⟨rfl⟩
set_option maxRecDepth 20000 in
instance (J K : Array Obj) (n m : Nat) [h : ArrSz J n] [h' : ArrSz K m] : ArrSz (J ++ K) (n + m) := ⟨by rw [Array.size_append, h.out, h'.out]⟩
class SizeIs (w : World) (n : Nat) : Prop where
  out : w.heap.size = n
set_option maxRecDepth 20000 in
instance (priority := low) (w : World) : SizeIs w w.heap.size := ⟨rfl⟩
set_option maxRecDepth 20000 in
instance (w : World) (o : Obj) (n : Nat) [h : SizeIs w n] : SizeIs (w.alloc o) (n + 1) := ⟨by rw [← h.out]; simp⟩
set_option maxRecDepth 20000 in
instance (w : World) (J : Array Obj) (d n m : Nat) [h : SizeIs w n] [h' : ArrSz J m] : SizeIs (more w J d) (n + m) := ⟨by rw [more_size, h.out, h'.out]⟩
set_option maxRecDepth 20000 in
instance (w : World) (n : Nat) [h : SizeIs w n] : SizeIs w.drew n := ⟨h.out⟩
set_option maxRecDepth 20000 in
instance (w : World) (n k : Nat) [h : SizeIs w n] : SizeIs (w.drewN k) n := ⟨h.out⟩
class LtW (b : Nat) (w : World) : Prop where
  out : b < w.heap.size
set_option maxRecDepth 20000 in
instance (priority := low) (w : World) (o : Obj) (b : Nat) [h : SizeIs w b] : LtW b (w.alloc o) := ⟨by rw [← h.out]; simp⟩
set_option maxRecDepth 20000 in
instance (w : World) (o : Obj) (b : Nat) [h : LtW b w] : LtW b (w.alloc o) := ⟨Nat.lt_of_lt_of_le h.out (by simp)⟩
set_option maxRecDepth 20000 in
instance (w : World) (J : Array Obj) (d b : Nat) [h : LtW b w] : LtW b (more w J d) := ⟨by rw [more_size]; have := h.out; omega⟩
set_option maxRecDepth 20000 in
instance (w : World) (b : Nat) [h : LtW b w] : LtW b w.drew := ⟨h.out⟩
set_option maxRecDepth 20000 in
instance (w : World) (b k : Nat) [h : LtW b w] : LtW b (w.drewN k) := ⟨h.out⟩
set_option maxRecDepth 20000 in
theorem more_cell' (w : World) (J : Array Obj) (d b i : Nat) [h : LtW b w] : (more w J d).cell? ⟨b, i, none⟩ = w.cell? ⟨b, i, none⟩ := more_cell w J d b i h.out
set_option maxRecDepth 20000 in
theorem more_frozen' (w : World) (J : Array Obj) (d b i : Nat) [h : LtW b w] : (more w J d).frozen? ⟨b, i, none⟩ = w.frozen? ⟨b, i, none⟩ := more_frozen w J d b i h.out
set_option maxRecDepth 20000 in
theorem more_shape' (w : World) (J : Array Obj) (d b : Nat) [h : LtW b w] : (more w J d).shape? b = w.shape? b := more_shape w J d b h.out
set_option maxRecDepth 20000 in
theorem more_set' (w : World) (J : Array Obj) (d b i : Nat) (v : Value) [h : LtW b w] : (more w J d).setCell ⟨b, i, none⟩ v = more (w.setCell ⟨b, i, none⟩ v) J d := more_set w J d b i v h.out
set_option maxRecDepth 20000 in
theorem alloc_cell' (w : World) (o : Obj) (b i : Nat) [h : LtW b w] : (w.alloc o).cell? ⟨b, i, none⟩ = w.cell? ⟨b, i, none⟩ := World.cell?_alloc_past (w := w) o b i h.out
set_option maxRecDepth 20000 in
theorem alloc_frozen' (w : World) (o : Obj) (b i : Nat) [h : LtW b w] : (w.alloc o).frozen? ⟨b, i, none⟩ = w.frozen? ⟨b, i, none⟩ := World.frozen?_alloc_past (w := w) o b i h.out
set_option maxRecDepth 20000 in
theorem alloc_set' (w : World) (o : Obj) (b i : Nat) (v : Value) [h : LtW b w] : (w.alloc o).setCell ⟨b, i, none⟩ v = (w.setCell ⟨b, i, none⟩ v).alloc o := World.setCell_alloc_past (w := w) o b i v h.out
attribute [go_sem] more_cell' more_frozen' more_shape' more_set' alloc_cell' alloc_frozen' alloc_set'
end Go.Proofs.Ythgkhllkhhnlpaa
/- What each function of package wide returns, in integers. -/
namespace Go.Proofs.Ythgkhllkhhnlpaa
open Go.RowKit

set_option maxRecDepth 20000 in
theorem add64 (x y c : Int) (hx : 0 ≤ x) (hy : 0 ≤ y) (hc0 : 0 ≤ c) (hc : c ≤ 1) (w : World) : (callFunc 86 #[.int .u64 x, .int .u64 y, .int .u64 c]).run Try.prog w =
    .ok (.value (.tuple #[.int .u64 ((x + y + c) % 18446744073709551616), .int .u64 ((x + y + c) / 18446744073709551616)])) w := by
  rw [run_callFunc_extern Try.func86 (by kernel_rfl) (by kernel_rfl) (by kernel_rfl) (e := add64Entry) (by kernel_rfl), run_add64 x y c hx hy hc0 hc]
  rfl
set_option maxRecDepth 20000 in
theorem add64_0 (x y : Int) (hx : 0 ≤ x) (hy : 0 ≤ y) (w : World) : (callFunc 86 #[.int .u64 x, .int .u64 y, .int .u64 0]).run Try.prog w =
    .ok (.value (.tuple #[.int .u64 ((x + y) % 18446744073709551616), .int .u64 ((x + y) / 18446744073709551616)])) w := by
  simpa using add64 x y 0 hx hy (Int.le_refl 0) (by decide) w
set_option maxRecDepth 20000 in
theorem sub64 (x y b : Int) (hx : 0 ≤ x) (hy : 0 ≤ y) (hy' : y < 18446744073709551616) (hb0 : 0 ≤ b) (hb : b ≤ 1) (w : World) : (callFunc 84 #[.int .u64 x, .int .u64 y, .int .u64 b]).run Try.prog w =
    .ok (.value (.tuple #[.int .u64 ((x - y - b) % 18446744073709551616), .int .u64 (bor x (y + b))])) w := by
  obtain ⟨x, rfl⟩ := Int.eq_ofNat_of_zero_le hx
  obtain ⟨y, rfl⟩ := Int.eq_ofNat_of_zero_le hy
  obtain ⟨b, rfl⟩ := Int.eq_ofNat_of_zero_le hb0
  have e1 : (((x + 18446744073709551616 - y - b) % 18446744073709551616 : Nat) : Int) = ((x : Int) - y - b) % 18446744073709551616 := by omega
  have e2 : ((if x < y + b then 1 else 0 : Nat) : Int) = bor x (y + b) := by unfold bor; split <;> split <;> omega
  rw [← e1, ← e2, run_callFunc_extern Try.func84 (by kernel_rfl) (by kernel_rfl) (by kernel_rfl) (e := sub64Entry) (by kernel_rfl), run_sub64 x y b (by omega)]
  rfl
set_option maxRecDepth 20000 in
theorem sub64_0 (x y : Int) (hx : 0 ≤ x) (hy : 0 ≤ y) (hy' : y < 18446744073709551616) (w : World) : (callFunc 84 #[.int .u64 x, .int .u64 y, .int .u64 0]).run Try.prog w =
    .ok (.value (.tuple #[.int .u64 ((x - y) % 18446744073709551616), .int .u64 (bor x y)])) w := by
  simpa using sub64 x y 0 hx hy hy' (Int.le_refl 0) (by decide) w

set_option maxRecDepth 20000 in
set_option maxHeartbeats 400000 in
theorem most_any (w : World) : Calls Try.prog 95 #[] w fun e w' => e = .returned (WV maxW) ∧ Mo w w' := by
  have e1 : hiW maxW = 9223372036854775807 := by decide
  have e2 : loW maxW = 18446744073709551615 := by decide
  go_enter Try.func95, Try.ntmps95
  go_wp2
  exact bodyPost_ret (v := WV maxW) (by simp [results, Try.results95, go_sem, e1, e2]) rfl ⟨rfl, Mor.out⟩
set_option maxRecDepth 20000 in
set_option maxHeartbeats 400000 in
theorem least_any (w : World) : Calls Try.prog 92 #[] w fun e w' => e = .returned (WV minW) ∧ Mo w w' := by
  have e1 : hiW minW = -9223372036854775808 := by decide
  have e2 : loW minW = 0 := by decide
  go_enter Try.func92, Try.ntmps92
  go_wp2
  exact bodyPost_ret (v := WV minW) (by simp [results, Try.results92, go_sem, e1, e2]) rfl ⟨rfl, Mor.out⟩
set_option maxRecDepth 20000 in
set_option maxHeartbeats 400000 in
theorem end_true (w : World) : Calls Try.prog 85 #[.bool true] w fun e w' => e = .returned (WV minW) ∧ Mo w w' := by
  go_enter Try.func85, Try.ntmps85
  go_wp2_with (go_at_call 92; refine (least_any _).mono ?_; rintro e w1 ⟨rfl, J, d, rfl⟩)
  exact bodyPost_ret (v := WV minW) (by simp [results, Try.results85, go_sem]) rfl ⟨rfl, Mor.out⟩
set_option maxRecDepth 20000 in
set_option maxHeartbeats 400000 in
theorem end_false (w : World) : Calls Try.prog 85 #[.bool false] w fun e w' => e = .returned (WV maxW) ∧ Mo w w' := by
  go_enter Try.func85, Try.ntmps85
  go_wp2_with (go_at_call 95; refine (most_any _).mono ?_; rintro e w1 ⟨rfl, J, d, rfl⟩)
  exact bodyPost_ret (v := WV maxW) (by simp [results, Try.results85, go_sem]) rfl ⟨rfl, Mor.out⟩
/-- the end on a side -/
def endW (b : Bool) : Int := if b then minW else maxW
set_option maxRecDepth 20000 in
theorem end_any (b : Bool) (w : World) : Calls Try.prog 85 #[.bool b] w fun e w' => e = .returned (WV (endW b)) ∧ Mo w w' := by
  cases b
  · exact end_false w
  · exact end_true w

set_option maxRecDepth 20000 in
set_option maxHeartbeats 400000 in
theorem of_any (n : Int) (h1 : -9223372036854775808 ≤ n) (h2 : n ≤ 9223372036854775807) (w : World) :
    Calls Try.prog 48 #[.int .i64 n] w fun e w' => e = .returned (WV n) ∧ Mo w w' := by
  have e1 : hiW n = n / 9223372036854775808 := by unfold hiW; omega
  have e2 : loW n = IntKind.u64.wrap n := by unfold loW; rw [IntKind.wrap_u64]
  go_enter Try.func48, Try.ntmps48
  go_wp2
  exact bodyPost_ret (v := WV n) (by simp [results, Try.results48, go_sem, e1, e2]) rfl ⟨rfl, Mor.out⟩

set_option maxRecDepth 20000 in
set_option maxHeartbeats 400000 in
theorem add_any (a b : Int) (ha : InW a) (hb : InW b) (w : World) :
    Calls Try.prog 77 #[WV a, WV b] w fun e w' => e = .returned (WV (cl (a + b))) ∧ Mo w w' := by
  have g1 := lo1 a
  have g3 := lo1 b
  have k0 : 0 ≤ (loW a + loW b) / 18446744073709551616 := by omega
  have k1 : (loW a + loW b) / 18446744073709551616 ≤ 1 := by have := lo2 a; have := lo2 b; omega
  have u1 : 0 ≤ IntKind.u64.wrap (hiW a) := by rw [IntKind.wrap_u64]; omega
  have u2 : 0 ≤ IntKind.u64.wrap (hiW b) := by rw [IntKind.wrap_u64]; omega
  have hX : wrap64 ((IntKind.u64.wrap (hiW a) + IntKind.u64.wrap (hiW b) + (loW a + loW b) / 18446744073709551616) % 18446744073709551616) = addX a b := rfl
  have hO := add_over ha hb
  have a1 := ha.h1
  have a2 := ha.h2
  by_cases h : InW (a + b)
  · have hi := add_hi ha hb h
    have lo := add_lo a b
    have ho : decide (bits .and .i64 (bits .xor .i64 (hiW a) (hiW (a + b))) (bits .xor .i64 (hiW b) (hiW (a + b))) < 0) = false := by
      rw [← hi, decide_eq_false_iff_not, hO]; simpa using h
    rw [hi] at hX
    rw [cl_in h]
    clear hi hO ha hb
    go_enter Try.func77, Try.ntmps77
    go_wp2_with (first | simp only [add64_0 _ _ g1 g3] | simp only [add64 _ _ _ u1 u2 k0 k1])
    exact bodyPost_ret (v := WV (a + b)) (by simp [results, Try.results77, go_sem]) rfl ⟨rfl, Mor.out⟩
  · have ho : decide (bits .and .i64 (bits .xor .i64 (hiW a) (addX a b)) (bits .xor .i64 (hiW b) (addX a b)) < 0) = true := by
      rw [decide_eq_true_eq, hO]; exact h
    have he : cl (a + b) = endW (decide (hiW a < 0)) := by
      have h' := h
      have := ha.1; have := ha.2; have := hb.1; have := hb.2
      unfold InW at h'
      unfold endW cl hiW
      by_cases c : a / 18446744073709551616 < 0
      · rw [decide_eq_true c, if_pos rfl, if_pos (by omega)]
      · rw [decide_eq_false c, if_neg (by omega), if_pos (by omega)]; rfl
    rw [he]
    clear hO ha hb h he
    go_enter Try.func77, Try.ntmps77
    go_wp2_with (first | simp only [add64_0 _ _ g1 g3] | simp only [add64 _ _ _ u1 u2 k0 k1] | (go_at_call 85; refine (end_any _ _).mono ?_; rintro e w1 ⟨rfl, J, d, rfl⟩))
    exact bodyPost_ret (v := WV (endW (decide (hiW a < 0)))) (by simp [results, Try.results77, go_sem]) rfl ⟨rfl, Mor.out⟩
set_option maxRecDepth 20000 in
set_option maxHeartbeats 400000 in
theorem sub_any (a b : Int) (ha : InW a) (hb : InW b) (w : World) :
    Calls Try.prog 60 #[WV a, WV b] w fun e w' => e = .returned (WV (cl (a - b))) ∧ Mo w w' := by
  have g1 := lo1 a
  have g3 := lo1 b
  have g4 := lo2 b
  have k0 := bor1 (loW a) (loW b)
  have k1 := bor2 (loW a) (loW b)
  have u1 : 0 ≤ IntKind.u64.wrap (hiW a) := by rw [IntKind.wrap_u64]; omega
  have u2 : 0 ≤ IntKind.u64.wrap (hiW b) := by rw [IntKind.wrap_u64]; omega
  have u3 : IntKind.u64.wrap (hiW b) < 18446744073709551616 := by rw [IntKind.wrap_u64]; omega
  have hX : wrap64 ((IntKind.u64.wrap (hiW a) - IntKind.u64.wrap (hiW b) - bor (loW a) (loW b)) % 18446744073709551616) = subX a b := rfl
  have hO := sub_over ha hb
  have a1 := ha.h1
  have a2 := ha.h2
  by_cases h : InW (a - b)
  · have hi := sub_hi ha hb h
    have lo := sub_lo a b
    have ho : decide (bits .and .i64 (bits .xor .i64 (hiW a) (hiW b)) (bits .xor .i64 (hiW a) (hiW (a - b))) < 0) = false := by
      rw [← hi, decide_eq_false_iff_not, hO]; simpa using h
    rw [hi] at hX
    rw [cl_in h]
    clear hi hO ha hb
    go_enter Try.func60, Try.ntmps60
    go_wp2_with (first | simp only [sub64_0 _ _ g1 g3 g4] | simp only [sub64 _ _ _ u1 u2 u3 k0 k1])
    exact bodyPost_ret (v := WV (a - b)) (by simp [results, Try.results60, go_sem]) rfl ⟨rfl, Mor.out⟩
  · have ho : decide (bits .and .i64 (bits .xor .i64 (hiW a) (hiW b)) (bits .xor .i64 (hiW a) (subX a b)) < 0) = true := by
      rw [decide_eq_true_eq, hO]; exact h
    have he : cl (a - b) = endW (decide (hiW a < 0)) := by
      have h' := h
      have := ha.1; have := ha.2; have := hb.1; have := hb.2
      unfold InW at h'
      unfold endW cl hiW
      by_cases c : a / 18446744073709551616 < 0
      · rw [decide_eq_true c, if_pos rfl, if_pos (by omega)]
      · rw [decide_eq_false c, if_neg (by omega), if_pos (by omega)]; rfl
    rw [he]
    clear hO ha hb h he
    go_enter Try.func60, Try.ntmps60
    go_wp2_with (first | simp only [sub64_0 _ _ g1 g3 g4] | simp only [sub64 _ _ _ u1 u2 u3 k0 k1] | (go_at_call 85; refine (end_any _ _).mono ?_; rintro e w1 ⟨rfl, J, d, rfl⟩))
    exact bodyPost_ret (v := WV (endW (decide (hiW a < 0)))) (by simp [results, Try.results60, go_sem]) rfl ⟨rfl, Mor.out⟩

set_option maxRecDepth 20000 in
theorem sub_zero_any (a : Int) (ha : InW a) (w : World) :
    Calls Try.prog 60 #[.agg #[.int .i64 0, .int .u64 0], WV a] w fun e w' => e = .returned (WV (cl (-a))) ∧ Mo w w' := by
  have h := sub_any 0 a inW_0 ha w
  rw [Int.zero_sub] at h
  exact h
set_option maxRecDepth 20000 in
set_option maxHeartbeats 400000 in
theorem neg_any (a : Int) (ha : InW a) (w : World) :
    Calls Try.prog 93 #[WV a] w fun e w' => e = .returned (WV (cl (-a))) ∧ Mo w w' := by
  go_enter Try.func93, Try.ntmps93
  go_wp2_with (go_at_call 60; refine (sub_zero_any a ha _).mono ?_; rintro e w1 ⟨rfl, J, d, rfl⟩)
  exact bodyPost_ret (v := WV (cl (-a))) (by simp [results, Try.results93, go_sem]) rfl ⟨rfl, Mor.out⟩

/-- how far from 0 -/
def absI (x : Int) : Int := if x < 0 then -x else x
/-! ### Cmp -/
def cmpI (x y : Int) : Int := if x < y then -1 else if y < x then 1 else 0
/-- the first that is not 0 -/
def orI (x y : Int) : Int := if x = 0 then y else x
set_option maxRecDepth 20000 in
theorem or63 (h l : Int) (h1 : 0 ≤ l) (h2 : l < 18446744073709551616) : bits .or .u64 (IntKind.u64.wrap (IntKind.u64.wrap h * 9223372036854775808)) (l / 2) = (h % 2) * 9223372036854775808 + l / 2 := by
  have e : IntKind.u64.wrap (IntKind.u64.wrap h * 9223372036854775808) = (h % 2) * 9223372036854775808 := by
    rw [IntKind.wrap_u64, IntKind.wrap_u64]; omega
  rw [e, u64_or _ _ (by omega) (by omega) (by omega) (by omega), nat_join 63 _ _ (by omega) (by omega)]
  omega
set_option maxRecDepth 20000 in
theorem cmpI_wide (a b : Int) : orI (cmpI (hiW a) (hiW b)) (cmpI (loW a) (loW b)) = cmpI a b := by
  unfold orI cmpI hiW loW
  split <;> (repeat' split) <;> omega
end Go.Proofs.Ythgkhllkhhnlpaa
/- The shelf contracts of LeadingZeros64, Len64, Mul64 at this translation (lay-plain.mjs). -/
namespace Go.Proofs
open Go.Shelf
def Try.lays134_ren : Go.Shelf.Ren := ⟨fun | 134 => 94 | 129 => 97 | n => n, fun | 53 => 41 | 3 => 3 | 4 => 4 | 46 => 168 | 5 => 5 | 9 => 9 | n => n, fun | n => n⟩
set_option maxRecDepth 20000 in
theorem Try.lays134 : Go.Proofs.Lays.n134 Try.prog Try.lays134_ren := {
  mixed := by kernel_rfl
  f129 := Try.func97.trans (congrArg some (by kernel_rfl))
  f134 := Try.func94.trans (congrArg some (by kernel_rfl))
  t3 := Try.underlying3
  a3 := Try.isAgg3
  z3 := Try.sizeOf3
  v3 := Try.zeroValue3
  t4 := Try.underlying4
  a4 := Try.isAgg4
  z4 := Try.sizeOf4
  v4 := Try.zeroValue4
  t5 := Try.underlying5
  a5 := Try.isAgg5
  z5 := Try.sizeOf5
  v5 := Try.zeroValue5
  t9 := Try.underlying9
  a9 := Try.isAgg9
  z9 := Try.sizeOf9
  v9 := Try.zeroValue9
  t46 := Try.underlying168
  a46 := Try.isAgg168
  z46 := Try.sizeOf168
  v46 := Try.zeroValue168
  t53 := Try.underlying41
  a53 := Try.isAgg41
  z53 := Try.sizeOf41
  v53 := Try.zeroValue41 }
set_option maxRecDepth 20000 in
theorem Try.bits_LeadingZeros64 (x : Int) (w : World) (h0 : 0 ≤ x) (h1 : x ≤ 18446744073709551615) :
    Calls Try.prog 94 #[.int .u64 x] w fun e w' => e = .returned (.int .i64 (64 - (Lib.bitLen x.toNat : Int))) ∧ w' = w := Any.bits_LeadingZeros64 Try.lays134 x w h0 h1
def Try.lays129_ren : Go.Shelf.Ren := ⟨fun | 129 => 97 | n => n, fun | 53 => 41 | 3 => 3 | 4 => 4 | 46 => 168 | 5 => 5 | 9 => 9 | n => n, fun | n => n⟩
set_option maxRecDepth 20000 in
theorem Try.lays129 : Go.Proofs.Lays.n129 Try.prog Try.lays129_ren := {
  mixed := by kernel_rfl
  f129 := Try.func97.trans (congrArg some (by kernel_rfl))
  t3 := Try.underlying3
  a3 := Try.isAgg3
  z3 := Try.sizeOf3
  v3 := Try.zeroValue3
  t4 := Try.underlying4
  a4 := Try.isAgg4
  z4 := Try.sizeOf4
  v4 := Try.zeroValue4
  t5 := Try.underlying5
  a5 := Try.isAgg5
  z5 := Try.sizeOf5
  v5 := Try.zeroValue5
  t9 := Try.underlying9
  a9 := Try.isAgg9
  z9 := Try.sizeOf9
  v9 := Try.zeroValue9
  t46 := Try.underlying168
  a46 := Try.isAgg168
  z46 := Try.sizeOf168
  v46 := Try.zeroValue168
  t53 := Try.underlying41
  a53 := Try.isAgg41
  z53 := Try.sizeOf41
  v53 := Try.zeroValue41 }
set_option maxRecDepth 20000 in
theorem Try.bits_Len64 (x : Int) (w : World) (h0 : 0 ≤ x) (h1 : x ≤ 18446744073709551615) :
    Calls Try.prog 97 #[.int .u64 x] w fun e w' => e = .returned (.int .i64 (Lib.bitLen x.toNat)) ∧ w' = w := Any.bits_Len64 Try.lays129 x w h0 h1
def Try.lays264_ren : Go.Shelf.Ren := ⟨fun | 264 => 79 | n => n, fun | 53 => 41 | 46 => 168 | n => n, fun | n => n⟩
set_option maxRecDepth 20000 in
theorem Try.lays264 : Go.Proofs.Lays.n264 Try.prog Try.lays264_ren := {
  mixed := by kernel_rfl
  f264 := Try.func79.trans (congrArg some (by kernel_rfl))
  t46 := Try.underlying168
  a46 := Try.isAgg168
  z46 := Try.sizeOf168
  v46 := Try.zeroValue168
  t53 := Try.underlying41
  a53 := Try.isAgg41
  z53 := Try.sizeOf41
  v53 := Try.zeroValue41 }
set_option maxRecDepth 20000 in
open Go.RowKit Go.Lib in
theorem Try.bits_Mul64 (x y : Nat) (hx : x < 18446744073709551616) (hy : y < 18446744073709551616) (w : World) :
    Calls Try.prog 79 #[.int .u64 x, .int .u64 y] w fun e w' => e = .returned (.tuple #[.int .u64 ((x * y / 18446744073709551616 : Nat) : Int), .int .u64 ((x * y % 18446744073709551616 : Nat) : Int)]) ∧ w' = w := Any.bits_Mul64 Try.lays264 x y hx hy w
end Go.Proofs
/- What each function of package wide returns, in integers: size, signed, Mul, Scale. -/
namespace Go.Proofs.Ythgkhllkhhnlpaa
open Go.RowKit

set_option maxRecDepth 20000 in
theorem mul64_any (x y : Int) (h1 : 0 ≤ x) (h2 : x < 18446744073709551616) (h3 : 0 ≤ y) (h4 : y < 18446744073709551616) (w : World) :
    Calls Try.prog 79 #[.int .u64 x, .int .u64 y] w fun e w' => e = .returned (.tuple #[.int .u64 (hiW (x * y)), .int .u64 (loW (x * y))]) ∧ w = w' := by
  obtain ⟨x, rfl⟩ := Int.eq_ofNat_of_zero_le h1
  obtain ⟨y, rfl⟩ := Int.eq_ofNat_of_zero_le h3
  refine (Try.bits_Mul64 x y (by omega) (by omega) w).mono ?_
  rintro e w' ⟨rfl, rfl⟩
  refine ⟨?_, rfl⟩
  unfold hiW loW
  rw [← Int.natCast_mul]
  congr 5

set_option maxRecDepth 20000 in
theorem sub64_00 (y : Int) (hy : 0 ≤ y) (hy' : y < 18446744073709551616) (w : World) : (callFunc 84 #[.int .u64 0, .int .u64 y, .int .u64 0]).run Try.prog w =
    .ok (.value (.tuple #[.int .u64 ((-y) % 18446744073709551616), .int .u64 (bor 0 y)])) w := by
  simpa using sub64 0 y 0 (Int.le_refl 0) hy hy' (Int.le_refl 0) (by decide) w
set_option maxRecDepth 20000 in
theorem sub64_0b (y b : Int) (hy : 0 ≤ y) (hy' : y < 18446744073709551616) (hb0 : 0 ≤ b) (hb : b ≤ 1) (w : World) : (callFunc 84 #[.int .u64 0, .int .u64 y, .int .u64 b]).run Try.prog w =
    .ok (.value (.tuple #[.int .u64 ((-y - b) % 18446744073709551616), .int .u64 (bor 0 (y + b))])) w := by
  simpa using sub64 0 y b (Int.le_refl 0) hy hy' hb0 hb w
set_option maxRecDepth 20000 in
theorem absI_lo (a : Int) (h : hiW a < 0) : (-loW a) % 18446744073709551616 = loW (absI a) := by
  have e : absI a = -a := if_pos (by unfold hiW at h; omega)
  rw [e]; unfold loW; omega
set_option maxRecDepth 20000 in
theorem absI_hi (a : Int) (ha : InW a) (h : hiW a < 0) : (-IntKind.u64.wrap (hiW a) - bor 0 (loW a)) % 18446744073709551616 = hiW (absI a) := by
  have := ha.1; have := ha.2
  unfold hiW at h
  have e : absI a = -a := if_pos (by omega)
  rw [e, IntKind.wrap_u64]; unfold bor loW hiW; split <;> omega
set_option maxRecDepth 20000 in
theorem absI_bd {a : Int} (ha : InW a) : 0 ≤ absI a ∧ absI a ≤ 170141183460469231731687303715884105728 := by
  have := ha.1; have := ha.2
  unfold absI; split <;> omega
set_option maxRecDepth 20000 in
set_option maxHeartbeats 400000 in
theorem size_any (a : Int) (ha : InW a) (w : World) :
    Calls Try.prog 81 #[WV a] w fun e w' => e = .returned (.tuple #[.int .u64 (hiW (absI a)), .int .u64 (loW (absI a))]) ∧ Mo w w' := by
  have a1 := ha.h1
  have a2 := ha.h2
  by_cases h : hiW a < 0
  · have hn : ¬ 0 ≤ hiW a := by omega
    have e1 := absI_lo a h
    have e2 := absI_hi a ha h
    have g1 := lo1 a
    have g2 := lo2 a
    have k0 := bor1 0 (loW a)
    have k1 := bor2 0 (loW a)
    have u2 : 0 ≤ IntKind.u64.wrap (hiW a) := by rw [IntKind.wrap_u64]; omega
    have u3 : IntKind.u64.wrap (hiW a) < 18446744073709551616 := by rw [IntKind.wrap_u64]; omega
    go_enter Try.func81, Try.ntmps81
    go_wp2
    go_quiet (fail)
    go_wp2_with (first | simp only [sub64_00 _ g1 g2] | simp only [sub64_0b _ _ u2 u3 k0 k1])
    go_ret2
    exact ⟨rfl, Mor.out⟩
  · have hn : 0 ≤ hiW a := by omega
    have e : absI a = a := by unfold absI; rw [if_neg (by unfold hiW at hn; omega)]
    rw [e]
    clear e
    go_enter Try.func81, Try.ntmps81
    go_wp2
    go_quiet (fail)
    go_wp2
    go_ret2
    exact ⟨rfl, Mor.out⟩

/-- what signed makes of a size -/
def sgn (m : Int) (below : Bool) : Int := cl (if below then -m else m)
set_option maxRecDepth 20000 in
set_option maxHeartbeats 400000 in
theorem signed_over (h l : Int) (below : Bool) (w : World) :
    Calls Try.prog 80 #[.int .u64 h, .int .u64 l, .bool below, .bool true] w fun e w' => e = .returned (WV (endW below)) ∧ Mo w w' := by
  go_enter Try.func80, Try.ntmps80
  go_wp2_with (go_at_call 85; refine (end_any _ _).mono ?_; rintro e w1 ⟨rfl, J, d, rfl⟩)
  exact bodyPost_ret (v := WV (endW below)) (by simp [results, Try.results80, go_sem]) rfl ⟨rfl, Mor.out⟩
set_option maxRecDepth 20000 in
set_option maxHeartbeats 400000 in
theorem signed_great (h l : Int) (below : Bool) (w : World) (hh : 9223372036854775808 < h) :
    Calls Try.prog 80 #[.int .u64 h, .int .u64 l, .bool below, .bool false] w fun e w' => e = .returned (WV (endW below)) ∧ Mo w w' := by
  go_enter Try.func80, Try.ntmps80
  go_wp2_with (go_at_call 85; refine (end_any _ _).mono ?_; rintro e w1 ⟨rfl, J, d, rfl⟩)
  exact bodyPost_ret (v := WV (endW below)) (by simp [results, Try.results80, go_sem]) rfl ⟨rfl, Mor.out⟩
set_option maxRecDepth 20000 in
set_option maxHeartbeats 400000 in
theorem signed_mid (l : Int) (below : Bool) (w : World) (hh : 0 < l) :
    Calls Try.prog 80 #[.int .u64 9223372036854775808, .int .u64 l, .bool below, .bool false] w fun e w' => e = .returned (WV (endW below)) ∧ Mo w w' := by
  go_enter Try.func80, Try.ntmps80
  go_wp2_with (go_at_call 85; refine (end_any _ _).mono ?_; rintro e w1 ⟨rfl, J, d, rfl⟩)
  exact bodyPost_ret (v := WV (endW below)) (by simp [results, Try.results80, go_sem]) rfl ⟨rfl, Mor.out⟩
set_option maxRecDepth 20000 in
set_option maxHeartbeats 400000 in
theorem signed_edge (w : World) :
    Calls Try.prog 80 #[.int .u64 9223372036854775808, .int .u64 0, .bool false, .bool false] w fun e w' => e = .returned (WV (endW false)) ∧ Mo w w' := by
  go_enter Try.func80, Try.ntmps80
  go_wp2_with (go_at_call 85; refine (end_any _ _).mono ?_; rintro e w1 ⟨rfl, J, d, rfl⟩)
  exact bodyPost_ret (v := WV (endW false)) (by simp [results, Try.results80, go_sem]) rfl ⟨rfl, Mor.out⟩
set_option maxRecDepth 20000 in
set_option maxHeartbeats 400000 in
theorem signed_least (w : World) :
    Calls Try.prog 80 #[.int .u64 9223372036854775808, .int .u64 0, .bool true, .bool false] w fun e w' => e = .returned (WV minW) ∧ Mo w w' := by
  have e1 : hiW minW = -9223372036854775808 := by decide
  have e2 : loW minW = 0 := by decide
  have e0 : wrap64 9223372036854775808 = -9223372036854775808 := by unfold wrap64; omega
  go_enter Try.func80, Try.ntmps80
  go_wp2_with fail
  go_region_held3 (fun w' => w'.cell? ⟨w.heap.size + 1, 0, none⟩ = some (.int .i64 (-9223372036854775808)) ∧ w'.cell? ⟨w.heap.size + 1, 1, none⟩ = some (.int .u64 0)) (simp [go_sem])
    (first
    | (go_at_call 92; refine (least_any _).mono ?_; rintro e w1 ⟨rfl, J, d, rfl⟩))
  go_wp2_with fail
  exact bodyPost_ret (v := WV minW) (by simp [results, Try.results80, go_sem, e1, e2]) rfl ⟨rfl, Mor.out⟩
set_option maxRecDepth 20000 in
set_option maxHeartbeats 400000 in
theorem signed_plus (h l : Int) (w : World) (h1 : 0 ≤ h) (h2 : h < 9223372036854775808) :
    Calls Try.prog 80 #[.int .u64 h, .int .u64 l, .bool false, .bool false] w fun e w' => e = .returned (.agg #[.int .i64 h, .int .u64 l]) ∧ Mo w w' := by
  go_enter Try.func80, Try.ntmps80
  go_wp2_with fail
  go_quiet (fail)
  go_wp2_with fail
  exact bodyPost_ret (v := .agg #[.int .i64 h, .int .u64 l]) (by simp [results, Try.results80, go_sem]) rfl ⟨rfl, Mor.out⟩
set_option maxRecDepth 20000 in
set_option maxHeartbeats 400000 in
theorem signed_minus (m : Int) (w : World) (h1 : 0 ≤ hiW m) (h2 : hiW m < 9223372036854775808) (hm : InW m) :
    Calls Try.prog 80 #[.int .u64 (hiW m), .int .u64 (loW m), .bool true, .bool false] w fun e w' => e = .returned (WV (cl (-m))) ∧ Mo w w' := by
  have e1 : hiW minW = -9223372036854775808 := by decide
  have e2 : loW minW = 0 := by decide
  have hne : (hiW m = -9223372036854775808) = False := by simp; omega
  go_enter Try.func80, Try.ntmps80
  go_wp2_with fail
  go_region_held3 (fun w' => w'.cell? ⟨w.heap.size + 1, 0, none⟩ = some (.int .i64 (hiW m)) ∧ w'.cell? ⟨w.heap.size + 1, 1, none⟩ = some (.int .u64 (loW m))) (simp [go_sem])
    (first
    | (go_at_call 92; refine (least_any _).mono ?_; rintro e w1 ⟨rfl, J, d, rfl⟩))
  go_wp2_with (go_at_call 93; refine (neg_any m hm _).mono ?_; rintro e w1 ⟨rfl, J2, d2, rfl⟩)
  exact bodyPost_ret (v := WV (cl (-m))) (by simp [results, Try.results80, go_sem]) rfl ⟨rfl, Mor.out⟩

set_option maxRecDepth 20000 in
theorem endW_le (m : Int) (below : Bool) (h : 170141183460469231731687303715884105728 < m) : endW below = sgn m below := by
  unfold endW sgn cl minW maxW; cases below <;> simp <;> omega
set_option maxRecDepth 20000 in
theorem signed_any (m : Int) (below over : Bool) (w : World) (h1 : 0 ≤ m) (h2 : m < 340282366920938463463374607431768211456) :
    Calls Try.prog 80 #[.int .u64 (hiW m), .int .u64 (loW m), .bool below, .bool over] w fun e w' => e = .returned (WV (if over then endW below else sgn m below)) ∧ Mo w w' := by
  cases over
  · rw [if_neg (by simp)]
    have hd := hilo m
    have l1 := lo1 m
    have l2 := lo2 m
    by_cases c : 9223372036854775808 < hiW m
    · rw [← endW_le m below (by omega)]
      exact signed_great _ _ _ _ c
    · by_cases c2 : hiW m = 9223372036854775808
      · by_cases c3 : 0 < loW m
        · rw [← endW_le m below (by omega), c2]
          exact signed_mid _ _ _ c3
        · have c4 : loW m = 0 := by omega
          rw [c2, c4]
          have hm : m = 170141183460469231731687303715884105728 := by omega
          cases below
          · have e : sgn m false = endW false := by rw [hm]; decide
            rw [e]; exact signed_edge w
          · have e : sgn m true = minW := by rw [hm]; decide
            rw [e]; exact signed_least w
      · have hin : InW m := by unfold InW; omega
        have h0 : 0 ≤ hiW m := by unfold hiW; omega
        cases below
        · have e : sgn m false = m := by unfold sgn; simp [cl_in hin]
          rw [e]; exact signed_plus _ _ _ h0 (by omega)
        · exact signed_minus m w h0 (by omega) hin
  · rw [if_pos rfl]
    exact signed_over _ _ _ _
end Go.Proofs.Ythgkhllkhhnlpaa
/- What each function of package wide returns, in integers: Mul, Scale, Clip, Root. -/
namespace Go.Proofs.Ythgkhllkhhnlpaa
open Go.RowKit

set_option maxRecDepth 20000 in
set_option maxHeartbeats 400000 in
theorem one_any (n : Int) (h1 : -9223372036854775808 ≤ n) (h2 : n ≤ 9223372036854775807) (w : World) :
    Calls Try.prog 78 #[.int .i64 n] w fun e w' => e = .returned (.int .u64 (absI n)) ∧ w = w' := by
  by_cases h : n < 0
  · have e : IntKind.u64.wrap (-IntKind.u64.wrap n) = absI n := by
      have e : absI n = -n := if_pos h
      rw [e, IntKind.wrap_u64, IntKind.wrap_u64]; omega
    go_enter Try.func78, Try.ntmps78
    go_wp2
    go_ret
    exact ⟨rfl, rfl⟩
  · have e : absI n = n := if_neg h
    rw [e]
    clear e
    go_enter Try.func78, Try.ntmps78
    go_wp2
    go_ret
    exact ⟨rfl, rfl⟩
set_option maxRecDepth 20000 in
theorem mul_sgn (a b : Int) (h1 : -9223372036854775808 ≤ a) (h2 : a ≤ 9223372036854775807) (h3 : -9223372036854775808 ≤ b) (h4 : b ≤ 9223372036854775807) :
    sgn (absI a * absI b) (decide (a < 0) != decide (b < 0)) = a * b ∧ 0 ≤ absI a * absI b ∧ absI a * absI b ≤ 85070591730234615865843651857942052864 := by
  have key : ∀ x y : Int, 0 ≤ x → x ≤ 9223372036854775808 → 0 ≤ y → y ≤ 9223372036854775808 → 0 ≤ x * y ∧ x * y ≤ 85070591730234615865843651857942052864 := by
    intro x y a b c d
    exact ⟨Int.mul_nonneg a c, Int.le_trans (Int.mul_le_mul b d c (by decide)) (by decide)⟩
  by_cases ha : a < 0 <;> by_cases hb : b < 0
  · have e1 : absI a = -a := if_pos ha
    have e2 : absI b = -b := if_pos hb
    have k := key (-a) (-b) (by omega) (by omega) (by omega) (by omega)
    rw [e1, e2, Int.neg_mul_neg] at *
    refine ⟨?_, k⟩
    simp only [sgn, ha, hb]
    exact cl_in (by unfold InW; omega)
  · have e1 : absI a = -a := if_pos ha
    have e2 : absI b = b := if_neg hb
    have k := key (-a) b (by omega) (by omega) (by omega) (by omega)
    rw [e1, e2] at *
    refine ⟨?_, k⟩
    simp only [sgn, ha, hb, Int.neg_mul] at *
    simp only [decide_true, decide_false, Bool.true_bne, Bool.not_false, if_true, Int.neg_neg]
    exact cl_in (by unfold InW; omega)
  · have e1 : absI a = a := if_neg ha
    have e2 : absI b = -b := if_pos hb
    have k := key a (-b) (by omega) (by omega) (by omega) (by omega)
    rw [e1, e2] at *
    refine ⟨?_, k⟩
    simp only [sgn, ha, hb, Int.mul_neg] at *
    simp only [decide_true, decide_false, Bool.false_bne, if_true, Int.neg_neg]
    exact cl_in (by unfold InW; omega)
  · have e1 : absI a = a := if_neg ha
    have e2 : absI b = b := if_neg hb
    have k := key a b (by omega) (by omega) (by omega) (by omega)
    rw [e1, e2] at *
    refine ⟨?_, k⟩
    simp only [sgn, ha, hb]
    exact cl_in (by unfold InW; omega)
set_option maxRecDepth 20000 in
theorem absI_64 {n : Int} (h1 : -9223372036854775808 ≤ n) (h2 : n ≤ 9223372036854775807) : 0 ≤ absI n ∧ absI n < 18446744073709551616 := by
  unfold absI; split <;> omega
set_option maxRecDepth 20000 in
set_option maxHeartbeats 400000 in
theorem mul_any (a b : Int) (h1 : -9223372036854775808 ≤ a) (h2 : a ≤ 9223372036854775807) (h3 : -9223372036854775808 ≤ b) (h4 : b ≤ 9223372036854775807) (w : World) :
    Calls Try.prog 51 #[.int .i64 a, .int .i64 b] w fun e w' => e = .returned (WV (a * b)) ∧ Mo w w' := by
  obtain ⟨m1, m2, m3⟩ := mul_sgn a b h1 h2 h3 h4
  obtain ⟨a1, a2⟩ := absI_64 h1 h2
  obtain ⟨b1, b2⟩ := absI_64 h3 h4
  have e : (if false = true then endW (decide (a < 0) != decide (b < 0)) else sgn (absI a * absI b) (decide (a < 0) != decide (b < 0))) = a * b := by rw [if_neg (by simp), m1]
  have H := signed_any (absI a * absI b) (decide (a < 0) != decide (b < 0)) false
  rw [e] at H
  have HH := Lib.hid H
  clear m1 e H
  go_enter Try.func51, Try.ntmps51
  go_wp2_with fail
  refine (one_any a h1 h2 _).mono ?_; rintro e w1 ⟨rfl, rfl⟩
  go_wp2_with fail
  refine (one_any b h3 h4 _).mono ?_; rintro e w1 ⟨rfl, rfl⟩
  go_wp2_with fail
  refine (mul64_any _ _ a1 a2 b1 b2 _).mono ?_; rintro e w1 ⟨rfl, rfl⟩
  go_wp2_with fail
  refine (HH.out _ m2 (by omega)).mono ?_; rintro e w1 ⟨rfl, J, d, rfl⟩
  go_wp2_with fail
  exact bodyPost_ret (v := WV (a * b)) (by simp [results, Try.results51, go_sem]) rfl ⟨rfl, Mor.out⟩

/-! ### Clip -/
def clip (x : Int) : Int := if x < -9223372036854775808 then -9223372036854775808 else if 9223372036854775807 < x then 9223372036854775807 else x
set_option maxRecDepth 20000 in
theorem clip_in {a : Int} (h1 : -9223372036854775808 ≤ a) (h2 : a ≤ 9223372036854775807) : clip a = a := by
  unfold clip; rw [if_neg (by omega), if_neg (by omega)]
set_option maxRecDepth 20000 in
set_option maxHeartbeats 400000 in
theorem clip_any (a : Int) (ha : InW a) (w : World) :
    Calls Try.prog 53 #[WV a] w fun e w' => e = .returned (.int .i64 (clip a)) ∧ Mo w w' := by
  by_cases h : -9223372036854775808 ≤ a ∧ a ≤ 9223372036854775807
  · obtain ⟨h1, h2⟩ := h
    have e0 : wrap64 (loW a) = a := by unfold wrap64 loW; omega
    rw [clip_in h1 h2]
    go_enter Try.func53, Try.ntmps53
    go_wp2_with fail
    go_region_held3 (fun w' => w'.cell? ⟨w.heap.size, 0, none⟩ = some (.int .i64 (hiW a)) ∧ w'.cell? ⟨w.heap.size, 1, none⟩ = some (.int .u64 (loW a))) (simp [go_sem])
      (first
      | (go_at_call 48; refine (of_any a h1 h2 _).mono ?_; rintro e w1 ⟨rfl, J, d, rfl⟩))
    go_wp2_with fail
    go_ret
    exact ⟨rfl, Mor.out⟩
  · obtain ⟨n, hn⟩ : ∃ n, wrap64 (loW a) = n := ⟨_, rfl⟩
    have n1 : -9223372036854775808 ≤ n := by rw [← hn]; unfold wrap64; omega
    have n2 : n ≤ 9223372036854775807 := by rw [← hn]; unfold wrap64; omega
    have hne : (hiW a = hiW n) = False := by
      rw [← hn]
      have := ha.1; have := ha.2
      simp only [eq_iff_iff, iff_false]
      unfold hiW wrap64 loW
      omega
    by_cases c : hiW a < 0
    · have e : clip a = -9223372036854775808 := by unfold clip; unfold hiW at c; rw [if_pos (by omega)]
      rw [e]
      clear e
      go_enter Try.func53, Try.ntmps53
      go_wp2_with fail
      go_region_held3 (fun w' => w'.cell? ⟨w.heap.size, 0, none⟩ = some (.int .i64 (hiW a)) ∧ w'.cell? ⟨w.heap.size, 1, none⟩ = some (.int .u64 (loW a))) (simp [go_sem])
        (first
        | (go_at_call 48; refine (of_any n n1 n2 _).mono ?_; rintro e w1 ⟨rfl, J, d, rfl⟩))
      go_wp2_with fail
      go_ret
      exact ⟨rfl, Mor.out⟩
    · have e : clip a = 9223372036854775807 := by unfold clip; unfold hiW at c; rw [if_neg (by omega), if_pos (by omega)]
      rw [e]
      clear e
      go_enter Try.func53, Try.ntmps53
      go_wp2_with fail
      go_region_held3 (fun w' => w'.cell? ⟨w.heap.size, 0, none⟩ = some (.int .i64 (hiW a)) ∧ w'.cell? ⟨w.heap.size, 1, none⟩ = some (.int .u64 (loW a))) (simp [go_sem])
        (first
        | (go_at_call 48; refine (of_any n n1 n2 _).mono ?_; rintro e w1 ⟨rfl, J, d, rfl⟩))
      go_wp2_with fail
      go_ret
      exact ⟨rfl, Mor.out⟩

/-! ### Scale -/
set_option maxRecDepth 20000 in
theorem scale_law (m n : Int) (h1 : 0 ≤ m) (h2 : m ≤ 170141183460469231731687303715884105728) (h3 : 0 ≤ n) (h4 : n ≤ 4294967295) (below : Bool) :
    (if decide (0 < IntKind.u64.wrap (hiW (hiW m * n) + (loW (hiW m * n) + hiW (loW m * n)) / 18446744073709551616)) then endW below
      else sgn ((loW (hiW m * n) + hiW (loW m * n)) % 18446744073709551616 * 18446744073709551616 + loW (loW m * n)) below) = cl (if below then -(m * n) else m * n) := by
  have hm := hilo m
  have l1 := lo1 m
  have l2 := lo2 m
  have d1 := hilo (hiW m * n)
  have d2 := hilo (loW m * n)
  have p1 := lo1 (hiW m * n)
  have p2 := lo2 (hiW m * n)
  have p3 := lo1 (loW m * n)
  have p4 := lo2 (loW m * n)
  have hn0 : 0 ≤ hiW m := by omega
  have hn1 : hiW m ≤ 9223372036854775808 := by omega
  have q1 : 0 ≤ hiW m * n := Int.mul_nonneg hn0 h3
  have q2 : hiW m * n ≤ 9223372036854775808 * 4294967295 := Int.mul_le_mul hn1 h4 h3 (by omega)
  have q3 : 0 ≤ loW m * n := Int.mul_nonneg l1 h3
  have q4 : loW m * n ≤ 18446744073709551615 * 4294967295 := Int.mul_le_mul (by omega) h4 h3 (by omega)
  have e : m * n = hiW m * n * 18446744073709551616 + loW m * n := by rw [← hm]; rw [hm]; conv => lhs; rw [← hm]
                                                                      rw [Int.add_mul]; congr 1; rw [Int.mul_assoc, Int.mul_comm 18446744073709551616 n, ← Int.mul_assoc]
  generalize hiW m * n = A at *
  generalize loW m * n = B at *
  have w1 : IntKind.u64.wrap (hiW A + (loW A + hiW B) / 18446744073709551616) = hiW A + (loW A + hiW B) / 18446744073709551616 := by
    rw [IntKind.wrap_u64]; omega
  rw [w1]
  by_cases c : 0 < hiW A + (loW A + hiW B) / 18446744073709551616
  · rw [decide_eq_true c, if_pos rfl]
    exact endW_le (m * n) below (by omega)
  · rw [decide_eq_false c, if_neg (by simp)]
    show sgn _ below = sgn (m * n) below
    congr 1
    omega
end Go.Proofs.Ythgkhllkhhnlpaa
/- What each function of package wide returns, in integers: Scale, Root. -/
namespace Go.Proofs.Ythgkhllkhhnlpaa
open Go.RowKit

set_option maxRecDepth 20000 in
set_option maxHeartbeats 400000 in
theorem scale_any (a n : Int) (ha : InW a) (h3 : 0 ≤ n) (h4 : n ≤ 4294967295) (w : World) :
    Calls Try.prog 61 #[WV a, .int .u32 n] w fun e w' => e = .returned (WV (cl (a * n))) ∧ Mo w w' := by
  obtain ⟨m1, m2⟩ := absI_bd ha
  have L := scale_law (absI a) n m1 m2 h3 h4 (decide (hiW a < 0))
  have e : cl (if decide (hiW a < 0) = true then -(absI a * n) else absI a * n) = cl (a * n) := by
    by_cases c : hiW a < 0
    · have e : absI a = -a := if_pos (by unfold hiW at c; omega)
      simp only [c, decide_true, if_true, e, Int.neg_mul, Int.neg_neg]
    · have e : absI a = a := if_neg (by unfold hiW at c; omega)
      simp only [c, decide_false, e]; rfl
  rw [e] at L
  have H := fun w => signed_any ((loW (hiW (absI a) * n) + hiW (loW (absI a) * n)) % 18446744073709551616 * 18446744073709551616 + loW (loW (absI a) * n)) (decide (hiW a < 0)) (decide (0 < IntKind.u64.wrap (hiW (hiW (absI a) * n) + (loW (hiW (absI a) * n) + hiW (loW (absI a) * n)) / 18446744073709551616))) w
    (by have := lo1 (loW (absI a) * n); omega) (by have := lo2 (loW (absI a) * n); omega)
  rw [L, hi_mk _ _ (lo1 _) (lo2 _), lo_mk _ _ (lo1 _) (lo2 _)] at H
  have k1 : 0 ≤ hiW (absI a) := by unfold hiW; omega
  have k2 : hiW (absI a) < 18446744073709551616 := by unfold hiW; omega
  have k3 := lo1 (absI a)
  have k4 := lo2 (absI a)
  have k5 : 0 ≤ hiW (loW (absI a) * n) := by have := Int.mul_nonneg k3 h3; unfold hiW; omega
  have k6 := lo1 (hiW (absI a) * n)
  have n2 : n < 18446744073709551616 := by omega
  have HH := Lib.hid H
  clear H L e m1 m2
  go_enter Try.func61, Try.ntmps61
  go_wp2_with fail
  refine (size_any a ha _).mono ?_; rintro e w1 ⟨rfl, J, d, rfl⟩
  go_wp2_with fail
  refine (mul64_any _ _ k1 k2 h3 n2 _).mono ?_; rintro e w1 ⟨rfl, rfl⟩
  go_wp2_with fail
  refine (mul64_any _ _ k3 k4 h3 n2 _).mono ?_; rintro e w1 ⟨rfl, rfl⟩
  go_wp2_with (simp only [add64_0 _ _ k6 k5])
  refine (HH.out _).mono ?_; rintro e w1 ⟨rfl, J, d, rfl⟩
  go_wp2_with fail
  exact bodyPost_ret (v := WV (cl (a * n))) (by simp [results, Try.results61, go_sem]) rfl ⟨rfl, Mor.out⟩

/-! ### Root -/
/-- r is the root of a, cut off -/
def IsRoot (r a : Int) : Prop := 0 ≤ r ∧ r * r ≤ a ∧ a < (r + 1) * (r + 1)
set_option maxRecDepth 20000 in
theorem sq_mono {x y : Int} (h : 0 ≤ x) (h' : x ≤ y) : x * x ≤ y * y := Int.mul_le_mul h' h' h (by omega)
set_option maxRecDepth 20000 in
theorem sq_lt {x y : Int} (_ : 0 ≤ x) (h2 : 0 ≤ y) (h' : x * x < y * y) : x < y := by
  rcases Int.lt_or_le x y with c | c
  · exact c
  · have := sq_mono h2 c; omega
set_option maxRecDepth 20000 in
theorem root_uniq {r s a : Int} (h : IsRoot r a) (h' : IsRoot s a) : r = s := by
  obtain ⟨h1, h2, h3⟩ := h
  obtain ⟨g1, g2, g3⟩ := h'
  have := sq_lt h1 (by omega) (show r * r < (s + 1) * (s + 1) by omega)
  have := sq_lt g1 (by omega) (show s * s < (r + 1) * (r + 1) by omega)
  omega
/-- what the loop of Root holds: bt is the next bit, p what may still come -/
def RootRel (a bt rt : Int) : Prop :=
  ∃ p : Int, (bt = 0 ∧ p = 1 ∨ ∃ j : Nat, bt = 2 ^ j ∧ p = 2 ^ (j + 1)) ∧ rt % p = 0 ∧ 0 ≤ rt ∧ rt + p ≤ 18446744073709551616 ∧ rt * rt ≤ a ∧ a < (rt + p) * (rt + p)
set_option maxRecDepth 20000 in
theorem rootRel_start {a : Int} (ha : InW a) (h : 0 ≤ a) : RootRel a 9223372036854775808 0 :=
  ⟨18446744073709551616, .inr ⟨63, by decide, by decide⟩, by omega, by omega, by omega, by omega, by have := ha.2; omega⟩
set_option maxRecDepth 20000 in
theorem rootRel_or {a bt rt : Int} (h : RootRel a bt rt) (hb : bt ≠ 0) : bits .or .u64 rt bt = rt + bt ∧ 0 < bt ∧ 0 ≤ rt ∧ rt + bt < 18446744073709551616 := by
  obtain ⟨p, hp | ⟨j, hj, hp⟩, h1, h2, h3, _⟩ := h
  · exact absurd hp.1 hb
  · have hpos : (0 : Int) < 2 ^ j := Int.pow_pos (by decide)
    have h2p : (2 : Int) ^ (j + 1) = 2 ^ j * 2 := Int.pow_succ 2 j
    obtain ⟨r, rfl⟩ := Int.eq_ofNat_of_zero_le h2
    have hb' : bt = ((2 ^ j : Nat) : Int) := by rw [hj]; simp
    have hp' : p = ((2 ^ (j + 1) : Nat) : Int) := by rw [hp]; simp
    have hm : r % 2 ^ (j + 1) = 0 := by rw [hp'] at h1; exact_mod_cast h1
    refine ⟨?_, by omega, by omega, by omega⟩
    rw [hb', u64_or_nat _ _ (by omega) (by omega), nat_join (j + 1) _ _ hm (by rw [Nat.pow_succ]; have := Nat.pow_pos (n := j) (show 0 < 2 by decide); omega)]
    omega
set_option maxRecDepth 20000 in
theorem rootRel_next {a bt rt : Int} (h : RootRel a bt rt) (hb : bt ≠ 0) (rt' : Int) (hr : rt' = rt + bt ∧ (rt + bt) * (rt + bt) ≤ a ∨ rt' = rt ∧ a < (rt + bt) * (rt + bt)) : RootRel a (bt / 2) rt' ∧ bt / 2 < bt := by
  obtain ⟨p, hp | ⟨j, hj, hp⟩, h1, h2, h3, h4, h5⟩ := h
  · exact absurd hp.1 hb
  · have hpos : (0 : Int) < 2 ^ j := Int.pow_pos (by decide)
    have h2p : (2 : Int) ^ (j + 1) = 2 ^ j * 2 := Int.pow_succ 2 j
    have hd : rt % bt = 0 := by
      have hdv : (2 : Int) ^ j ∣ rt := Int.dvd_trans ⟨2, h2p⟩ (hp ▸ Int.dvd_of_emod_eq_zero h1)
      rw [hj]; exact Int.emod_eq_zero_of_dvd hdv
    refine ⟨⟨bt, ?_, ?_, by rcases hr with ⟨rfl, _⟩ | ⟨rfl, _⟩ <;> omega, ?_, ?_, ?_⟩, by omega⟩
    · cases j with
      | zero => left; simp at hj; omega
      | succ i =>
        right
        have h2i : (2 : Int) ^ (i + 1) = 2 ^ i * 2 := Int.pow_succ 2 i
        exact ⟨i, by rw [hj, h2i]; omega, hj⟩
    · rcases hr with ⟨rfl, _⟩ | ⟨rfl, _⟩
      · rw [Int.add_emod, hd]; simp
      · exact hd
    · rcases hr with ⟨rfl, _⟩ | ⟨rfl, _⟩ <;> omega
    · rcases hr with ⟨rfl, h⟩ | ⟨rfl, _⟩
      · exact h
      · exact h4
    · rcases hr with ⟨rfl, h⟩ | ⟨rfl, h⟩
      · have : rt + bt + bt = rt + p := by omega
        rw [this]; exact h5
      · exact h
set_option maxRecDepth 20000 in
theorem rootRel_end {a rt : Int} (h : RootRel a 0 rt) : IsRoot rt a := by
  obtain ⟨p, hp | ⟨j, hj, hp⟩, h1, h2, h3, h4, h5⟩ := h
  · rw [hp.2] at h5; exact ⟨h2, h4, h5⟩
  · have hpos : (0 : Int) < 2 ^ j := Int.pow_pos (by decide)
    omega
set_option maxRecDepth 20000 in
set_option maxHeartbeats 400000 in
theorem root_neg (a : Int) (h : hiW a < 0) (w : World) :
    Calls Try.prog 62 #[WV a] w fun e w' => e = .returned (.int .u64 0) ∧ Mo w w' := by
  go_enter Try.func62, Try.ntmps62
  go_wp2_with fail
  go_ret
  exact ⟨rfl, Mor.out⟩
def RootRet (a : Int) (w : World) (e : Ending) (w' : World) : Prop := ∃ r, e = .returned (.int .u64 r) ∧ IsRoot r a ∧ Mo w w'
set_option maxRecDepth 20000 in
set_option maxHeartbeats 1000000 in
theorem root_pos (a : Int) (ha : InW a) (h : 0 ≤ a) (w : World) :
    Calls Try.prog 62 #[WV a] w (RootRet a w) := by
  have hh : ¬ hiW a < 0 := by unfold hiW; omega
  have a1 : 0 ≤ hiW a := by omega
  have a2 := ha.h2
  go_enter Try.func62, Try.ntmps62
  go_wp2_with fail
  go_loop [3, 4] (fun r b => ∃ rt bt : Int, r = .int .u64 rt ∧ b = .int .u64 bt ∧ RootRel a bt rt) (fun _ b => (intOf b).toNat)
  case atStart => exact ⟨_, _, rfl, rfl, rootRel_start ha h⟩
  case round =>
    obtain ⟨rt, bt, rfl, rfl, hR⟩ := hrel
    by_cases hb : bt = 0
    · subst hb
      have hR' := Lib.hid (rootRel_end hR)
      clear hR
      go_wp2_with fail
      go_ret
      exact ⟨rt, rfl, hR'.out, Mor.out⟩
    · obtain ⟨o1, o2, o3, o4⟩ := rootRel_or hR hb
      have N := fun rt' => rootRel_next hR hb rt'
      have HN := Lib.hid N
      have s0 : 0 ≤ rt + bt := by omega
      have hd1 := hilo ((rt + bt) * (rt + bt))
      have hd2 := hilo a
      have l1 := lo1 ((rt + bt) * (rt + bt))
      have l2 := lo2 ((rt + bt) * (rt + bt))
      have l3 := lo1 a
      have l4 := lo2 a
      have HD1 := Lib.hid hd1
      have HD2 := Lib.hid hd2
      clear N hR hb hd1 hd2
      by_cases c1 : hiW ((rt + bt) * (rt + bt)) < hiW a
      · have hs : (rt + bt) * (rt + bt) ≤ a := by have := HD1.out; have := HD2.out; omega
        go_wp2_with (go_at_call 79; refine (mul64_any _ _ s0 o4 s0 o4 _).mono ?_; rintro e w1 ⟨rfl, rfl⟩)
        go_round
        case rel => exact ⟨rt + bt, bt / 2, rfl, rfl, (HN.out (rt + bt) (.inl ⟨rfl, hs⟩)).1⟩
        case measure => simp [intOf]; omega
      · by_cases c2 : hiW ((rt + bt) * (rt + bt)) = hiW a
        · by_cases c3 : loW ((rt + bt) * (rt + bt)) ≤ loW a
          · have hs : (rt + bt) * (rt + bt) ≤ a := by have := HD1.out; have := HD2.out; omega
            go_wp2_with (go_at_call 79; refine (mul64_any _ _ s0 o4 s0 o4 _).mono ?_; rintro e w1 ⟨rfl, rfl⟩)
            go_round
            case rel => exact ⟨rt + bt, bt / 2, rfl, rfl, (HN.out (rt + bt) (.inl ⟨rfl, hs⟩)).1⟩
            case measure => simp [intOf]; omega
          · have hs : a < (rt + bt) * (rt + bt) := by have := HD1.out; have := HD2.out; omega
            go_wp2_with (go_at_call 79; refine (mul64_any _ _ s0 o4 s0 o4 _).mono ?_; rintro e w1 ⟨rfl, rfl⟩)
            go_round
            case rel => exact ⟨rt, bt / 2, rfl, rfl, (HN.out rt (.inr ⟨rfl, hs⟩)).1⟩
            case measure => simp [intOf]; omega
        · have hs : a < (rt + bt) * (rt + bt) := by have := HD1.out; have := HD2.out; omega
          go_wp2_with (go_at_call 79; refine (mul64_any _ _ s0 o4 s0 o4 _).mono ?_; rintro e w1 ⟨rfl, rfl⟩)
          go_round
          case rel => exact ⟨rt, bt / 2, rfl, rfl, (HN.out rt (.inr ⟨rfl, hs⟩)).1⟩
          case measure => simp [intOf]; omega
end Go.Proofs.Ythgkhllkhhnlpaa
/- Regions that draw their order, whose operations read and whose calls make blocks alone: one walk of the text's order serves. -/
namespace Go.Proofs.Ythgkhllkhhnlpaa
open Go.RowKit

structure JD where
  J : Array Obj
  d : Nat
set_option maxRecDepth 20000 in
instance : Inhabited JD := ⟨⟨#[], 0⟩⟩
set_option maxRecDepth 20000 in
theorem wp_region_mo {P : Program} {id : Nat} {Q : Exit → Act → World → Prop} {a : Act} {w : World} {l : List Oper} (hm : P.follows .mixedOrders = true) (hB : Region.lexB .any l.toArray = true)
    (h : wpQuiet P l.toArray (fun w' => ∃ x : JD, w' = more w x.J x.d) (fun a' => ∀ w', (∃ x : JD, w' = more w x.J x.d) → Q .normal a' w') l a) : (Code.region id l.toArray true).wp P Q a w :=
  wp_region_quiet (C := fun w' => ∃ x : JD, w' = more w x.J x.d) hm hB ⟨⟨#[], w.drawn + 1⟩, by simp [more]⟩ (by simpa using h)
set_option maxRecDepth 20000 in
theorem wp_region_mo' {P : Program} {id : Nat} {Q : Exit → Act → World → Prop} {a : Act} {w : World} {J : Array Obj} {d : Nat} {l : List Oper} (hm : P.follows .mixedOrders = true) (hB : Region.lexB .any l.toArray = true)
    (h : wpQuiet P l.toArray (fun w' => ∃ x : JD, w' = more w x.J x.d) (fun a' => ∀ w', (∃ x : JD, w' = more w x.J x.d) → Q .normal a' w') l a) : (Code.region id l.toArray true).wp P Q a (more w J d) :=
  wp_region_quiet (C := fun w' => ∃ x : JD, w' = more w x.J x.d) hm hB ⟨⟨J, d + 1⟩, rfl⟩ (by simpa using h)
set_option maxRecDepth 20000 in
theorem quiet_mo {P : Program} {f : FuncId} {args : Array Value} {w : World} {J : Array Obj} {d : Nat} {v : Value}
    (h : Calls P f args (more w J d) fun e w' => e = .returned v ∧ Mo (more w J d) w') : Calls P f args (more w J d) fun e w'' => e = .returned v ∧ ∃ x : JD, w'' = more w x.J x.d :=
  h.mono fun _ _ ⟨he, J', d', hm⟩ => ⟨he, ⟨J ++ J', d'⟩, by rw [hm, more_more]⟩
set_option maxRecDepth 20000 in
theorem quiet_mo_same {P : Program} {f : FuncId} {args : Array Value} {w : World} {J : Array Obj} {d : Nat} {v : Value}
    (h : Calls P f args (more w J d) fun e w' => e = .returned v ∧ more w J d = w') : Calls P f args (more w J d) fun e w'' => e = .returned v ∧ ∃ x : JD, w'' = more w x.J x.d :=
  h.mono fun _ _ ⟨he, hm⟩ => ⟨he, ⟨J, d⟩, hm.symm⟩
set_option maxRecDepth 20000 in
theorem wp_name {P : Program} {c : Code} {Q : Exit → Act → World → Prop} {a : Act} {w : World} (h : ∀ W, W = w → c.wp P Q a W) : c.wp P Q a w := h w rfl
set_option maxRecDepth 20000 in
theorem LtW.of_cell {w : World} {b i : Nat} {v : Value} (h : w.cell? ⟨b, i, none⟩ = some v) : LtW b w := ⟨by
  unfold World.cell? at h
  rcases Nat.lt_or_ge b w.heap.size with c | c
  · exact c
  · simp [Array.getElem?_eq_none c] at h⟩
set_option maxRecDepth 20000 in
theorem Mo.trans {a b c : World} (h : Mo a b) (k : Mo b c) : Mo a c := by
  obtain ⟨J, d, rfl⟩ := h
  obtain ⟨J', d', rfl⟩ := k
  exact ⟨J ++ J', d', by rw [more_more]⟩
set_option maxRecDepth 20000 in
theorem Mo.refl (a : World) : Mo a a := (Mor.out (a := a) (w := a))
set_option maxRecDepth 20000 in
theorem Mo.cell {a b : World} (h : Mo a b) {n i : Nat} [LtW n a] : b.cell? ⟨n, i, none⟩ = a.cell? ⟨n, i, none⟩ := by
  obtain ⟨J, d, rfl⟩ := h
  exact more_cell' a J d n i
end Go.Proofs.Ythgkhllkhhnlpaa
/- wide.Root as a function of integers. -/
namespace Go.Proofs.Ythgkhllkhhnlpaa
open Go.RowKit

set_option maxRecDepth 20000 in
theorem root_ex (n : Nat) : ∃ r : Int, IsRoot r n := by
  induction n with
  | zero => exact ⟨0, by omega, by decide, by decide⟩
  | succ n ih =>
    obtain ⟨r, h0, h1, h2⟩ := ih
    by_cases c : (r + 1) * (r + 1) ≤ ((n + 1 : Nat) : Int)
    · refine ⟨r + 1, by omega, c, ?_⟩
      have : (r + 1 + 1) * (r + 1 + 1) = (r + 1) * (r + 1) + (2 * r + 3) := by
        simp only [Int.mul_add, Int.add_mul]; omega
      omega
    · exact ⟨r, h0, by omega, by omega⟩
noncomputable def rootV (a : Int) : Int := if 0 ≤ a then Classical.choose (root_ex a.toNat) else 0
set_option maxRecDepth 20000 in
theorem rootV_is {a : Int} (h : 0 ≤ a) : IsRoot (rootV a) a := by
  have := Classical.choose_spec (root_ex a.toNat)
  have e : rootV a = Classical.choose (root_ex a.toNat) := by unfold rootV; rw [if_pos h]
  rw [← e] at this
  rwa [show ((a.toNat : Nat) : Int) = a by omega] at this
set_option maxRecDepth 20000 in
theorem rootV_neg {a : Int} (h : a < 0) : rootV a = 0 := by unfold rootV; rw [if_neg (by omega)]
set_option maxRecDepth 20000 in
theorem rootV_nonneg (a : Int) : 0 ≤ rootV a := by
  by_cases h : 0 ≤ a
  · exact (rootV_is h).1
  · rw [rootV_neg (by omega)]; omega
set_option maxRecDepth 20000 in
theorem root_any (a : Int) (ha : InW a) (w : World) : Calls Try.prog 62 #[WV a] w fun e w' => e = .returned (.int .u64 (rootV a)) ∧ Mo w w' := by
  by_cases h : 0 ≤ a
  · refine (root_pos a ha h w).mono ?_
    rintro e w' ⟨r, he, hr, hm⟩
    rw [root_uniq (rootV_is h) hr]
    exact ⟨he, hm⟩
  · rw [rootV_neg (by omega)]
    exact root_neg a (by unfold hiW; omega) w
set_option maxRecDepth 20000 in
theorem rootV_lt {a : Int} (ha : InW a) : rootV a < 18446744073709551616 := by
  by_cases h : 0 ≤ a
  · have := rootV_is h
    have h2 := ha.2
    exact sq_lt this.1 (by omega) (by have := this.2.1; omega)
  · rw [rootV_neg (by omega)]; omega
set_option maxRecDepth 20000 in
theorem rootV_mono {a b : Int} (h : a ≤ b) : rootV a ≤ rootV b := by
  by_cases c : 0 ≤ a
  · have p := rootV_is c
    have q := rootV_is (show 0 ≤ b by omega)
    have := sq_lt p.1 (show 0 ≤ rootV b + 1 by have := q.1; omega) (by have := p.2.1; have := q.2.2; omega)
    omega
  · rw [rootV_neg (by omega)]; exact rootV_nonneg b
end Go.Proofs.Ythgkhllkhhnlpaa
/- Sums of numbers (acc), in integers; plain. -/
namespace Go.Proofs.Ythgkhllkhhnlpaa
open Go.RowKit

/-- how many, how many wild, the least, the greatest, the sum, that of the squares -/
structure St where
  c : Int
  w : Int
  lo : Int
  hi : Int
  s : Int
  q : Int
def st0 : St := ⟨0, 0, 0, 0, 0, 0⟩
def Tame (n : Int) : Prop := -140737488355328 ≤ n ∧ n ≤ 140737488355328
set_option maxRecDepth 20000 in
instance (n : Int) : Decidable (Tame n) := by unfold Tame; infer_instance
def single (n : Int) : St := ⟨1, 0, n, n, n, n * n⟩
def minI (x y : Int) : Int := if x < y then x else y
def maxI (x y : Int) : Int := if x < y then y else x
def joinS (a b : St) : St :=
  if a.c = 0 then ⟨b.c, b.w + a.w, b.lo, b.hi, b.s, b.q⟩
  else if b.c = 0 then ⟨a.c, a.w + b.w, a.lo, a.hi, a.s, a.q⟩
  else ⟨a.c + b.c, a.w + b.w, minI a.lo b.lo, maxI a.hi b.hi, a.s + b.s, a.q + b.q⟩
def addN (S : St) (n : Int) : St := if Tame n then joinS S (single n) else ⟨S.c, S.w + 1, S.lo, S.hi, S.s, S.q⟩
def sumL (l : List Int) : St := l.foldl addN st0

/-- what sums of at most m numbers keep to -/
structure Good (S : St) (m : Int) : Prop where
  c0 : 0 ≤ S.c
  w0 : 0 ≤ S.w
  cw : S.c + S.w = m
  z : S.c = 0 → S.lo = 0 ∧ S.hi = 0 ∧ S.s = 0 ∧ S.q = 0
  lo : -140737488355328 ≤ S.lo
  lh : S.lo ≤ S.hi
  hi : S.hi ≤ 140737488355328
  s1 : S.c * S.lo ≤ S.s
  s2 : S.s ≤ S.c * S.hi
  q0 : 0 ≤ S.q
  q1 : S.q ≤ S.c * 19807040628566084398385987584
  one : S.c = 1 → S.lo = S.hi ∧ S.s = S.lo ∧ S.q = S.lo * S.lo
  two : S.c = 2 → S.s = S.lo + S.hi ∧ S.q = S.lo * S.lo + S.hi * S.hi
  var : ∀ L H m : Int, L ≤ S.lo → S.hi ≤ H → L ≤ m → m ≤ H → 0 ≤ S.q - 2 * m * S.s + S.c * (m * m) ∧ S.q - 2 * m * S.s + S.c * (m * m) ≤ S.c * ((H - L) * (H - L))
set_option maxRecDepth 20000 in
theorem sq_bd {x B : Int} (h1 : -B ≤ x) (h2 : x ≤ B) : x * x ≤ B * B := by
  rcases Int.le_total 0 x with c | c
  · exact Int.mul_le_mul h2 h2 c (by omega)
  · rw [← Int.neg_mul_neg x x]; exact Int.mul_le_mul (by omega) (by omega) (by omega) (by omega)
set_option maxRecDepth 20000 in
theorem sq_nn (x : Int) : 0 ≤ x * x := by
  rcases Int.le_total 0 x with c | c
  · exact Int.mul_nonneg c c
  · rw [← Int.neg_mul_neg x x]; exact Int.mul_nonneg (by omega) (by omega)
set_option maxRecDepth 20000 in
theorem good0 : Good st0 0 := by
  refine ⟨by decide, by decide, by decide, fun _ => ⟨rfl, rfl, rfl, rfl⟩, by decide, by decide, by decide, by decide, by decide, by decide, by decide, fun h => (by cases h), fun h => (by cases h), fun L H m _ _ _ _ => ?_⟩
  show (0 : Int) ≤ 0 - 2 * m * 0 + 0 * (m * m) ∧ 0 - 2 * m * 0 + 0 * (m * m) ≤ 0 * ((H - L) * (H - L))
  simp
set_option maxRecDepth 20000 in
theorem Good.add {S : St} {m : Int} (h : Good S m) (n : Int) : Good (addN S n) (m + 1) := by
  unfold addN
  by_cases t : Tame n
  · rw [if_pos t]
    obtain ⟨t1, t2⟩ := t
    have nn := sq_bd t1 t2
    have n0 := sq_nn n
    unfold joinS single
    by_cases c : S.c = 0
    · rw [if_pos c]
      have := h.cw
      have := h.w0
      refine ⟨by simp, by simp; omega, by simp; omega, fun e => (by simp at e), t1, by simp, t2, by simp, by simp, n0, by simp; omega, fun _ => ⟨rfl, rfl, rfl⟩, fun e => (by simp at e), fun L H k h1 h2 h3 h4 => ?_⟩
      simp only at h1 h2 ⊢
      have e : n * n - 2 * k * n + 1 * (k * k) = (n - k) * (n - k) := by
        rw [Int.sub_mul, Int.mul_sub, Int.mul_sub, Int.mul_comm n k, Int.mul_assoc 2]; omega
      rw [e, Int.one_mul]
      exact ⟨sq_nn _, sq_bd (by omega) (by omega)⟩
    · rw [if_neg c, if_neg (by simp)]
      have c1 := h.c0
      have a1 := h.lo
      have a2 := h.lh
      have a3 := h.hi
      have b1 := h.s1
      have b2 := h.s2
      have b3 := h.q0
      have b4 := h.q1
      have lo' : minI S.lo n ≤ S.lo ∧ minI S.lo n ≤ n ∧ (minI S.lo n = S.lo ∨ minI S.lo n = n) := by unfold minI; split <;> omega
      have hi' : S.hi ≤ maxI S.hi n ∧ n ≤ maxI S.hi n ∧ (maxI S.hi n = S.hi ∨ maxI S.hi n = n) := by unfold maxI; split <;> omega
      have p1 : S.c * minI S.lo n ≤ S.c * S.lo := Int.mul_le_mul_of_nonneg_left lo'.1 c1
      have p2 : S.c * S.hi ≤ S.c * maxI S.hi n := Int.mul_le_mul_of_nonneg_left hi'.1 c1
      refine ⟨by simp; omega, by have := h.w0; simp; omega, by have := h.cw; simp; omega, fun e => (by simp at e; omega), ?_, ?_, ?_, ?_, ?_, ?_, ?_, fun e => (by simp at e; omega), fun e => ?_, fun L H k h1 h2 h3 h4 => ?_⟩
      · simp; omega
      · simp; omega
      · simp; omega
      · simp only [Int.add_mul, Int.one_mul]; omega
      · simp only [Int.add_mul, Int.one_mul]; omega
      · simp; omega
      · simp only [Int.add_mul, Int.one_mul]; omega
      · simp only at e ⊢
        obtain ⟨o1, o2, o3⟩ := h.one (by omega)
        rw [o2, o3, ← o1]
        unfold minI maxI
        by_cases d : S.lo < n
        · rw [if_pos d, if_pos d]; exact ⟨rfl, rfl⟩
        · rw [if_neg d, if_neg d]; exact ⟨by omega, by omega⟩
      · simp only at h1 h2 ⊢
        obtain ⟨v1, v2⟩ := h.var L H k (by omega) (by omega) h3 h4
        have e : (n - k) * (n - k) = n * n - 2 * (k * n) + k * k := by
          rw [Int.sub_mul, Int.mul_sub, Int.mul_sub, Int.mul_comm n k]; omega
        have f1 := sq_nn (n - k)
        have f2 : (n - k) * (n - k) ≤ (H - L) * (H - L) := sq_bd (by omega) (by omega)
        have g : 2 * k * (S.s + n) = 2 * k * S.s + 2 * (k * n) := by rw [Int.mul_add, Int.mul_assoc 2 k n]
        rw [g, Int.add_mul, Int.add_mul, Int.one_mul, Int.one_mul]
        omega
  · rw [if_neg t]
    exact ⟨h.c0, by have := h.w0; simp; omega, by have := h.cw; simp; omega, h.z, h.lo, h.lh, h.hi, h.s1, h.s2, h.q0, h.q1, h.one, h.two, h.var⟩
set_option maxRecDepth 20000 in
theorem good_fold (l : List Int) : ∀ (S : St) (m : Int), Good S m → Good (l.foldl addN S) (m + l.length) := by
  induction l with
  | nil => intro S m h; simpa using h
  | cons x xs ih =>
    intro S m h
    have := ih _ _ (h.add x)
    rw [show m + ((x :: xs).length : Int) = m + 1 + (xs.length : Int) by simp; omega]
    exact this
set_option maxRecDepth 20000 in
theorem good_sum (l : List Int) : Good (sumL l) l.length := by
  have := good_fold l st0 0 good0
  rwa [Int.zero_add] at this
end Go.Proofs.Ythgkhllkhhnlpaa
/- A region that draws its order, whose first n operations read or make blocks alone, and whose rest comes in one forced order (a store at the end): one walk serves. -/
namespace Go.Proofs.Ythgkhllkhhnlpaa
open Go.RowKit

section
variable {P : Program} {ops : Array Oper} {md : Region.Mode} {C : World → Prop}

def headQ (P : Program) (md : Region.Mode) (ops : Array Oper) (C : World → Prop) (n : Nat) (L : Array Bool → Act → Prop) : Nat → Array Bool → Act → Prop
  | 0, listed, a => L listed a
  | f + 1, listed, a => Region.ready md ops listed ≠ [] ∧ ∀ i ∈ Region.ready md ops listed, i < n ∧ qOp P ops C i (headQ P md ops C n L f (listed.setIfInBounds i true)) a

set_option maxRecDepth 20000 in
theorem any_of_headQ {n g : Nat} {L : Array Bool → Act → Prop} {Q' : Exit → Act → World → Prop} (hL : ∀ listed a w, C w → L listed a → wpAny P md ops Q' g listed a w) :
    ∀ (f : Nat) (listed : Array Bool) (a : Act) (w : World), C w → headQ P md ops C n L f listed a → wpAny P md ops Q' (f + g) listed a w
  | 0, _, _, _, hw, h => by rw [Nat.zero_add]; exact hL _ _ _ hw h
  | f + 1, listed, a, w, hw, h => by
    rw [show f + 1 + g = (f + g) + 1 by omega]
    exact ⟨fun h0 => absurd h0 h.1, fun i hi => wpOp_of_qOp hw (fun a' w' hw' h' => any_of_headQ hL f _ a' w' hw' h') (h.2 i hi).2⟩

set_option maxRecDepth 20000 in
theorem headQ_first {n i : Nat} {oi : Oper} {v : Value} {L : Array Bool → Act → Prop} (hi : ops[i]? = some oi) (hsel : ∀ (j : Nat) (o : Oper) cs b, ops[j]? = some o → o.op ≠ .select cs b)
    (hs : Region.sinkB md ops n = true) (hc : Region.chainB md ops n = true) (hn : n < ops.size) (hin : i < n)
    (hdone : ∀ listed a, L listed a → ∀ j ∈ Region.ready md ops listed, n ≤ j) :
    ∀ (f : Nat) (listed : Array Bool) (a : Act), HeadInv md ops n listed →
      (∀ j oj, ops[j]? = some oj → j ≠ i → listed.getD j true = false → (∀ e ∈ oj.after, Region.binds md e = true → e.on ≠ i) → oi.apart ops oj = true) →
      i ∈ Region.ready md ops listed → YieldsIn P ops C oi v a →
      headQ P md ops C n L f (listed.setIfInBounds i true) (a.put oi.dst v) → headQ P md ops C n L (f + 1) listed a := by
  intro f
  induction f with
  | zero =>
    intro listed a inv _ hr hy H
    have hun := (mem_ready.1 hr).1
    refine ⟨fun h => (by rw [h] at hr; cases hr), fun j hj => ?_⟩
    have hjn : j < n := by
      rcases Nat.lt_or_ge j n with h | h
      · exact h
      · exact absurd hj (tail_waits hs hc hn inv _ i rfl hin hun j h)
    refine ⟨hjn, ?_⟩
    by_cases hji : j = i
    · subst hji; exact hy.qOp hi H
    · have := hdone _ _ H j (ready_mono hj hji)
      omega
  | succ f ih =>
    intro listed a inv hfree hr hy H
    have hun := (mem_ready.1 hr).1
    refine ⟨fun h => (by rw [h] at hr; cases hr), fun j hj => ?_⟩
    have hjn : j < n := by
      rcases Nat.lt_or_ge j n with h | h
      · exact h
      · exact absurd hj (tail_waits hs hc hn inv _ i rfl hin hun j h)
    refine ⟨hjn, ?_⟩
    by_cases hji : j = i
    · subst hji; exact hy.qOp hi H
    · have h1 := (H.2 j (ready_mono hj hji)).2
      obtain ⟨hjun, oj, hoj, hall⟩ := mem_ready.1 hj
      have hnot : ∀ e ∈ oj.after, Region.binds md e = true → e.on ≠ i := fun e he hb heq => by
        have h1 := hall e he hb
        rw [heq, getD_both hun] at h1
        cases h1
      have h2 := qOp_put hoj (hfree j oj hoj hji hjun hnot) (fun cs b => hsel i oi cs b hi) (fun cs b => hsel j oj cs b hoj) hy h1
      have hfree' : ∀ k ok, ops[k]? = some ok → k ≠ i → (listed.setIfInBounds j true).getD k true = false →
          (∀ e ∈ ok.after, Region.binds md e = true → e.on ≠ i) → oi.apart ops ok = true := fun k ok hk hki hun hno => by
        refine hfree k ok hk hki ?_ hno
        by_cases hjk : j = k
        · subst hjk; exact hjun
        · rw [getD_set_ne true hjk] at hun; exact hun
      refine qOp_mono (fun a' h3 => ih (listed.setIfInBounds j true) a' (inv.set hj hjn) hfree' (ready_mono hr (Ne.symm hji)) h3.1 ?_) h2
      rw [Array.setIfInBounds_comm _ _ hji]
      exact h3.2

set_option maxRecDepth 20000 in
theorem headQ_lex {n g : Nat} {Lq : Act → Prop} (hsel : Region.noSelect ops = true) (hs : Region.sinkB md ops n = true) (hc : Region.chainB md ops n = true) (hn : n < ops.size) :
    ∀ (l : List Oper) (k : Nat) (listed : Array Bool) (a : Act), (∀ j, j < l.length → l[j]? = ops[k + j]?) → k + l.length = n → HeadInv md ops n listed →
    Region.lexHead md ops g l.length k listed = true → wpQuiet P ops C Lq l a →
    headQ P md ops C n (fun listed' a' => Region.seqB md ops g n listed' = true ∧ Lq a') l.length listed a
  | [], k, listed, a, _, hk, _, hB, h => by
    have : k = n := by simpa using hk
    subst this
    exact ⟨by simpa [Region.lexHead] using hB, h⟩
  | o :: l, k, listed, a, hl, hk, inv, hB, h => by
    have h0 : ops[k]? = some o := by simpa using (hl 0 (by simp)).symm
    simp only [List.length_cons, Region.lexHead, Bool.and_eq_true] at hB
    obtain ⟨⟨hr, hf⟩, hB'⟩ := hB
    have hkn : k < n := by simp only [List.length_cons] at hk; omega
    have hr' : k ∈ Region.ready md ops listed := by simpa using hr
    have hst : qOp P ops C k (wpQuiet P ops C Lq l) a := by unfold qOp; simp only [h0]; exact h
    obtain ⟨v, hy, hK⟩ := yieldsIn_of_qOp h0 hst
    exact headQ_first h0 (Region.noSelect_spec hsel) hs hc hn hkn (fun listed' a' hL => seqB_ready hL.1) l.length listed a inv (Region.free_spec h0 hf) hr' hy
      (headQ_lex hsel hs hc hn l (k + 1) _ _ (fun j hj => by have := hl (j + 1) (by simp; omega); simpa [Nat.add_assoc, Nat.add_comm 1 j] using this) (by simp only [List.length_cons] at hk; omega) (inv.set hr' hkn) hB' hK)

set_option maxRecDepth 20000 in
theorem wp_region_quiet_tail {id : Nat} {Q : Exit → Act → World → Prop} {a : Act} {w : World} {l : List Oper} (n : Nat) (hm : P.follows .mixedOrders = true) (hB : Region.lexTailB .any l.toArray n = true)
    (hC : C { w with drawn := w.drawn + 1 }) (h : wpQuiet P l.toArray C (fun a' => ∀ w', C w' → wpList P l.toArray Q (l.drop n) a' w') (l.take n) a) : (Code.region id l.toArray true).wp P Q a w := by
  simp only [Region.lexTailB, Bool.and_eq_true, decide_eq_true_eq] at hB
  obtain ⟨⟨⟨⟨hsel, hn⟩, hs⟩, hc⟩, hlex⟩ := hB
  have hn' : n < l.length := by simpa using hn
  have htl : (l.take n).length = n := by simp; omega
  have hdl : (l.drop n).length = l.toArray.size - n := by simp
  have inv0 : HeadInv .any l.toArray n (Array.replicate l.toArray.size false) :=
    ⟨by simp, fun j oj _ hl => (by rw [getD_replicate_false] at hl; cases hl), fun t _ ht => getD_in (by simpa using ht) (getD_replicate_false _ _)⟩
  have H := headQ_lex (md := .any) (g := l.toArray.size - n) hsel hs hc hn (l.take n) 0 _ a (fun j hj => by
    have hj' : j < n := by rw [htl] at hj; exact hj
    simp [hj']) (by simpa using htl) inv0 (by rw [htl]; exact hlex) h
  refine wp_region_any hm ?_
  have := any_of_headQ (Q' := Q) (g := l.toArray.size - n) (fun listed a' w' hw' hL => by
    have := wpAny_of_seq (md := .any) (Q' := Q) (l.drop n) n listed a' w' (fun j => by simp [List.getElem?_drop]) (by rw [hdl]; exact hL.1) (hL.2 w' hw')
    rwa [hdl] at this) _ _ _ _ hC H
  rw [htl, show n + (l.toArray.size - n) = l.toArray.size by omega] at this
  exact this
end
set_option maxRecDepth 20000 in
theorem wp_region_mo_tail {P : Program} {id : Nat} {Q : Exit → Act → World → Prop} {a : Act} {w : World} {l : List Oper} (n : Nat) (hm : P.follows .mixedOrders = true) (hB : Region.lexTailB .any l.toArray n = true)
    (h : wpQuiet P l.toArray (fun w' => ∃ x : JD, w' = more w x.J x.d) (fun a' => ∀ w', (∃ x : JD, w' = more w x.J x.d) → wpList P l.toArray Q (l.drop n) a' w') (l.take n) a) : (Code.region id l.toArray true).wp P Q a w :=
  wp_region_quiet_tail n hm hB ⟨⟨#[], w.drawn + 1⟩, by simp [more]⟩ h
set_option maxRecDepth 20000 in
theorem wp_region_mo_tail' {P : Program} {id : Nat} {Q : Exit → Act → World → Prop} {a : Act} {w : World} {J : Array Obj} {d : Nat} {l : List Oper} (n : Nat) (hm : P.follows .mixedOrders = true) (hB : Region.lexTailB .any l.toArray n = true)
    (h : wpQuiet P l.toArray (fun w' => ∃ x : JD, w' = more w x.J x.d) (fun a' => ∀ w', (∃ x : JD, w' = more w x.J x.d) → wpList P l.toArray Q (l.drop n) a' w') (l.take n) a) : (Code.region id l.toArray true).wp P Q a (more w J d) :=
  wp_region_quiet_tail n hm hB ⟨⟨J, d + 1⟩, rfl⟩ h
end Go.Proofs.Ythgkhllkhhnlpaa
