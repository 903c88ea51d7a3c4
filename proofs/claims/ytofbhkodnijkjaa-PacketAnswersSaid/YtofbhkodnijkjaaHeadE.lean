/- The reference's header: the bytes of a number. -/
import Derived.Test.YtofbhkodnijkjaaHeadD
namespace Go.Proofs.Ytofbhkodnijkjaa
open Go.RowKit

attribute [local go_sem] blk_cell' blk_frozen'
set_option maxRecDepth 20000 in
theorem set_mid (l t : List Value) (a b : Value) : (l ++ a :: t).set l.length b = l ++ b :: t := by
  induction l with
  | nil => rfl
  | cons x xs ih => simp [ih]
set_option maxRecDepth 20000 in
theorem byte_set (k : Nat) (t : List Int) (c : Int) : (byteL (zeros (k + 1) ++ t)).toArray.setIfInBounds k (.int .u8 c) = (byteL (zeros k ++ c :: t)).toArray := by
  rw [List.setIfInBounds_toArray]
  congr 1
  have e : byteL (zeros (k + 1) ++ t) = byteL (zeros k) ++ .int .u8 0 :: byteL t := by
    unfold byteL zeros
    rw [List.replicate_succ']
    simp
  have h : (byteL (zeros k)).length = k := by simp
  have := set_mid (byteL (zeros k)) (byteL t) (.int .u8 0) (.int .u8 c)
  rw [h] at this
  rw [e, this]
  simp
set_option maxRecDepth 20000 in
theorem byte_get (k : Nat) (t : List Int) : (byteL (zeros (k + 1) ++ t)).toArray[k]? = some (.int .u8 0) := by
  simp [List.getElem?_append]
set_option maxRecDepth 20000 in
theorem make_byteN (n : Nat) (hn : n ≤ 100000) (w : World) : (Instr.makeSlice 31 (.int .i64 (n : Int)) (.int .i64 (n : Int))).run Try.prog w = .ok (.slice (some ⟨w.heap.size, 0, none⟩) n n) (w.alloc (.cells (byteL (zeros n)).toArray 5)) := by
  obtain ⟨i0, hi, hz0, hz1, hz2⟩ := info_parts infoB
  have := run_make w 31 5 i0 _ Try.underlying31 hi hz0 .i64 .i64 (n : Int) (n : Int) (by omega) (Int.le_refl _) (by rw [hz2]; omega) (by omega)
  rw [hz1, show ((n : Int)).toNat = n by omega] at this
  rw [this, show madeCells (Value.int .u8 0).cells (n * 1) = (byteL (zeros n)).toArray from Array.toList_inj.1 (by
    rw [Nat.mul_one]
    show (madeCells #[Value.int .u8 0] n).toList = _
    rw [toList_madeCells_one]
    simp)]
set_option maxRecDepth 20000 in
set_option maxHeartbeats 2000000 in
theorem number_any (x : Int) (many : Nat) (W : World) (hx : 0 ≤ x ∧ x ≤ 18446744073709551615) (hm : many ≤ 8) :
    Calls Try.prog 44 #[.int .u64 x, .int .i64 (many : Int)] W fun e w' => e = .returned (.slice (some ⟨W.heap.size, 0, none⟩) many many) ∧ Blk w' W.heap.size 5 (byteL (be many x)).toArray ∧ Mo W w' := by
  have mk := make_byteN many (by omega)
  obtain ⟨hx1, hx2⟩ := hx
  go_enter Try.func44, Try.ntmps44
  go_wp2_with fail
  go_loopw [0, 6] (fun y i wr => ∃ j m : Nat, j + m = many ∧ i = .int .i64 ((j : Int) - 1) ∧ y = .int .u64 (x / 256 ^ m) ∧ Blk wr W.heap.size 5 (byteL (zeros j ++ be m x)).toArray ∧ Mo W wr) (fun _ i _ => (intOf i + 1).toNat)
  case atStart => exact ⟨many, 0, by omega, by go_num, by simp, by rw [show (byteL (zeros many ++ be 0 x)).toArray = Array.replicate many (Value.int .u8 0) by simp [be]]; infer_instance, Mor.out⟩
  case round =>
    obtain ⟨j, m, hjm, rfl, rfl, hB, hM⟩ := hrel
    cases j with
    | zero =>
      obtain rfl : m = many := by omega
      have HB := Lib.hid hB
      clear hB mk
      go_wp2_with fail
      go_ret
      refine ⟨rfl, ?_, hM⟩
      have := HB.out
      rwa [show zeros 0 ++ be m x = be m x from rfl] at this
    | succ k =>
      have ek : (((k + 1 : Nat) : Int) - 1) = k := by omega
      rw [ek]
      clear ek
      have y0 : wr.cell? ⟨W.heap.size, k, none⟩ = some (.int .u8 0) := by rw [blk_cell hB, byte_get]
      have z0 := blk_frozen hB k
      have hb := blk_setCell hB k (.int .u8 (x / 256 ^ m % 256))
      rw [byte_set] at hb
      have HB := Lib.hid hb
      have hMs := mo_setCell hM (g := W.heap.size) (Nat.le_refl _) k (.int .u8 (x / 256 ^ m % 256))
      have HMs := Lib.hid hMs
      have i0 : (0 : Int) ≤ k := by omega
      have i1 : (k : Int) < many := by omega
      have hq0 : 0 ≤ x / 256 ^ m := Int.ediv_nonneg hx1 (Int.le_of_lt (Int.pow_pos (by omega)))
      have hq1 : x / 256 ^ m ≤ 18446744073709551615 := Int.le_trans (Int.ediv_le_self _ hx1) hx2
      have SQ := Lib.hid (show x / 256 ^ m / 256 = x / 256 ^ (m + 1) by rw [Int.pow_succ, Int.ediv_ediv_of_nonneg (Int.le_of_lt (Int.pow_pos (by omega)))])
      have BE := Lib.hid (show be (m + 1) x = x / 256 ^ m % 256 :: be m x from rfl)
      clear hB hb hMs mk
      generalize x / 256 ^ m = q at *
      go_wp2_with fail
      go_roundw
      case rel => exact ⟨k, m + 1, by omega, rfl, by rw [← SQ.out], by rw [BE.out]; exact HB.out, HMs.out⟩
      case measure => simp [intOf]
end Go.Proofs.Ytofbhkodnijkjaa
