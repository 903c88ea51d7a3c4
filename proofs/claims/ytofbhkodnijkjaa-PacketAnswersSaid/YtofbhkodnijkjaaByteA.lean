/- Bytes in memory, as slices: how they are read, what a part of them is. -/
import Derived.Test.YtofbhkodnijkjaaBlk
import Derived.BigRegion
namespace Go.Proofs.Ytofbhkodnijkjaa
open Go.RowKit

/-- bytes at a slice's address (of so much capacity) -/
structure ByteS (W : World) (A : Option Addr) (cap : Nat) (bs : List Int) : Prop where
  le : bs.length ≤ cap
  lim : bs.length ≤ 140737488355328
  byte : ∀ c ∈ bs, 0 ≤ c ∧ c ≤ 255
  nil : A = none → cap = 0
  at_ : bs = [] ∨ ∃ g off, A = some ⟨g, off, none⟩ ∧ ∀ i, (h : i < bs.length) → W.cell? ⟨g, off + i, none⟩ = some (.int .u8 bs[i])
set_option maxRecDepth 20000 in
theorem ByteS.mo {W w : World} {A : Option Addr} {cap : Nat} {bs : List Int} (h : ByteS W A cap bs) (k : Mo W w) : ByteS w A cap bs := by
  refine ⟨h.le, h.lim, h.byte, h.nil, ?_⟩
  rcases h.at_ with e | ⟨g, off, rfl, hc⟩
  · exact .inl e
  · refine .inr ⟨g, off, rfl, fun i hi => ?_⟩
    have : LtW g W := LtW.of_cell (hc i hi)
    rw [k.cell, hc i hi]
set_option maxRecDepth 20000 in
theorem ByteS.get {W : World} {A : Option Addr} {cap : Nat} {bs : List Int} (h : ByteS W A cap bs) (p : 0 < bs.length) : ∃ g off, A = some ⟨g, off, none⟩ ∧ LtW g W ∧ ∀ i, (h : i < bs.length) → W.cell? ⟨g, off + i, none⟩ = some (.int .u8 bs[i]) ∧ 0 ≤ bs[i] ∧ bs[i] ≤ 255 := by
  rcases h.at_ with e | ⟨g, off, rfl, hc⟩
  · rw [e] at p; simp at p
  · exact ⟨g, off, rfl, LtW.of_cell (hc 0 p), fun i hi => ⟨hc i hi, (h.byte _ (List.getElem_mem hi)).1, (h.byte _ (List.getElem_mem hi)).2⟩⟩
set_option maxRecDepth 20000 in
/-- a part: s[k:] -/
theorem sizeB (w : World) : (sizeOf (Try.prog.elem 31)).run Try.prog w = .ok 1 w := rfl
set_option maxRecDepth 20000 in
theorem ByteS.drop {W : World} {A : Option Addr} {cap : Nat} {bs : List Int} (h : ByteS W A cap bs) (k : Nat) (hk : k ≤ bs.length) :
    ∃ A', ByteS W A' (cap - k) (bs.drop k) ∧ (∀ w : World, (Instr.slice 31 (.slice A bs.length cap) (some (.int .i64 (k : Int))) none none).run Try.prog w = .ok (.slice A' (bs.length - k) (cap - k)) w) ∧ (∀ w : World, (Instr.sliceAt 31 (.slice A bs.length cap) (some (.int .i64 (k : Int))) none none).run Try.prog w = .ok (.slice A' (bs.length - k) (cap - k)) w) := by
  have h1 : ∀ w : World, (Instr.slice 31 (.slice A bs.length cap) (some (.int .i64 (k : Int))) none none).run Try.prog w = .ok (sliced A k bs.length cap 1) w := fun w => by
    rw [run_slice_l w 31 A bs.length cap Try.underlying31 .i64 k (by omega) (by omega), sizeB]
    rfl
  have h2 : ∀ w : World, (Instr.sliceAt 31 (.slice A bs.length cap) (some (.int .i64 (k : Int))) none none).run Try.prog w = .ok (sliced A k bs.length cap 1) w := fun w => by
    rw [run_sliceAt_slice w 31 _ _ _ _ Try.underlying31]
    exact h1 w
  have hle := h.le
  have hlim := h.lim
  unfold sliced at h1 h2
  refine ⟨_, ⟨by rw [List.length_drop]; omega, by rw [List.length_drop]; omega, fun c hc => h.byte c (List.mem_of_mem_drop hc), ?_, ?_⟩, h1, h2⟩
  · intro e
    by_cases c : cap = k
    · rw [c, Nat.sub_self]
    · rw [if_neg c] at e
      cases A with
      | none => have := h.nil rfl; omega
      | some a => cases e
  · by_cases z : bs.length = k
    · exact .inl (by rw [List.drop_eq_nil_iff]; omega)
    · obtain ⟨g, off, rfl, _, hc⟩ := h.get (by omega)
      rw [if_neg (show ¬ cap = k by omega)]
      refine .inr ⟨g, off + k, ?_, fun i hi => ?_⟩
      · show some ((⟨g, off, none⟩ : Addr).add (k * 1)) = _
        rw [Go.WideShapes.add_plain, Nat.mul_one]
      · rw [List.length_drop] at hi
        rw [List.getElem_drop, Nat.add_assoc]
        exact (hc (k + i) (by omega)).1
set_option maxRecDepth 20000 in
/-- a part: s[k:m] -/
theorem ByteS.part {W : World} {A : Option Addr} {cap : Nat} {bs : List Int} (h : ByteS W A cap bs) (k m : Nat) (hk : k ≤ m) (hm : m ≤ bs.length) :
    ∃ A', ByteS W A' (cap - k) ((bs.drop k).take (m - k)) ∧ (∀ w : World, (Instr.slice 31 (.slice A bs.length cap) (some (.int .i64 (k : Int))) (some (.int .i64 (m : Int))) none).run Try.prog w = .ok (.slice A' (m - k) (cap - k)) w) ∧ (∀ w : World, (Instr.sliceAt 31 (.slice A bs.length cap) (some (.int .i64 (k : Int))) (some (.int .i64 (m : Int))) none).run Try.prog w = .ok (.slice A' (m - k) (cap - k)) w) := by
  have hle := h.le
  have hlim := h.lim
  have h1 : ∀ w : World, (Instr.slice 31 (.slice A bs.length cap) (some (.int .i64 (k : Int))) (some (.int .i64 (m : Int))) none).run Try.prog w = .ok (sliced A k m cap 1) w := fun w => by
    rw [run_slice_lh w 31 A bs.length cap Try.underlying31 .i64 .i64 k m (by omega) (by omega) (by omega), sizeB]
    rfl
  have h2 : ∀ w : World, (Instr.sliceAt 31 (.slice A bs.length cap) (some (.int .i64 (k : Int))) (some (.int .i64 (m : Int))) none).run Try.prog w = .ok (sliced A k m cap 1) w := fun w => by
    rw [run_sliceAt_slice w 31 _ _ _ _ Try.underlying31]
    exact h1 w
  unfold sliced at h1 h2
  refine ⟨_, ⟨by rw [List.length_take, List.length_drop]; omega, by rw [List.length_take, List.length_drop]; omega, fun c hc => h.byte c (List.mem_of_mem_drop (List.mem_of_mem_take hc)), ?_, ?_⟩, h1, h2⟩
  · intro e
    by_cases c : cap = k
    · rw [c, Nat.sub_self]
    · rw [if_neg c] at e
      cases A with
      | none => have := h.nil rfl; omega
      | some a => cases e
  · by_cases z : m = k
    · exact .inl (by rw [z, Nat.sub_self, List.take_zero])
    · obtain ⟨g, off, rfl, _, hc⟩ := h.get (by omega)
      rw [if_neg (show ¬ cap = k by omega)]
      refine .inr ⟨g, off + k, ?_, fun i hi => ?_⟩
      · show some ((⟨g, off, none⟩ : Addr).add (k * 1)) = _
        rw [Go.WideShapes.add_plain, Nat.mul_one]
      · rw [List.length_take, List.length_drop] at hi
        rw [List.getElem_take, List.getElem_drop, Nat.add_assoc]
        exact (hc (k + i) (by omega)).1
set_option maxRecDepth 20000 in
theorem ByteS.at_part {W : World} {g off : Nat} {cap : Nat} {bs : List Int} (h : ByteS W (some ⟨g, off, none⟩) cap bs) (k m : Nat) (hk : k ≤ m) (hm : m ≤ bs.length) : ByteS W (some ⟨g, off + k, none⟩) (cap - k) ((bs.drop k).take (m - k)) := by
  have hle := h.le
  have hlim := h.lim
  refine ⟨by rw [List.length_take, List.length_drop]; omega, by rw [List.length_take, List.length_drop]; omega, fun c hc => h.byte c (List.mem_of_mem_drop (List.mem_of_mem_take hc)), fun e => (by cases e), ?_⟩
  by_cases z : bs.length = 0
  · exact .inl (by rw [List.length_eq_zero_iff.1 z]; simp)
  · obtain ⟨g', off', e, _, hc⟩ := h.get (by omega)
    obtain ⟨rfl, rfl⟩ : g = g' ∧ off = off' := by simpa using e
    refine .inr ⟨g, off + k, rfl, fun i hi => ?_⟩
    rw [List.length_take, List.length_drop] at hi
    rw [List.getElem_take, List.getElem_drop, Nat.add_assoc]
    exact (hc (k + i) (by omega)).1
set_option maxRecDepth 20000 in
theorem or_shift (a b : Int) (h1 : 0 ≤ a) (h2 : a ≤ 255) (h3 : 0 ≤ b) (h4 : b ≤ 255) : bits .or .i64 (a * 256) b = a * 256 + b := by
  obtain ⟨x, rfl⟩ : ∃ x : Nat, a = x := ⟨a.toNat, by omega⟩
  obtain ⟨y, rfl⟩ : ∃ y : Nat, b = y := ⟨b.toNat, by omega⟩
  have hx : x < 256 := by omega
  have hy : y < 256 := by omega
  show IntKind.i64.wrap ((BitVec.ofInt 64 ((x : Int) * 256) ||| BitVec.ofInt 64 (y : Int)).toNat : Int) = _
  rw [show ((x : Int) * 256) = ((x * 256 : Nat) : Int) by omega, BitVec.ofInt_natCast, BitVec.ofInt_natCast, BitVec.toNat_or, BitVec.toNat_ofNat, BitVec.toNat_ofNat, Nat.mod_eq_of_lt (by omega), Nat.mod_eq_of_lt (by omega), nat_join 8 (x * 256) y (by omega) (by omega), IntKind.wrap_i64]
  omega
set_option maxRecDepth 20000 in
theorem or_shift16 (a b : Int) (h1 : 0 ≤ a) (h2 : a ≤ 255) (h3 : 0 ≤ b) (h4 : b ≤ 255) : bits .or .u16 (a * 256) b = a * 256 + b := by
  rw [u16_or _ _ (by omega) (by omega) (by omega) (by omega), nat_join 8 _ _ (by omega) (by omega)]
  omega
end Go.Proofs.Ytofbhkodnijkjaa
