/- Bytes: s[:m]; a copy that is the call's own, of a nil slice too. -/
import Derived.Test.YtbndcopeaaifdaaByteB
namespace Go.Proofs.Ytbndcopeaaifdaa
open Go.RowKit

theorem ByteS.upto {W : World} {A : Option Addr} {cap : Nat} {bs : List Int} (h : ByteS W A cap bs) (m : Nat) (hm : m ≤ bs.length) :
    ∃ A', ByteS W A' cap (bs.take m) ∧ (∀ w : World, (Instr.slice 23 (.slice A bs.length cap) none (some (.int .i64 (m : Int))) none).run Try.prog w = .ok (.slice A' m cap) w) ∧ (∀ w : World, (Instr.sliceAt 23 (.slice A bs.length cap) none (some (.int .i64 (m : Int))) none).run Try.prog w = .ok (.slice A' m cap) w) := by
  have hle := h.le
  have hlim := h.lim
  have h1 : ∀ w : World, (Instr.slice 23 (.slice A bs.length cap) none (some (.int .i64 (m : Int))) none).run Try.prog w = .ok (sliced A 0 m cap 1) w := fun w => by
    rw [run_slice_h w 23 A bs.length cap Try.underlying23 .i64 m (by omega) (by omega), sizeB]
    rfl
  have h2 : ∀ w : World, (Instr.sliceAt 23 (.slice A bs.length cap) none (some (.int .i64 (m : Int))) none).run Try.prog w = .ok (sliced A 0 m cap 1) w := fun w => by
    rw [run_sliceAt_slice w 23 _ _ _ _ Try.underlying23]
    exact h1 w
  unfold sliced at h1 h2
  refine ⟨_, ⟨by rw [List.length_take]; omega, by rw [List.length_take]; omega, fun c hc => h.byte c (List.mem_of_mem_take hc), ?_, ?_⟩, h1, h2⟩
  · intro e
    by_cases c : cap = 0
    · exact c
    · rw [if_neg c] at e
      cases A with
      | none => exact h.nil rfl
      | some a => cases e
  · by_cases z : m = 0
    · exact .inl (by rw [z, List.take_zero])
    · obtain ⟨g, off, rfl, _, hc⟩ := h.get (by omega)
      rw [if_neg (show ¬ cap = 0 by omega)]
      refine .inr ⟨g, off, ?_, fun i hi => ?_⟩
      · show some ((⟨g, off, none⟩ : Addr).add (0 * 1)) = _
        rw [Go.WideShapes.add_plain, Nat.zero_mul, Nat.add_zero]
      · rw [List.length_take] at hi
        rw [List.getElem_take]
        exact (hc i (by omega)).1
theorem ByteS.take {W : World} {A : Option Addr} {cap : Nat} {bs : List Int} (h : ByteS W A cap bs) (m : Nat) : ByteS W A cap (bs.take m) := by
  have hle := h.le
  have hlim := h.lim
  refine ⟨by rw [List.length_take]; omega, by rw [List.length_take]; omega, fun c hc => h.byte c (List.mem_of_mem_take hc), h.nil, ?_⟩
  by_cases z : bs.length = 0
  · exact .inl (by rw [List.eq_nil_of_length_eq_zero z, List.take_nil])
  · obtain ⟨g, off, rfl, _, hc⟩ := h.get (by omega)
    refine .inr ⟨g, off, rfl, fun i hi => ?_⟩
    rw [List.length_take] at hi
    rw [List.getElem_take]
    exact (hc i (by omega)).1
set_option maxHeartbeats 1000000 in
theorem cloneO_any (A : Option Addr) (n cap : Nat) (bs : List Int) (W : World) (hn : bs.length = n) (h : ByteS W A cap bs) :
    Calls Try.prog 22 #[.slice A n cap] W fun e w' => ∃ v, e = .returned v ∧ w'.ownsRow W.heap.size 5 1 v n (byteL bs) ∧ Mo W w' := by
  cases A with
  | none =>
    have hle := h.le
    have hc := h.nil rfl
    subst hc
    obtain rfl : n = 0 := by omega
    have hbs : bs = [] := List.eq_nil_of_length_eq_zero hn
    subst hbs
    clear hn hle
    have he : ∀ w : World, (binOp .eql 23 (.slice none 0 0) (.slice none 0 0)).run Try.prog w = .ok (.bool true) w := fun _ => rfl
    go_enter Try.func22, Try.ntmps22
    go_wp2_with fail
    go_ret
    exact ⟨_, rfl, World.ownsRow_nil _ _ _ _, Mor.out⟩
  | some a => exact cloneB_own a n cap bs W hn h
end Go.Proofs.Ytbndcopeaaifdaa
