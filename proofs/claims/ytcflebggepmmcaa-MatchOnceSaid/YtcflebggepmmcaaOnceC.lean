/- parts of slices of datagrams; match.Copy. -/
import Derived.Test.YtcflebggepmmcaaMatR
import Derived.Test.YtcflebggepmmcaaMatQ
namespace Go.Proofs.Ytcflebggepmmcaa
open Go.RowKit

set_option maxRecDepth 20000 in
theorem storeF_mt (v x : Value) : Instr.storeAt 86 v x = storeF 86 v x := rfl
set_option maxRecDepth 20000 in
theorem sizeDg (w : World) : (sizeOf (Try.prog.elem 22)).run Try.prog w = .ok 39 w := rfl
set_option maxRecDepth 20000 in
/-- the shared core: from a on, b in all -/
theorem DgsS.core {W : World} {A : Option Addr} {cap : Nat} {l : List Dg} (h : DgsS W A cap l) (a b : Nat) (ha : a ≤ b) (hb : b ≤ l.length) : DgsS W (if cap = a then A else A.map (·.add (a * 39))) (cap - a) ((l.drop a).take (b - a)) := by
  have hle := h.le
  have hlim := h.lim
  refine ⟨by rw [List.length_take, List.length_drop]; omega, by rw [List.length_take, List.length_drop]; omega, fun d hd => h.ok d (List.mem_of_mem_drop (List.mem_of_mem_take hd)), ?_, ?_⟩
  · intro e
    by_cases c : cap = a
    · rw [c, Nat.sub_self]
    · rw [if_neg c] at e
      cases A with
      | none => have := h.nil rfl; omega
      | some x => cases e
  · by_cases z : b = a
    · exact .inl (by rw [z, Nat.sub_self, List.take_zero])
    · rcases h.at_ with e | ⟨g, off, rfl, hc⟩
      · rw [e] at hb; simp at hb; omega
      · rw [if_neg (show ¬ cap = a by omega)]
        refine .inr ⟨g, off + a * 39, ?_, fun i hi => ?_⟩
        · show some ((⟨g, off, none⟩ : Addr).add (a * 39)) = _
          rw [Go.WideShapes.add_plain]
        · rw [List.length_take, List.length_drop] at hi
          obtain ⟨B, bc, h1, h2⟩ := hc (a + i) (by omega)
          simp only [List.getElem_take, List.getElem_drop]
          refine ⟨B, bc, h1, fun j v hv => ?_⟩
          rw [show off + a * 39 + i * 39 + j = off + (a + i) * 39 + j by omega]
          exact h2 j v hv
set_option maxRecDepth 20000 in
/-- l[:b] -/
theorem DgsS.low {W : World} {A : Option Addr} {cap : Nat} {l : List Dg} (h : DgsS W A cap l) (b : Nat) (hb : b ≤ l.length) :
    ∃ A', DgsS W A' cap (l.take b) ∧ (∀ w : World, (Instr.slice 22 (.slice A l.length cap) none (some (.int .i64 (b : Int))) none).run Try.prog w = .ok (.slice A' b cap) w) ∧ ∀ w : World, (Instr.sliceAt 22 (.slice A l.length cap) none (some (.int .i64 (b : Int))) none).run Try.prog w = .ok (.slice A' b cap) w := by
  have hle := h.le
  have h1 : ∀ w : World, (Instr.slice 22 (.slice A l.length cap) none (some (.int .i64 (b : Int))) none).run Try.prog w = .ok (sliced A 0 b cap 39) w := fun w => by
    rw [run_slice_h w 22 A l.length cap Try.underlying22 .i64 b (by omega) (by omega), sizeDg]
    rfl
  have h2 : ∀ w : World, (Instr.sliceAt 22 (.slice A l.length cap) none (some (.int .i64 (b : Int))) none).run Try.prog w = .ok (sliced A 0 b cap 39) w := fun w => by
    rw [run_sliceAt_slice w 22 _ _ _ _ Try.underlying22]
    exact h1 w
  have hc := h.core 0 b (by omega) hb
  rw [List.drop_zero, Nat.sub_zero, Nat.sub_zero] at hc
  unfold sliced at h1 h2
  rw [Nat.sub_zero, Nat.sub_zero] at h1 h2
  exact ⟨_, hc, h1, h2⟩
set_option maxRecDepth 20000 in
/-- l[a:] -/
theorem DgsS.high {W : World} {A : Option Addr} {cap : Nat} {l : List Dg} (h : DgsS W A cap l) (a : Nat) (ha : a ≤ l.length) :
    ∃ A', DgsS W A' (cap - a) (l.drop a) ∧ (∀ w : World, (Instr.slice 22 (.slice A l.length cap) (some (.int .i64 (a : Int))) none none).run Try.prog w = .ok (.slice A' (l.length - a) (cap - a)) w) ∧ ∀ w : World, (Instr.sliceAt 22 (.slice A l.length cap) (some (.int .i64 (a : Int))) none none).run Try.prog w = .ok (.slice A' (l.length - a) (cap - a)) w := by
  have hle := h.le
  have h1 : ∀ w : World, (Instr.slice 22 (.slice A l.length cap) (some (.int .i64 (a : Int))) none none).run Try.prog w = .ok (sliced A a l.length cap 39) w := fun w => by
    rw [run_slice_l w 22 A l.length cap Try.underlying22 .i64 a (by omega) (by omega), sizeDg]
    rfl
  have h2 : ∀ w : World, (Instr.sliceAt 22 (.slice A l.length cap) (some (.int .i64 (a : Int))) none none).run Try.prog w = .ok (sliced A a l.length cap 39) w := fun w => by
    rw [run_sliceAt_slice w 22 _ _ _ _ Try.underlying22]
    exact h1 w
  have hc := h.core a l.length ha (Nat.le_refl _)
  rw [List.take_of_length_le (by rw [List.length_drop]; exact Nat.le_refl _)] at hc
  unfold sliced at h1 h2
  exact ⟨_, hc, h1, h2⟩
attribute [local go_sem] blk_cell' blk_frozen'
attribute [local go_sem ↓] loadF_mt storeF_mt
attribute [local go_sem] run_loadF0 run_storeF0
set_option maxRecDepth 20000 in
set_option maxHeartbeats 2000000 in
theorem mcopy_any (M T B : Nat) (room win : Int) (c : Nat → Int) (E : List En) (P : Nat → Prop) (W : World) (h : MatV W M T B room win c E P) (hE : E.length ≤ 65536) (r1 : 1 ≤ room) (r2 : room ≤ 65536) :
    Calls Try.prog 22 #[ptr M] W fun e w' => ∃ M' T' B', e = .returned (ptr M') ∧ MatV w' M' T' B' room win c E (fun i => W.heap.size ≤ i ∧ i ≠ M') ∧ W.heap.size ≤ M' ∧ Mo W w' := by
  have CP := Lib.hid (fun w (m : Mo W w) => copy_e T B room E P w (h.t.mo m) hE r1 r2)
  have hm := h.m
  clear h
  go_enter Try.func22, Try.ntmps22
  go_wp2_with fail
  refine (CP.out _ Mor.out).mono ?_
  rintro e w2 ⟨T', B', rfl, TE, M2⟩
  have b2 : Blk w2 W.heap.size 86 (mtC T win c) := M2.blk inferInstance
  have N2 : Mo W w2 := Mo.trans Mor.out M2
  have b3 : Blk (w2.setCell ⟨W.heap.size, 0, none⟩ (ptr T')) W.heap.size 86 (mtC T' win c) := blk_setCell b2 0 (ptr T')
  have TE' : TabE (w2.setCell ⟨W.heap.size, 0, none⟩ (ptr T')) T' B' room E (fun i => W.heap.size ≤ i ∧ i ≠ W.heap.size) := by
    have q : TabE w2 T' B' room E (fun i => W.heap.size ≤ i ∧ i ≠ W.heap.size) := TE.weak fun i _ h => by
      have h' : W.heap.size + 1 ≤ i := by simpa using h
      omega
    exact q.keep fun i _ hp => heap_setCell_other w2 ⟨W.heap.size, 0, none⟩ i (ptr T') (fun e => hp.2 e)
  clear TE
  go_wp2_with fail
  go_ret
  exact ⟨W.heap.size, T', B', rfl, ⟨b3, TE', fun q => q.2 rfl⟩, Nat.le_refl _, mo_setCell N2 (Nat.le_refl _) _ _⟩
end Go.Proofs.Ytcflebggepmmcaa
