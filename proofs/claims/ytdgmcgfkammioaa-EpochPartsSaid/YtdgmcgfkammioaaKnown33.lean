/- horologelaw33.TruthKnown: the walk. -/
import Derived.Test.YtdgmcgfkammioaaFinds33
import Derived.Laws.MakeOwn
namespace Go.Proofs.Ytdgmcgfkammioaa
open Go.RowKit

set_option maxRecDepth 20000 in
theorem infoIv : (Try.prog.info? 97).map (fun i => (i.zero, i.size, i.bytes)) = some (some (.agg #[.int .i64 0, .int .i64 0]), 2, 16) := by kernel_rfl
def zIv (n : Nat) : Array Value := madeCells #[.int .i64 0, .int .i64 0] (n * 2)
set_option maxRecDepth 20000 in
theorem zIv_get (n k : Nat) (h : k < n * 2) : (zIv n)[k]? = some (.int .i64 0) := by
  unfold zIv madeCells
  rw [Array.getElem?_map, Array.getElem?_range]
  rw [if_pos h]
  have : k % 2 = 0 ∨ k % 2 = 1 := by omega
  rcases this with e | e <;> simp [e]
set_option maxRecDepth 20000 in
theorem make_iv (n : Nat) (hn : n ≤ 100000) (w : World) : (Instr.makeSlice 96 (.int .i64 (n : Int)) (.int .i64 (n : Int))).run Try.prog w = .ok (.slice (some ⟨w.heap.size, 0, none⟩) n n) (w.alloc (.cells (zIv n) 97)) := by
  obtain ⟨i0, hi, hz0, hz1, hz2⟩ := info_parts infoIv
  have := run_make (P := Try.prog) w 96 97 i0 _ Try.underlying96 hi hz0 .i64 .i64 (n : Int) (n : Int) (by omega) (Int.le_refl _) (by rw [hz2]; omega) (by omega)
  rw [hz1, Int.toNat_natCast] at this
  exact this
set_option maxRecDepth 20000 in
theorem zIv_row {w : World} {g : Nat} {t : TypeId} {n : Nat} (h : Blk w g t (zIv n)) : IvRow w (some ⟨g, 0, none⟩) (List.replicate n ⟨0, 0⟩) := by
  refine .inr ⟨g, 0, rfl, fun j hj => ?_⟩
  rw [List.length_replicate] at hj
  rw [blk_cell h, blk_cell h, Nat.zero_add, zIv_get n _ (by omega), zIv_get n _ (by omega), List.getElem_replicate]
  exact ⟨rfl, rfl⟩
set_option maxRecDepth 20000 in
theorem had_rep (n : Nat) : had (List.replicate n ⟨0, 0⟩) 0 = n := by
  unfold had
  rw [List.countP_replicate]
  simp
set_option maxRecDepth 20000 in
theorem may_rep (n : Nat) : MayL (List.replicate n ⟨0, 0⟩) := fun x hx => by rw [(List.mem_replicate.1 hx).2]; exact Int.le_refl _
set_option maxRecDepth 20000 in
theorem in_rep (n : Nat) : InIv (List.replicate n ⟨0, 0⟩) := fun x hx => by rw [(List.mem_replicate.1 hx).2]; exact ⟨by decide, by decide⟩
set_option maxRecDepth 20000 in
theorem find_rep (n : Nat) (hn : 0 < n) : IsFind (List.replicate n ⟨0, 0⟩) (some (⟨0, 0⟩, 0)) := by
  refine ⟨by rw [List.length_replicate]; omega, ?_, fun f h => by omega⟩
  rw [List.length_replicate, Nat.sub_zero]
  refine isAgr_of hn (by rw [had_rep]; exact Nat.le_refl _) (by rw [had_rep]; exact Nat.le_refl _) fun p hp => ?_
  obtain ⟨x, hx, h1, h2⟩ := had_pos (show 0 < had (List.replicate n ⟨0, 0⟩) p by omega)
  rw [(List.mem_replicate.1 hx).2] at h1 h2
  exact ⟨h1, h2⟩
set_option maxRecDepth 20000 in
theorem true_rep (n : Nat) : (trueL (List.replicate n ⟨0, 0⟩) ⟨0, 0⟩).length = n := by
  unfold trueL
  rw [trueL_count, List.countP_replicate]
  simp [meets]
set_option maxRecDepth 20000 in
theorem iv_lit1 {w : World} {g : Nat} {t : TypeId} {a b : Int} (h : Blk w g t #[.int .i64 a, .int .i64 b]) : IvRow w (some ⟨g, 0, none⟩) [⟨a, b⟩] := by
  refine .inr ⟨g, 0, rfl, fun j hj => ?_⟩
  have : j = 0 := by simp at hj; omega
  rcases this with rfl
  rw [blk_cell h, blk_cell h]; exact ⟨rfl, rfl⟩
set_option maxRecDepth 20000 in
theorem find_bad {l : List Iv} {W w' : World} {e : Ending} (hl : l.length ≤ 512) (hy : ¬ MayL l) (h : TFindRet l W e w') : Mo W w' ∧ e = .returned (.tuple #[.agg (fdC 0 0 0 (.slice none 0 0)), .int .i64 2]) := by
  refine ⟨h.1, ?_⟩
  rcases h.2 with h | h | h
  · omega
  · exact h.2.2
  · exact absurd h.2.1 hy
set_option maxRecDepth 20000 in
theorem find_long {l : List Iv} {W w' : World} {e : Ending} (hl : 512 < l.length) (h : TFindRet l W e w') : Mo W w' ∧ e = .returned (.tuple #[.agg (fdC 0 0 0 (.slice none 0 0)), .int .i64 3]) := by
  refine ⟨h.1, ?_⟩
  rcases h.2 with h | h | h
  · exact h.2
  · omega
  · omega
set_option maxRecDepth 20000 in
theorem agr_bad {l : List Iv} {f : Int} {W w' : World} {e : Ending} (hf : ¬ (0 ≤ f ∧ f < l.length)) (h : TAgrRet l f W e w') : Mo W w' ∧ e = .returned (.tuple #[.agg #[.int .i64 0, .int .i64 0], .bool false]) := by
  refine ⟨h.1, ?_⟩
  rcases h.2 with ⟨h1, h2, _⟩ | h
  · exact absurd ⟨h1, h2⟩ hf
  · exact h.2
set_option maxRecDepth 20000 in
theorem find_repl (n g c : Nat) (w : World) (hn : n ≤ 65536) (h : IvRow w (some ⟨g, 0, none⟩) (List.replicate n ⟨0, 0⟩)) : Calls Try.prog 40 #[.slice (some ⟨g, 0, none⟩) n c] w (TFindRet (List.replicate n ⟨0, 0⟩) w) := by
  have := find_any (List.replicate n ⟨0, 0⟩) _ c w h (by rw [List.length_replicate]; exact hn) (in_rep n)
  rwa [List.length_replicate] at this
set_option maxRecDepth 20000 in
theorem rep_long {n : Nat} {W w' : World} {e : Ending} (hn : 512 < n) (h : TFindRet (List.replicate n ⟨0, 0⟩) W e w') : Mo W w' ∧ e = .returned (.tuple #[.agg (fdC 0 0 0 (.slice none 0 0)), .int .i64 3]) :=
  find_long (by rw [List.length_replicate]; exact hn) h
set_option maxRecDepth 20000 in
theorem rep_ok {n : Nat} {W w' : World} {e : Ending} (h0 : 0 < n) (hn : n ≤ 512) (h : TFindRet (List.replicate n ⟨0, 0⟩) W e w') : Mo W w' ∧ ∃ A c, e = .returned (.tuple #[.agg (fdC 0 0 0 (.slice A n c)), .int .i64 0]) := by
  obtain ⟨M, v, h1, h2⟩ := find_ok (by rw [List.length_replicate]; exact hn) (may_rep n) (find_rep n h0) h
  rw [natL_eq] at h2
  obtain ⟨A, c, rfl, _⟩ := own_ints h2 (natI_length _)
  rw [true_rep] at h1
  exact ⟨M, A, c, h1⟩
attribute [local go_sem ↓] eqR_fold neR_fold eqT_fold
attribute [local go_sem] blk_cell' blk_frozen'
end Go.Proofs.Ytdgmcgfkammioaa
