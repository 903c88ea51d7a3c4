/- horologelaw33.TruthKnown: the walk. -/
import Derived.Test.YtdppkbnjedehbaaFinds33
import Derived.Laws.MakeOwn
namespace Go.Proofs.Ytdppkbnjedehbaa
open Go.RowKit

set_option maxRecDepth 20000 in
theorem infoIv : (Try.prog.info? 27).map (fun i => (i.zero, i.size, i.bytes)) = some (some (.agg #[.int .i64 0, .int .i64 0]), 2, 16) := by kernel_rfl
def zIv (n : Nat) : Array Value := madeCells #[.int .i64 0, .int .i64 0] (n * 2)
set_option maxRecDepth 20000 in
theorem zIv_get (n k : Nat) (h : k < n * 2) : (zIv n)[k]? = some (.int .i64 0) := by
  unfold zIv madeCells
  rw [Array.getElem?_map, Array.getElem?_range]
  rw [if_pos h]
  have : k % 2 = 0 ∨ k % 2 = 1 := by omega
  rcases this with e | e <;> simp [e]
set_option maxRecDepth 20000 in
theorem make_iv (n : Nat) (hn : n ≤ 100000) (w : World) : (Instr.makeSlice 22 (.int .i64 (n : Int)) (.int .i64 (n : Int))).run Try.prog w = .ok (.slice (some ⟨w.heap.size, 0, none⟩) n n) (w.alloc (.cells (zIv n) 27)) := by
  obtain ⟨i0, hi, hz0, hz1, hz2⟩ := info_parts infoIv
  have := run_make (P := Try.prog) w 22 27 i0 _ Try.underlying22 hi hz0 .i64 .i64 (n : Int) (n : Int) (by omega) (Int.le_refl _) (by rw [hz2]; omega) (by omega)
  rw [hz1, Int.toNat_natCast] at this
  exact this
set_option maxRecDepth 20000 in
theorem zIv_row {w : World} {g : Nat} {t : TypeId} {n : Nat} (h : Blk w g t (zIv n)) : IvRow w (some ⟨g, 0, none⟩) (List.replicate n ⟨0, 0⟩) := by
  refine .inr ⟨g, 0, rfl, fun j hj => ?_⟩
  rw [List.length_replicate] at hj
  rw [blk_cell h, blk_cell h, Nat.zero_add, zIv_get n _ (by omega), zIv_get n _ (by omega), List.getElem_replicate]
  exact ⟨rfl, rfl⟩
set_option maxRecDepth 20000 in
theorem had_rep (n : Nat) : had (List.replicate n ⟨0, 0⟩) 0 = n := by
  unfold had
  rw [List.countP_replicate]
  simp
set_option maxRecDepth 20000 in
theorem may_rep (n : Nat) : MayL (List.replicate n ⟨0, 0⟩) := fun x hx => by rw [(List.mem_replicate.1 hx).2]; exact Int.le_refl _
set_option maxRecDepth 20000 in
theorem in_rep (n : Nat) : InIv (List.replicate n ⟨0, 0⟩) := fun x hx => by rw [(List.mem_replicate.1 hx).2]; exact ⟨by decide, by decide⟩
set_option maxRecDepth 20000 in
theorem find_rep (n : Nat) (hn : 0 < n) : IsFind (List.replicate n ⟨0, 0⟩) (some (⟨0, 0⟩, 0)) := by
  refine ⟨by rw [List.length_replicate]; omega, ?_, fun f h => by omega⟩
  rw [List.length_replicate, Nat.sub_zero]
  refine isAgr_of hn (by rw [had_rep]; exact Nat.le_refl _) (by rw [had_rep]; exact Nat.le_refl _) fun p hp => ?_
  obtain ⟨x, hx, h1, h2⟩ := had_pos (show 0 < had (List.replicate n ⟨0, 0⟩) p by omega)
  rw [(List.mem_replicate.1 hx).2] at h1 h2
  exact ⟨h1, h2⟩
set_option maxRecDepth 20000 in
theorem true_rep (n : Nat) : (trueL (List.replicate n ⟨0, 0⟩) ⟨0, 0⟩).length = n := by
  unfold trueL
  rw [trueL_count, List.countP_replicate]
  simp [meets]
set_option maxRecDepth 20000 in
theorem iv_lit1 {w : World} {g : Nat} {t : TypeId} {a b : Int} (h : Blk w g t #[.int .i64 a, .int .i64 b]) : IvRow w (some ⟨g, 0, none⟩) [⟨a, b⟩] := by
  refine .inr ⟨g, 0, rfl, fun j hj => ?_⟩
  have : j = 0 := by simp at hj; omega
  rcases this with rfl
  rw [blk_cell h, blk_cell h]; exact ⟨rfl, rfl⟩
set_option maxRecDepth 20000 in
theorem find_bad {l : List Iv} {W w' : World} {e : Ending} (hl : l.length ≤ 512) (hy : ¬ MayL l) (h : TFindRet l W e w') : Mo W w' ∧ e = .returned (.tuple #[.agg (fdC 0 0 0 (.slice none 0 0)), .int .i64 2]) := by
  refine ⟨h.1, ?_⟩
  rcases h.2 with h | h | h
  · omega
  · exact h.2.2
  · exact absurd h.2.1 hy
set_option maxRecDepth 20000 in
theorem find_long {l : List Iv} {W w' : World} {e : Ending} (hl : 512 < l.length) (h : TFindRet l W e w') : Mo W w' ∧ e = .returned (.tuple #[.agg (fdC 0 0 0 (.slice none 0 0)), .int .i64 3]) := by
  refine ⟨h.1, ?_⟩
  rcases h.2 with h | h | h
  · exact h.2
  · omega
  · omega
set_option maxRecDepth 20000 in
theorem agr_bad {l : List Iv} {f : Int} {W w' : World} {e : Ending} (hf : ¬ (0 ≤ f ∧ f < l.length)) (h : TAgrRet l f W e w') : Mo W w' ∧ e = .returned (.tuple #[.agg #[.int .i64 0, .int .i64 0], .bool false]) := by
  refine ⟨h.1, ?_⟩
  rcases h.2 with ⟨h1, h2, _⟩ | h
  · exact absurd ⟨h1, h2⟩ hf
  · exact h.2
set_option maxRecDepth 20000 in
theorem find_repl (n g c : Nat) (w : World) (hn : n ≤ 65536) (h : IvRow w (some ⟨g, 0, none⟩) (List.replicate n ⟨0, 0⟩)) : Calls Try.prog 10 #[.slice (some ⟨g, 0, none⟩) n c] w (TFindRet (List.replicate n ⟨0, 0⟩) w) := by
  have := find_any (List.replicate n ⟨0, 0⟩) _ c w h (by rw [List.length_replicate]; exact hn) (in_rep n)
  rwa [List.length_replicate] at this
set_option maxRecDepth 20000 in
theorem rep_long {n : Nat} {W w' : World} {e : Ending} (hn : 512 < n) (h : TFindRet (List.replicate n ⟨0, 0⟩) W e w') : Mo W w' ∧ e = .returned (.tuple #[.agg (fdC 0 0 0 (.slice none 0 0)), .int .i64 3]) :=
  find_long (by rw [List.length_replicate]; exact hn) h
set_option maxRecDepth 20000 in
theorem rep_ok {n : Nat} {W w' : World} {e : Ending} (h0 : 0 < n) (hn : n ≤ 512) (h : TFindRet (List.replicate n ⟨0, 0⟩) W e w') : Mo W w' ∧ ∃ A c, e = .returned (.tuple #[.agg (fdC 0 0 0 (.slice A n c)), .int .i64 0]) := by
  obtain ⟨M, v, h1, h2⟩ := find_ok (by rw [List.length_replicate]; exact hn) (may_rep n) (find_rep n h0) h
  rw [natL_eq] at h2
  obtain ⟨A, c, rfl, _⟩ := own_ints h2 (natI_length _)
  rw [true_rep] at h1
  exact ⟨M, A, c, h1⟩
attribute [local go_sem ↓] eqR_fold neR_fold eqT_fold
attribute [local go_sem] blk_cell' blk_frozen'
set_option maxRecDepth 20000 in
set_option maxHeartbeats 16000000 in
theorem known33_any (W : World) : Calls Try.prog 7 #[] W fun e w' => e = .returned (.bool true) ∧ Mo W w' := by
  have m3 : ∀ w, (Instr.makeSlice 22 (.int .i64 513) (.int .i64 513)).run Try.prog w = .ok (.slice (some ⟨w.heap.size, 0, none⟩) 513 513) (w.alloc (.cells (zIv 513) 27)) := make_iv 513 (by omega)
  have m2 : ∀ w, (Instr.makeSlice 22 (.int .i64 512) (.int .i64 512)).run Try.prog w = .ok (.slice (some ⟨w.heap.size, 0, none⟩) 512 512) (w.alloc (.cells (zIv 512) 27)) := make_iv 512 (by omega)
  have A1 := Lib.hid (fun w => around_any 9223372036854775807 1 w ⟨by decide, by decide⟩ ⟨by decide, by decide⟩)
  have A2 := Lib.hid (fun w => around_any (-9223372036854775808) 1 w ⟨by decide, by decide⟩ ⟨by decide, by decide⟩)
  have A3 := Lib.hid (fun w => around_any 5 (-3) w ⟨by decide, by decide⟩ ⟨by decide, by decide⟩)
  rw [show cl64 (9223372036854775807 - dist 1) = 9223372036854775806 by decide, show cl64 (9223372036854775807 + dist 1) = 9223372036854775807 by decide] at A1
  rw [show cl64 (-9223372036854775808 - dist 1) = -9223372036854775808 by decide, show cl64 (-9223372036854775808 + dist 1) = -9223372036854775807 by decide] at A2
  rw [show cl64 (5 - dist (-3)) = 5 by decide, show cl64 (5 + dist (-3)) = 5 by decide] at A3
  go_enter Try.func7, Try.ntmps7
  go_wp2_with fail
  refine (find_any [] none 0 _ (.inl rfl) (by decide) (fun x hx => by cases hx)).mono ?_
  intro e w1 h1
  obtain ⟨M1, rfl⟩ := find_no (by decide) (fun x hx => by cases hx) (fun f hf => by simp at hf) h1
  clear h1
  go_wp2_with fail
  refine (find_any [⟨1, 0⟩] _ 1 _ (iv_lit1 (t := 27) inferInstance) (by decide) (fun x hx => by simp at hx; subst hx; exact ⟨by decide, by decide⟩)).mono ?_
  intro e w2 h2
  obtain ⟨M2, rfl⟩ := find_bad (by decide) (fun h => by have := h ⟨1, 0⟩ List.mem_cons_self; simp at this) h2
  have N2 := M1.trans ((Mor.out : Mo w1 _).trans M2)
  clear h2 M1 M2
  go_wp2_with fail
  refine (find_repl 513 _ _ _ (by omega) (zIv_row (n := 513) (t := 27) inferInstance)).mono ?_
  intro e w3 h3
  obtain ⟨M3, rfl⟩ := rep_long (by omega) h3
  have N3 := N2.trans ((Mor.out : Mo w2 _).trans M3)
  clear h3 M3 N2 m3
  go_wp2_with fail
  refine (find_repl 512 _ _ _ (by omega) (zIv_row (n := 512) (t := 27) inferInstance)).mono ?_
  intro e w4 h4
  obtain ⟨M4, A4, c4, rfl⟩ := rep_ok (by omega) (by omega) h4
  have N4 := N3.trans ((Mor.out : Mo w3 _).trans M4)
  clear h4 M4 N3 m2
  go_wp2_with fail
  refine (agreed_any [] none 0 0 _ (.inl rfl) (by decide) (fun x hx => by cases hx)).mono ?_
  intro e w5 h5
  obtain ⟨M5, rfl⟩ := agr_bad (by simp) h5
  have B5 : Blk w5 w4.heap.size 30 (fdC 0 0 0 (.slice A4 512 c4)) := M5.blk inferInstance
  have N5 := N4.trans ((Mor.out : Mo w4 _).trans M5)
  clear h5 M5 N4
  go_wp2_with fail
  refine (agreed_any [⟨0, 0⟩] _ 1 1 _ (iv_lit1 (t := 27) inferInstance) (by decide) (fun x hx => by simp at hx; subst hx; exact ⟨by decide, by decide⟩)).mono ?_
  intro e w6 h6
  obtain ⟨M6, rfl⟩ := agr_bad (by simp) h6
  have B6 : Blk w6 w4.heap.size 30 (fdC 0 0 0 (.slice A4 512 c4)) := M6.blk inferInstance
  have N6 := N5.trans ((Mor.out : Mo w5 _).trans M6)
  clear h6 M6 N5 B5
  go_wp2_with fail
  refine (agreed_any [⟨0, 0⟩] _ 1 (-1) _ (iv_lit1 (t := 27) inferInstance) (by decide) (fun x hx => by simp at hx; subst hx; exact ⟨by decide, by decide⟩)).mono ?_
  intro e w7 h7
  obtain ⟨M7, rfl⟩ := agr_bad (by simp) h7
  have B7 : Blk w7 w4.heap.size 30 (fdC 0 0 0 (.slice A4 512 c4)) := M7.blk inferInstance
  have N7 := N6.trans ((Mor.out : Mo w6 _).trans M7)
  clear h7 M7 N6 B6
  go_wp2_with fail
  refine (works_any _).mono ?_
  rintro e w8 ⟨rfl, M8⟩
  have B8 : Blk w8 w4.heap.size 30 (fdC 0 0 0 (.slice A4 512 c4)) := M8.blk inferInstance
  have N8 := N7.trans ((Mor.out : Mo w7 _).trans M8)
  clear M8 N7 B7
  have q1 := eqT_same (a := 9223372036854775806) (b := 9223372036854775807) ⟨by decide, by decide⟩ ⟨by decide, by decide⟩
  have q2 := eqT_same (a := -9223372036854775808) (b := -9223372036854775807) ⟨by decide, by decide⟩ ⟨by decide, by decide⟩
  have q3 := eqT_same (a := 5) (b := 5) ⟨by decide, by decide⟩ ⟨by decide, by decide⟩
  go_wp2_with fail
  refine (A1.out _).mono ?_
  rintro e w9 ⟨rfl, M9⟩
  go_wp2_with fail
  refine (A2.out _).mono ?_
  rintro e w10 ⟨rfl, M10⟩
  go_wp2_with fail
  refine (A3.out _).mono ?_
  rintro e w11 ⟨rfl, M11⟩
  go_wp2_with fail
  go_ret
  exact ⟨rfl, N8.trans (((Mor.out : Mo w8 _).trans M9).trans (M10.trans M11))⟩
end Go.Proofs.Ytdppkbnjedehbaa
