/- horologelaw32.Same: true of lines that are the same. -/
import Derived.Test.YtfojgjannhhbaaaAllanM
namespace Go.Proofs.Ytfojgjannhhbaaa
open Go.RowKit

/-- lines as they are read -/
def TauAt (W : World) (v : Value) (l : List Tau) : Prop := (v = .slice none 0 0 ∧ l = []) ∨ ∃ g cap, v = .slice (some ⟨g, 0, none⟩) l.length cap ∧ g < W.heap.size ∧ ∀ j u, (tauRow l)[j]? = some u → W.cell? ⟨g, j, none⟩ = some u
set_option maxRecDepth 20000 in
theorem TauAt.mo {W w : World} {v : Value} {l : List Tau} (h : TauAt W v l) (k : Mo W w) : TauAt w v l := by
  rcases h with h | ⟨g, cap, h1, h2, h3⟩
  · exact .inl h
  · refine .inr ⟨g, cap, h1, Nat.lt_of_lt_of_le h2 k.size, fun j u hj => ?_⟩
    have : LtW g W := ⟨h2⟩
    rw [k.cell, h3 j u hj]
set_option maxRecDepth 20000 in
theorem tauAt_owns {W : World} {b : Nat} {v : Value} {l : List Tau} (h : W.ownsRow b 48 5 v l.length (tauRow l)) : TauAt W v l := by
  obtain ⟨h1, h2⟩ := h
  rcases h2 with ⟨rfl, h0⟩ | ⟨g, cap, cur, rfl, hb, hg, h3, h4, h5, h6⟩
  · exact .inl ⟨rfl, List.eq_nil_of_length_eq_zero h0⟩
  · refine .inr ⟨g, cap, rfl, (Array.getElem?_eq_some_iff.1 hg).1, fun j u hj => ?_⟩
    have hB : Blk W g 48 cur := ⟨hg⟩
    rw [blk_cell hB, ← Array.getElem?_toList]
    have hl := tauRow_len l
    have hlt : j < (tauRow l).length := (List.getElem?_eq_some_iff.1 hj).1
    rw [← h6, List.getElem?_take_of_lt (by omega)] at hj
    exact hj
set_option maxRecDepth 20000 in
theorem tauRow_get (l : List Tau) (k : Nat) (hk : k < l.length) (j : Nat) (hj : j < 5) : (tauRow l)[k * 5 + j]? = (tauL l[k])[j]? := by
  unfold tauRow
  induction l generalizing k with
  | nil => simp at hk
  | cons x xs ih =>
    rw [List.flatMap_cons]
    cases k with
    | zero => rw [Nat.zero_mul, Nat.zero_add, List.getElem?_append_left (by simpa using hj)]; rfl
    | succ k =>
      rw [List.getElem?_append_right (by simp; omega), show (k + 1) * 5 + j - (tauL x).length = k * 5 + j by simp; omega, ih k (by simpa using hk)]
      rfl
set_option maxRecDepth 20000 in
set_option maxHeartbeats 2000000 in
theorem same_any (va vb : Value) (l : List Tau) (W : World) (ha : TauAt W va l) (hb : TauAt W vb l) (hl : l.length ≤ 1000) :
    Calls Try.prog 14 #[va, vb] W fun e w' => e = .returned (.bool true) ∧ Mo W w' := by
  rcases ha with ⟨rfl, rfl⟩ | ⟨g, c, rfl, hg, h1⟩
  · rcases hb with ⟨rfl, -⟩ | ⟨g, c, rfl, hg, h1⟩
    all_goals
      go_enter Try.func14, Try.ntmps14
      go_wp2_with fail
      refine wp_loop_rounds 1 ?_
      rw [rounds_succ]
      go_wp2_with fail
      go_ret
      exact ⟨rfl, Mor.out⟩
  · have hb' : ∃ A c', vb = .slice A l.length c' ∧ (0 < l.length → ∃ g', A = some ⟨g', 0, none⟩ ∧ g' < W.heap.size ∧ ∀ j u, (tauRow l)[j]? = some u → W.cell? ⟨g', j, none⟩ = some u) := by
      rcases hb with ⟨rfl, rfl⟩ | ⟨g', c', rfl, hg', h2⟩
      · exact ⟨none, 0, rfl, fun h => absurd h (by decide)⟩
      · exact ⟨_, c', rfl, fun _ => ⟨g', rfl, hg', h2⟩⟩
    obtain ⟨A, c', rfl, hB⟩ := hb'
    have LG : LtW g W := ⟨hg⟩
    have H1 := Lib.hid h1
    have H2 := Lib.hid hB
    have TG := Lib.hid (tauRow_get l)
    clear h1 hB hb
    obtain ⟨n, hn⟩ : ∃ n, l.length = n := ⟨_, rfl⟩
    have HN := Lib.hid hn
    rw [hn] at hl H2 ⊢
    clear hn
    go_enter Try.func14, Try.ntmps14
    go_wp2_with fail
    go_loopw [13] (fun i wr => ∃ k : Nat, k ≤ n ∧ i = .int .i64 k ∧ Mo W wr) (fun i _ => n - (intOf i).toNat)
    case atStart => exact ⟨0, by omega, rfl, Mor.out⟩
    case round =>
      obtain ⟨k, hk, rfl, J, d, rfl⟩ := hrel
      by_cases ck : k < n
      · obtain ⟨g', rfl, hg', h2⟩ := H2.out (by omega)
        have LG' : LtW g' W := ⟨hg'⟩
        have hkl : k < l.length := by rw [HN.out]; exact ck
        have t := fun j hj => TG.out k hkl j hj
        generalize l[k] = x at t
        obtain ⟨xs, xc, xm, xd⟩ := x
        have a0 := H1.out _ _ (t 0 (by omega))
        have a1 := H1.out _ _ (t 1 (by omega))
        have a2 := H1.out _ _ (t 2 (by omega))
        have a3 := H1.out _ _ (t 3 (by omega))
        have a4 := H1.out _ _ (t 4 (by omega))
        have b0 := h2 _ _ (t 0 (by omega))
        have b1 := h2 _ _ (t 1 (by omega))
        have b2 := h2 _ _ (t 2 (by omega))
        have b3 := h2 _ _ (t 3 (by omega))
        have b4 := h2 _ _ (t 4 (by omega))
        simp only [Nat.add_zero] at a0 b0
        have i1 : (0 : Int) ≤ k := by omega
        have i2 : (k : Int) < n := by omega
        clear t h2 H2 H1 TG
        go_wp2_with fail
        refine wp_region_mo' (by kernel_rfl) (by kernel_rfl) ?_
        repeat (go_big_quiet_step (fail))
        refine wpQuiet_nil ?_
        intro _ hw'
        obtain ⟨⟨J9, d9⟩, hw''⟩ := hw'
        subst hw''
        go_wp2_with fail
        go_roundw
        case rel => exact ⟨k + 1, by omega, by go_num, Mor.out⟩
        case measure => simp [intOf]; omega
      · obtain rfl : k = n := by omega
        clear H2 H1 TG
        go_wp2_with fail
        go_ret
        exact ⟨rfl, Mor.out⟩
end Go.Proofs.Ytfojgjannhhbaaa
