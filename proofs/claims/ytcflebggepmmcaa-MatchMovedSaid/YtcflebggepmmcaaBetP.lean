/- horologelaw30.MatchBetween, plain: datagrams that are no requests and no replies change nothing. -/
import Derived.Test.YtcflebggepmmcaaDgOwn
import Derived.Test.YtcflebggepmmcaaMatX
namespace Go.Proofs.Ytcflebggepmmcaa
open Go.RowKit

set_option maxRecDepth 20000 in
theorem playM_app (room : Int) (l r : List Dg) : ∀ n, n ≤ l.length → playM room (l ++ r) n = playM room l n
  | 0, _ => rfl
  | n + 1, h => by
    rw [playM_succ room (l ++ r) n (by simp; omega), playM_succ room l n (by omega), playM_app room l r n (by omega), List.getElem_append_left]
set_option maxRecDepth 20000 in
theorem runS_app (win room : Int) (l r : List Dg) : ∀ n, n ≤ l.length → runS win room (l ++ r) n = runS win room l n
  | 0, _ => rfl
  | n + 1, h => by
    rw [runS_succ win room (l ++ r) n (by simp; omega), runS_succ win room l n (by omega), runS_app win room l r n (by omega), playM_app room l r n (by omega), List.getElem_append_left]
set_option maxRecDepth 20000 in
theorem runC_app (win room : Int) (l r : List Dg) : ∀ n, n ≤ l.length → runC win room (l ++ r) n = runC win room l n
  | 0, _ => rfl
  | n + 1, h => by
    rw [runC_succ win room (l ++ r) n (by simp; omega), runC_succ win room l n (by omega), runC_app win room l r n (by omega), playM_app room l r n (by omega), List.getElem_append_left]
set_option maxRecDepth 20000 in
theorem playM_snoc (room : Int) (l : List Dg) (d : Dg) : playM room (l ++ [d]) (l.length + 1) = entM room (playM room l l.length) d := by
  rw [playM_succ room (l ++ [d]) l.length (by simp), playM_app room l [d] _ (Nat.le_refl _)]
  simp
set_option maxRecDepth 20000 in
theorem runS_snoc (win room : Int) (l : List Dg) (d : Dg) : runS win room (l ++ [d]) (l.length + 1) = if clsM win (playM room l l.length) d = 4 then runS win room l l.length ++ [smM win (playM room l l.length) d] else runS win room l l.length := by
  rw [runS_succ win room (l ++ [d]) l.length (by simp), playM_app room l [d] _ (Nat.le_refl _), runS_app win room l [d] _ (Nat.le_refl _)]
  simp
set_option maxRecDepth 20000 in
theorem runC_snoc (win room : Int) (l : List Dg) (d : Dg) : runC win room (l ++ [d]) (l.length + 1) = upC (runC win room l l.length) (clsM win (playM room l l.length) d) := by
  rw [runC_succ win room (l ++ [d]) l.length (by simp), playM_app room l [d] _ (Nat.le_refl _), runC_app win room l [d] _ (Nat.le_refl _)]
  simp
/-- so far these datagrams, with more between them, go as those -/
structure BetP (win room : Int) (l : List Dg) (j : Nat) (LA : List Dg) : Prop where
  play : playM room LA LA.length = playM room l j
  samp : runS win room LA LA.length = runS win room l j
  cnt : ∀ c, c ≠ 0 → c ≠ 8 → runC win room LA LA.length c = runC win room l j c
  more : (LA.length : Int) - j ≤ runC win room LA LA.length 0 + runC win room LA LA.length 8
  ge : j ≤ LA.length ∧ LA.length ≤ 2 * j
set_option maxRecDepth 20000 in
theorem BetP.start (win room : Int) (l : List Dg) : BetP win room l 0 [] := ⟨rfl, rfl, fun _ _ _ => rfl, by simp [runC], by simp⟩
/-- the same with one more datagram told of the next place -/
structure BetQ (win room : Int) (l : List Dg) (j : Nat) (LA : List Dg) : Prop where
  play : playM room LA LA.length = playM room l j
  samp : runS win room LA LA.length = runS win room l j
  cnt : ∀ c, c ≠ 0 → c ≠ 8 → runC win room LA LA.length c = runC win room l j c
  more : (LA.length : Int) - j ≤ runC win room LA LA.length 0 + runC win room LA LA.length 8
  ge : j ≤ LA.length ∧ LA.length ≤ 2 * j + 1
set_option maxRecDepth 20000 in
theorem BetP.q {win room : Int} {l : List Dg} {j : Nat} {LA : List Dg} (h : BetP win room l j LA) : BetQ win room l j LA := ⟨h.play, h.samp, h.cnt, h.more, h.ge.1, by have := h.ge.2; omega⟩
set_option maxRecDepth 20000 in
theorem BetP.idle {win room : Int} {l : List Dg} {j : Nat} {LA : List Dg} (h : BetP win room l j LA) {x : Dg} (c : (classP x.bs).2 = 0 ∨ (classP x.bs).2 = 8) : BetQ win room l j (LA ++ [x]) := by
  have c1 : (classP x.bs).2 ≠ 1 := by omega
  have c4 : (classP x.bs).2 ≠ 4 := by omega
  have cl : clsM win (playM room LA LA.length) x = (classP x.bs).2 := by unfold clsM; rw [if_neg c1, if_neg c4]
  have en : entM room (playM room LA LA.length) x = playM room LA LA.length := by unfold entM; rw [if_neg c1, if_neg c4]
  have e : (LA ++ [x]).length = LA.length + 1 := by simp
  refine ⟨?_, ?_, fun k k0 k8 => ?_, ?_, ?_⟩
  · rw [e, playM_snoc, en]; exact h.play
  · rw [e, runS_snoc, cl, if_neg c4]; exact h.samp
  · rw [e, runC_snoc, cl, ← h.cnt k k0 k8]
    unfold upC
    rw [if_neg (by omega)]
  · have := h.more
    rw [e, runC_snoc, cl]
    unfold upC
    rcases c with c | c
    · rw [c]
      simp only [Int.ofNat_zero, if_true]
      rw [if_neg (by decide)]
      omega
    · rw [c]
      rw [if_neg (by decide), if_pos (by decide)]
      omega
  · have := h.ge; rw [e]; omega
set_option maxRecDepth 20000 in
theorem BetQ.real {win room : Int} {l : List Dg} {j : Nat} {LA : List Dg} (h : BetQ win room l j LA) (hj : j < l.length) : BetP win room l (j + 1) (LA ++ [l[j]]) := by
  have e : (LA ++ [l[j]]).length = LA.length + 1 := by simp
  refine ⟨?_, ?_, fun k k0 k8 => ?_, ?_, ?_⟩
  · rw [e, playM_snoc, h.play, playM_succ room l j hj]
  · rw [e, runS_snoc, h.play, h.samp, runS_succ win room l j hj]
  · rw [e, runC_snoc, h.play, runC_succ win room l j hj]
    unfold upC
    rw [h.cnt k k0 k8]
  · have := h.more
    rw [e, runC_snoc]
    unfold upC
    split <;> split <;> omega
  · have := h.ge; rw [e]; omega
/-- a head of mode 6 -/
def h6D (x : Int) : Hd := ⟨0, 4, 6, 0, 0, 0, 0, 0, 0, 0, 0, 0, 0, 1, 0, x⟩
set_option maxRecDepth 20000 in
theorem h6_ok {x : Int} (h : 0 ≤ x ∧ x ≤ 18446744073709551615) : HdOk (h6D x) := by constructor <;> first | exact h | (unfold h6D; simp)
set_option maxRecDepth 20000 in
theorem h6_cls {x : Int} (h : 0 ≤ x ∧ x ≤ 18446744073709551615) : (classP (hdB (h6D x))).2 = 8 := by
  rw [classP_hd (h6_ok h) (by unfold h6D; rfl)]
  rfl
set_option maxRecDepth 20000 in
theorem nil_cls : (classP ([] : List Int)).2 = 0 := by kernel_rfl
set_option maxRecDepth 20000 in
theorem run_build_h6 (x : Int) (w : World) : (buildF 63 #[(1, .int .u8 4), (2, .int .u8 6), (12, .int .u64 x), (10, .int .u64 1)]).run Try.prog w = .ok (hdV (h6D x)) w := run_build w _ _ _ (by kernel_rfl)
end Go.Proofs.Ytcflebggepmmcaa
