/- horologelaw33.works returns true; slices.Equal of ints. -/
import Derived.Test.YtdgmcgfkammioaaTruG
namespace Go.Proofs.Ytdgmcgfkammioaa
open Go.RowKit

/-- a slice of ints, as it is read -/
def IntRow (W : World) (A : Option Addr) (xs : List Int) : Prop := xs = [] ∨ ∃ g off, A = some ⟨g, off, none⟩ ∧ ∀ j (h : j < xs.length), W.cell? ⟨g, off + j, none⟩ = some (.int .i64 xs[j])
set_option maxRecDepth 20000 in
theorem IntRow.mo {W w : World} {A : Option Addr} {l : List Int} (h : IntRow W A l) (k : Mo W w) : IntRow w A l := by
  rcases h with h | ⟨g, off, rfl, hc⟩
  · exact .inl h
  · refine .inr ⟨g, off, rfl, fun j hj => ?_⟩
    have a := hc j hj
    have : LtW g W := LtW.of_cell a
    rw [k.cell, a]
def natI (xs : List Nat) : List Int := xs.map fun (k : Nat) => (k : Int)
set_option maxRecDepth 20000 in
theorem natL_eq (xs : List Nat) : natL xs = i64L (natI xs) := by
  unfold natL i64L natI
  rw [List.map_map]
  rfl
set_option maxRecDepth 20000 in
theorem natI_inj {xs ys : List Nat} (h : natI xs = natI ys) : xs = ys := by
  unfold natI at h
  exact List.map_inj_right (fun a b k => by have k' : (a : Int) = b := k; omega) |>.1 h
set_option maxRecDepth 20000 in
theorem natI_length (xs : List Nat) : (natI xs).length = xs.length := by unfold natI; simp
set_option maxRecDepth 20000 in
theorem own_ints {w : World} {base n : Nat} {T : TypeId} {v : Value} {xs : List Int} (h : w.ownsRow base T 1 v n (i64L xs)) (hn : xs.length = n) : ∃ A c, v = .slice A n c ∧ IntRow w A xs := by
  rcases h.2 with ⟨rfl, rfl⟩ | ⟨g, cap, cur, rfl, rest⟩
  · exact ⟨none, 0, rfl, .inl (List.eq_nil_of_length_eq_zero hn)⟩
  · refine ⟨_, _, rfl, .inr ⟨g, 0, rfl, fun j hj => ?_⟩⟩
    exact own_cell64 h j _ (i64_get hj)
attribute [local go_sem] blk_cell' blk_frozen'
set_option maxRecDepth 20000 in
theorem ex1 : IsFind [⟨0, 10⟩, ⟨5, 15⟩, ⟨8, 9⟩] (some (⟨8, 9⟩, 0)) ∧ trueL [⟨0, 10⟩, ⟨5, 15⟩, ⟨8, 9⟩] ⟨8, 9⟩ = [0, 1, 2] := by
  refine ⟨⟨by decide, ?_, fun f' h => by omega⟩, by decide⟩
  unfold IsAgr
  decide
set_option maxRecDepth 20000 in
theorem ex2 : IsFind [⟨0, 10⟩, ⟨5, 15⟩, ⟨20, 30⟩] (some (⟨5, 10⟩, 1)) ∧ trueL [⟨0, 10⟩, ⟨5, 15⟩, ⟨20, 30⟩] ⟨5, 10⟩ = [0, 1] := by
  refine ⟨⟨by decide, ?_, fun f' h => ?_⟩, by decide⟩
  · unfold IsAgr
    decide
  · obtain rfl : f' = 0 := by omega
    unfold IsAgr
    decide
set_option maxRecDepth 20000 in
theorem ex3 : IsFind [⟨0, 1⟩, ⟨2, 3⟩] none := by
  intro f hf
  obtain rfl : f = 0 := by simp at hf; omega
  unfold IsAgr
  decide
set_option maxRecDepth 20000 in
theorem may3 {a b c d e f : Int} (h1 : a ≤ b) (h2 : c ≤ d) (h3 : e ≤ f) : MayL [⟨a, b⟩, ⟨c, d⟩, ⟨e, f⟩] := by
  intro x hx
  simp at hx
  rcases hx with rfl | rfl | rfl <;> assumption
set_option maxRecDepth 20000 in
theorem iv_lit3 {w : World} {g : Nat} {t : TypeId} {a b c d e f : Int} (h : Blk w g t #[.int .i64 a, .int .i64 b, .int .i64 c, .int .i64 d, .int .i64 e, .int .i64 f]) : IvRow w (some ⟨g, 0, none⟩) [⟨a, b⟩, ⟨c, d⟩, ⟨e, f⟩] := by
  refine .inr ⟨g, 0, rfl, fun j hj => ?_⟩
  have : j = 0 ∨ j = 1 ∨ j = 2 := by simp at hj; omega
  rcases this with rfl | rfl | rfl <;> (rw [blk_cell h, blk_cell h]; exact ⟨rfl, rfl⟩)
set_option maxRecDepth 20000 in
theorem iv_lit2 {w : World} {g : Nat} {t : TypeId} {a b c d : Int} (h : Blk w g t #[.int .i64 a, .int .i64 b, .int .i64 c, .int .i64 d]) : IvRow w (some ⟨g, 0, none⟩) [⟨a, b⟩, ⟨c, d⟩] := by
  refine .inr ⟨g, 0, rfl, fun j hj => ?_⟩
  have : j = 0 ∨ j = 1 := by simp at hj; omega
  rcases this with rfl | rfl <;> (rw [blk_cell h, blk_cell h]; exact ⟨rfl, rfl⟩)
set_option maxRecDepth 20000 in
theorem find_ok {l : List Iv} {i : Iv} {f : Nat} {W w' : World} {e : Ending} (hl : l.length ≤ 512) (hy : MayL l) (hf : IsFind l (some (i, f))) (h : TFindRet l W e w') :
    Mo W w' ∧ ∃ v, e = .returned (.tuple #[.agg (fdC i.lo i.hi (f : Nat) v), .int .i64 0]) ∧ w'.ownsRow W.heap.size 3 1 v (trueL l i).length (natL (trueL l i)) := by
  refine ⟨h.1, ?_⟩
  rcases h.2 with h | h | h
  · omega
  · exact absurd hy h.2.1
  · rcases h.2.2 with ⟨i', f', v, h1, h2, h3⟩ | ⟨h1, _⟩
    · have := isFind_uniq hf h1
      injection this with this
      injection this with h4 h5
      subst h4 h5
      exact ⟨v, h2, h3⟩
    · have := isFind_uniq hf h1
      cases this
set_option maxRecDepth 20000 in
theorem find_no {l : List Iv} {W w' : World} {e : Ending} (hl : l.length ≤ 512) (hy : MayL l) (hf : IsFind l none) (h : TFindRet l W e w') :
    Mo W w' ∧ e = .returned (.tuple #[.agg (fdC 0 0 0 (.slice none 0 0)), .int .i64 4]) := by
  refine ⟨h.1, ?_⟩
  rcases h.2 with h | h | h
  · omega
  · exact absurd hy h.2.1
  · rcases h.2.2 with ⟨i', f', v, h1, h2, h3⟩ | ⟨_, h2⟩
    · have := isFind_uniq hf h1
      cases this
    · exact h2
set_option maxRecDepth 20000 in
theorem in3 {a b c d e f : Int} (h1 : -9223372036854775808 ≤ a) (h2 : b ≤ 9223372036854775807) (h3 : -9223372036854775808 ≤ c) (h4 : d ≤ 9223372036854775807) (h5 : -9223372036854775808 ≤ e) (h6 : f ≤ 9223372036854775807) : InIv [⟨a, b⟩, ⟨c, d⟩, ⟨e, f⟩] := by
  intro x hx
  simp at hx
  rcases hx with rfl | rfl | rfl <;> exact ⟨by assumption, by assumption⟩
set_option maxRecDepth 20000 in
theorem in2 {a b c d : Int} (h1 : -9223372036854775808 ≤ a) (h2 : b ≤ 9223372036854775807) (h3 : -9223372036854775808 ≤ c) (h4 : d ≤ 9223372036854775807) : InIv [⟨a, b⟩, ⟨c, d⟩] := by
  intro x hx
  simp at hx
  rcases hx with rfl | rfl <;> exact ⟨by assumption, by assumption⟩
set_option maxRecDepth 20000 in
theorem may2 {a b c d : Int} (h1 : a ≤ b) (h2 : c ≤ d) : MayL [⟨a, b⟩, ⟨c, d⟩] := by
  intro x hx
  simp at hx
  rcases hx with rfl | rfl <;> assumption
set_option maxRecDepth 20000 in
theorem ints3 {w : World} {g : Nat} {t : TypeId} {a b c : Int} (h : Blk w g t #[.int .i64 a, .int .i64 b, .int .i64 c]) : IntRow w (some ⟨g, 0, none⟩) [a, b, c] := by
  refine .inr ⟨g, 0, rfl, fun j hj => ?_⟩
  have : j = 0 ∨ j = 1 ∨ j = 2 := by simp at hj; omega
  rcases this with rfl | rfl | rfl <;> (rw [blk_cell h]; rfl)
set_option maxRecDepth 20000 in
theorem ints2 {w : World} {g : Nat} {t : TypeId} {a b : Int} (h : Blk w g t #[.int .i64 a, .int .i64 b]) : IntRow w (some ⟨g, 0, none⟩) [a, b] := by
  refine .inr ⟨g, 0, rfl, fun j hj => ?_⟩
  have : j = 0 ∨ j = 1 := by simp at hj; omega
  rcases this with rfl | rfl <;> (rw [blk_cell h]; rfl)
end Go.Proofs.Ytdgmcgfkammioaa
