/- law33: intervals, as they are read; the reference's Had, May. -/
import Derived.Test.YtdgmcgfkammioaaBlk
import Derived.Test.YtdgmcgfkammioaaCel
import Derived.Test.YtdgmcgfkammioaaTruP
namespace Go.Proofs.Ytdgmcgfkammioaa
open Go.RowKit

/-- a slice of intervals, as it is read -/
def IvRow (W : World) (A : Option Addr) (l : List Iv) : Prop := l = [] ∨ ∃ g off, A = some ⟨g, off, none⟩ ∧ ∀ j (h : j < l.length), W.cell? ⟨g, off + j * 2, none⟩ = some (.int .i64 l[j].lo) ∧ W.cell? ⟨g, off + j * 2 + 1, none⟩ = some (.int .i64 l[j].hi)
set_option maxRecDepth 20000 in
theorem IvRow.mo {W w : World} {A : Option Addr} {l : List Iv} (h : IvRow W A l) (k : Mo W w) : IvRow w A l := by
  rcases h with h | ⟨g, off, rfl, hc⟩
  · exact .inl h
  · refine .inr ⟨g, off, rfl, fun j hj => ?_⟩
    obtain ⟨a, b⟩ := hc j hj
    have : LtW g W := LtW.of_cell a
    exact ⟨by rw [k.cell, a], by rw [k.cell, b]⟩
set_option maxRecDepth 20000 in
theorem had_take (l : List Iv) (p : Int) (j : Nat) (hj : j < l.length) : had (l.take (j + 1)) p = had (l.take j) p + if decide (l[j].lo ≤ p) && decide (p ≤ l[j].hi) then 1 else 0 := by
  unfold had
  rw [List.take_add_one, List.getElem?_eq_getElem hj, List.countP_append]
  simp [List.countP_cons]
set_option maxRecDepth 20000 in
set_option maxHeartbeats 4000000 in
theorem had_any (l : List Iv) (A : Option Addr) (c : Nat) (p : Int) (W : World) (hR : IvRow W A l) (hl : l.length ≤ 65536) :
    Calls Try.prog 68 #[.slice A l.length c, .int .i64 p] W fun e w' => e = .returned (.int .i64 (had l p : Nat)) ∧ W = w' := by
  have HR := Lib.hid hR
  clear hR
  obtain ⟨N, hN⟩ : ∃ N, l.length = N := ⟨_, rfl⟩
  have HN := Lib.hid hN
  rw [hN] at hl ⊢
  clear hN
  go_enter Try.func68, Try.ntmps68
  go_wp2_with fail
  go_loopw [5, 6] (fun n i wr => ∃ j : Nat, j ≤ N ∧ i = .int .i64 j ∧ n = .int .i64 (had (l.take j) p : Nat) ∧ W = wr) (fun _ i _ => N - (intOf i).toNat)
  case atStart => exact ⟨0, by omega, rfl, rfl, rfl⟩
  case round =>
    obtain ⟨j, hj, rfl, rfl, rfl⟩ := hrel
    have hb : had (l.take j) p ≤ j := Nat.le_trans (had_le_length _ _) (by rw [List.length_take]; omega)
    by_cases cj : j < N
    · have hjl : j < l.length := by rw [HN.out]; exact cj
      have HT := Lib.hid (had_take l p j hjl)
      obtain ⟨g, off, rfl, hc⟩ := HR.out.resolve_left (fun e => by rw [e] at hjl; simp at hjl)
      obtain ⟨y0, y1⟩ := hc j hjl
      clear hc
      have e0 : (0 : Int) ≤ j := by omega
      have e1 : (j : Int) < N := by omega
      obtain ⟨lo, elo⟩ : ∃ x, l[j].lo = x := ⟨_, rfl⟩
      obtain ⟨hi, ehi⟩ : ∃ x, l[j].hi = x := ⟨_, rfl⟩
      rw [elo] at y0 HT
      rw [ehi] at y1 HT
      obtain ⟨h0, eh0⟩ : ∃ x, had (l.take j) p = x := ⟨_, rfl⟩
      rw [eh0] at HT hb ⊢
      clear elo ehi eh0 hjl
      have wn : IntKind.i64.wrap ((h0 : Int) + 1) = h0 + 1 := by rw [IntKind.wrap_i64]; omega
      by_cases c1 : lo ≤ p
      · by_cases c2 : p ≤ hi
        · have d1 : decide (lo ≤ p) = true := decide_eq_true c1
          have d2 : decide (p ≤ hi) = true := decide_eq_true c2
          rw [d1, d2] at HT
          go_wp2_with fail
          go_roundw
          case rel => exact ⟨j + 1, by omega, by go_num, by rw [HT.out]; rfl, by first | rfl | trivial⟩
          case measure => simp [intOf]; omega
        · have d1 : decide (lo ≤ p) = true := decide_eq_true c1
          have d2 : decide (p ≤ hi) = false := decide_eq_false c2
          rw [d1, d2] at HT
          go_wp2_with fail
          go_roundw
          case rel => exact ⟨j + 1, by omega, by go_num, by rw [HT.out]; rfl, by first | rfl | trivial⟩
          case measure => simp [intOf]; omega
      · have d1 : decide (lo ≤ p) = false := decide_eq_false c1
        rw [d1] at HT
        go_wp2_with fail
        go_roundw
        case rel => exact ⟨j + 1, by omega, by go_num, by rw [HT.out]; rfl, by first | rfl | trivial⟩
        case measure => simp [intOf]; omega
    · obtain rfl : j = N := by omega
      have e : l.take j = l := List.take_of_length_le (by rw [HN.out]; exact Nat.le_refl _)
      rw [e]
      go_wp2_with fail
      go_ret
      exact ⟨rfl, rfl⟩
end Go.Proofs.Ytdgmcgfkammioaa
