/- A slice of numbers, as it is read; Of of it. -/
import Derived.Test.YtmaddbonkpfdgaaAcc3
import Derived.Test.YtmaddbonkpfdgaaBlk
namespace Go.Proofs.Ytmaddbonkpfdgaa
open Go.RowKit

/-- a slice of numbers, as it is read -/
def RowOf (W : World) (A : Option Addr) (r : List Int) : Prop := r = [] ∨ ∃ g off, A = some ⟨g, off, none⟩ ∧ ∀ j, j < r.length → W.cell? ⟨g, off + j, none⟩ = some (.int .i64 (r.getD j 0))
theorem of_reads (A : Option Addr) (r : List Int) (c : Nat) (W : World) (hr : r.length ≤ 2147483648) (hR : RowOf W A r) : ∀ W', Mo W W' → Calls Try.prog 9 #[.slice A r.length c] W' (OfRet r W') := by
  intro W' hM
  by_cases z : r = []
  · subst z; exact of_empty A c W'
  · obtain ⟨g, off, rfl, hc⟩ := hR.resolve_left z
    have hp : 0 < r.length := List.length_pos_iff.2 z
    exact of_some r g off c W' hr (fun j hj => by
      have h1 := hc j hj
      have : LtW g W := LtW.of_cell h1
      rw [hM.cell, h1]) hp
theorem RowOf.take {W : World} {A : Option Addr} {r : List Int} (h : RowOf W A r) (k : Nat) : RowOf W A (r.take k) := by
  rcases h with rfl | ⟨g, off, rfl, hc⟩
  · exact .inl (by simp)
  · refine .inr ⟨g, off, rfl, fun j hj => ?_⟩
    rw [List.length_take] at hj
    rw [hc j (by omega)]
    simp [List.getD, List.getElem?_take_of_lt (show j < k by omega)]
theorem RowOf.drop {W : World} {A : Option Addr} {r : List Int} (h : RowOf W A r) (k : Nat) : RowOf W (A.map (·.add k)) (r.drop k) := by
  rcases h with rfl | ⟨g, off, rfl, hc⟩
  · exact .inl (by simp)
  · refine .inr ⟨g, off + k, by simp [Addr.add], fun j hj => ?_⟩
    rw [List.length_drop] at hj
    rw [Nat.add_assoc, hc (k + j) (by omega)]
    simp [List.getD]
theorem RowOf.mo {W W' : World} {A : Option Addr} {r : List Int} (h : RowOf W A r) (hM : Mo W W') : RowOf W' A r := by
  rcases h with rfl | ⟨g, off, rfl, hc⟩
  · exact .inl rfl
  · refine .inr ⟨g, off, rfl, fun j hj => ?_⟩
    have h1 := hc j hj
    have : LtW g W := LtW.of_cell h1
    rw [hM.cell, h1]
theorem RowOf.drop_if {W : World} {A : Option Addr} {r : List Int} (h : RowOf W A r) (k cap : Nat) (hk : k ≤ r.length) (hc : r.length ≤ cap) : RowOf W (if cap = k then A else A.map (·.add (k * 1))) (r.drop k) := by
  by_cases e : cap = k
  · rw [if_pos e]
    exact .inl (List.drop_eq_nil_of_le (by omega))
  · rw [if_neg e, Nat.mul_one]; exact h.drop k
theorem rowOf_ints {a : Addr} {zs : List Int} {len : Nat} {W : World} (hle : len ≤ zs.length) (hc : ∀ i, i < zs.length → W.cell? (a.add i) = some (.int .i64 (zs.getD i 0))) : RowOf W (some a) (zs.take len) := by
  by_cases z : len = 0
  · subst z; exact .inl (by simp)
  · obtain ⟨b, off, rfl, hcell⟩ := ints_at hc (by omega)
    refine .inr ⟨b, off, rfl, fun j hj => ?_⟩
    rw [List.length_take] at hj
    rw [hcell j (by omega)]
    simp [List.getD, List.getElem?_take_of_lt (show j < len by omega)]
end Go.Proofs.Ytmaddbonkpfdgaa
