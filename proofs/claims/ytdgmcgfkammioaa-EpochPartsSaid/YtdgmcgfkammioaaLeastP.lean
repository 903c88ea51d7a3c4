/- law33: what the stage's theorem asks, plainly; within, slices.Contains. -/
import Derived.Test.YtdgmcgfkammioaaKnown33
namespace Go.Proofs.Ytdgmcgfkammioaa
open Go.RowKit

/-- what the stage's theorem asks of what is found -/
structure LeastF (l : List Iv) (i : Iv) (f : Nat) : Prop where
  half : 2 * f < l.length
  le : i.lo ≤ i.hi
  lo : l.length - f ≤ had l i.lo
  hi : l.length - f ≤ had l i.hi
  lo1 : had l (i.lo - 1) < l.length - f
  hi1 : had l (i.hi + 1) < l.length - f
  few : ∀ y ∈ l, 0 < f → had l y.lo ≤ l.length - f
  within : ∀ y ∈ l, l.length - f ≤ had l y.lo → i.lo ≤ y.lo ∧ y.lo ≤ i.hi
  many : l.length - f ≤ (trueL l i).length
set_option maxRecDepth 20000 in
theorem least_of {l : List Iv} {i : Iv} {f : Nat} (h : IsFind l (some (i, f))) : LeastF l i f := by
  obtain ⟨h1, h2, h3⟩ := h
  have hm : 0 < l.length - f := by omega
  refine ⟨h1, agr_le hm h2, h2.1.2.1, h2.2.2.1, ?_, ?_, fun y hy h0 => ?_, fun y hy q => agr_within hm h2 q, ?_⟩
  · rcases Nat.lt_or_ge (had l (i.lo - 1)) (l.length - f) with c | c
    · exact c
    · have := agr_within hm h2 c
      omega
  · rcases Nat.lt_or_ge (had l (i.hi + 1)) (l.length - f) with c | c
    · exact c
    · have := agr_within hm h2 c
      omega
  · have := h3 (f - 1) (by omega)
    have := this y hy
    omega
  · unfold trueL
    rw [trueL_count]
    refine Nat.le_trans h2.1.2.1 ?_
    unfold had
    refine List.countP_mono_left fun x _ k => ?_
    have hle := agr_le hm h2
    unfold meets
    simp at k ⊢
    omega
set_option maxRecDepth 20000 in
theorem mem_trueL {l : List Iv} {i : Iv} {k : Nat} (hk : k < l.length) : k ∈ trueL l i ↔ l[k].lo ≤ i.hi ∧ i.lo ≤ l[k].hi := by
  unfold trueL
  rw [List.mem_filter, List.mem_range, List.getElem?_eq_getElem hk]
  simp [meets, hk]
set_option maxRecDepth 20000 in
theorem mem_natI {xs : List Nat} {k : Nat} : (k : Int) ∈ natI xs ↔ k ∈ xs := by
  unfold natI
  rw [List.mem_map]
  constructor
  · rintro ⟨a, ha, e⟩
    have : a = k := by omega
    rwa [← this]
  · intro h
    exact ⟨k, h, rfl⟩
def Within (l : List Iv) (b : Int) : Prop := ∀ x ∈ l, -b < x.lo ∧ x.hi < b
attribute [local go_sem] blk_cell' blk_frozen'
end Go.Proofs.Ytdgmcgfkammioaa
