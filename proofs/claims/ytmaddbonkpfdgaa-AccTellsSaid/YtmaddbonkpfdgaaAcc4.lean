/- acc: Add in any world; facts of what is told. -/
import Derived.Test.YtmaddbonkpfdgaaWorks31
import Derived.Test.YtmaddbonkpfdgaaBlk
namespace Go.Proofs.Ytmaddbonkpfdgaa
open Go.RowKit

/-- what Add leaves -/
def AddRet (p : Nat) (S' : St) (W : World) (e : Ending) (w' : World) : Prop :=
  e = .returned (.tuple #[]) ∧ Blk w' p 39 (accC true S') ∧ (∀ (q : Nat) (t : TypeId) (cs : Array Value), q ≠ p → Blk W q t cs → Blk w' q t cs) ∧ (∀ V : World, V.heap.size ≤ p → Mo V W → Mo V w')
theorem add_ret (p : Nat) (S : St) (n m : Int) (W : World) (hB : Blk W p 39 (accC true S)) (hS : Good S m) (hm : m ≤ 2147483648) :
    Calls Try.prog 10 #[.pointer (some ⟨p, 0, none⟩), .int .i64 n] W (AddRet p (addN S n) W) := by
  refine (add_acc p S n m W hB hS hm).mono ?_
  rintro e w1 ⟨rfl, hM⟩
  exact ⟨rfl, hM.blk (blk_setRow hB), fun q t cs hq hb => hM.blk (blk_setRow_ne hb (Ne.symm hq)), fun V hV hVW => (mo_setRow hVW hV _).trans hM⟩
theorem rootV_of_sq {d : Int} (h : 0 ≤ d) : rootV (d * d) = d :=
  root_uniq (rootV_is (Int.mul_nonneg h h)) ⟨h, Int.le_refl _, by simp only [Int.mul_add, Int.add_mul]; omega⟩
theorem spread_le {S : St} {m : Int} (h : Good S m) (hc : 0 < S.c) : 0 ≤ spreadS S ∧ spreadS S ≤ S.hi - S.lo := by
  refine ⟨rootV_nonneg _, ?_⟩
  have lh := h.lh
  rw [← rootV_of_sq (show 0 ≤ S.hi - S.lo by omega)]
  refine rootV_mono ?_
  obtain ⟨f0, f1⟩ := far_bd h hc
  have : farS S / S.c < (S.hi - S.lo) * (S.hi - S.lo) + 1 := Int.ediv_lt_of_lt_mul hc (by rw [Int.add_mul, Int.mul_comm]; omega)
  omega
end Go.Proofs.Ytmaddbonkpfdgaa
