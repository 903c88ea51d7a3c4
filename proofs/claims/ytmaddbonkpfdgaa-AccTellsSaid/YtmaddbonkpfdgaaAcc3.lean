/- acc.Of of any slice of numbers. -/
import Derived.Test.YtmaddbonkpfdgaaAcc
import Derived.OpenShut
namespace Go.Proofs.Ytmaddbonkpfdgaa
open Go.RowKit

set_option maxHeartbeats 1000000 in
theorem of_empty (A : Option Addr) (cap : Nat) (W : World) : Calls Try.prog 9 #[.slice A 0 cap] W (OfRet [] W) := by
  go_enter Try.func9, Try.ntmps9
  go_wp2
  go_rounds 1
  go_ret
  refine ⟨W.heap.size, rfl, by omega, ?_, Mor.out⟩
  rw [acc_0]
  infer_instance
theorem of_slice (a : Addr) (zs : List Int) (len cap : Nat) (W : World) (hle : len ≤ cap) (hall : zs.length = cap) (hc : ∀ i, i < zs.length → W.cell? (a.add i) = some (.int .i64 (zs.getD i 0))) (hl : len ≤ 2147483648) :
    ∀ W', Mo W W' → Calls Try.prog 9 #[.slice (some a) len cap] W' (OfRet (zs.take len) W') := by
  intro W' hM
  by_cases z : len = 0
  · subst z
    rw [List.take_zero]
    exact of_empty (some a) cap W'
  · obtain ⟨b, off, rfl, hcell⟩ := ints_at hc (by omega)
    have ln : (zs.take len).length = len := by rw [List.length_take]; omega
    have := of_some (zs.take len) b off cap W' (by omega) (fun j hj => by
      rw [ln] at hj
      have h1 := hcell j (by omega)
      have : LtW b W := LtW.of_cell h1
      rw [hM.cell, h1]
      simp [List.getD, List.getElem?_take_of_lt hj]) (by omega)
    rwa [ln] at this
end Go.Proofs.Ytmaddbonkpfdgaa
