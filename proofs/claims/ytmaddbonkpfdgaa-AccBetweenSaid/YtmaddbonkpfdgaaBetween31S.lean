/- horologelaw31.AccBetween, for a slice as it is handed over. -/
import Derived.Test.YtmaddbonkpfdgaaBetween31
import Derived.Test.YtmaddbonkpfdgaaAcc3
namespace Go.Proofs.Ytmaddbonkpfdgaa
open Go.RowKit

theorem between_slice (a : Addr) (zs : List Int) (len cap : Nat) (x : Int) (hle : len ≤ cap) (hall : zs.length = cap) (w1 : -9223372036854775808 ≤ x) (w2 : x ≤ 9223372036854775807) (W : World) (hc : ∀ i, i < zs.length → W.cell? (a.add i) = some (.int .i64 (zs.getD i 0))) :
    Calls Try.prog 5 #[.slice (some a) len cap, .int .i64 x] W fun e w' => e = .returned (.bool true) ∧ Mo W w' := by
  have ln : (zs.take len).length = len := by rw [List.length_take]; omega
  have := between_any (some a) (zs.take len) cap x W w1 w2 (fun h => by
    rw [ln] at h ⊢
    exact of_slice a zs len cap W hle hall hc (by omega))
  rwa [ln] at this
theorem between_nil (x : Int) (w1 : -9223372036854775808 ≤ x) (w2 : x ≤ 9223372036854775807) (W : World) :
    Calls Try.prog 5 #[.slice none 0 0, .int .i64 x] W fun e w' => e = .returned (.bool true) ∧ Mo W w' :=
  between_any none [] 0 x W w1 w2 (fun _ W' _ => of_empty none 0 W')
end Go.Proofs.Ytmaddbonkpfdgaa
