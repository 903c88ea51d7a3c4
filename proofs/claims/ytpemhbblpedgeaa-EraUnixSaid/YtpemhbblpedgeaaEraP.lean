/- The moment of a stamp that is nearest to another one; plain. -/
import Derived.Test.YtpemhbblpedgeaaWide
namespace Go.Proofs.Ytpemhbblpedgeaa
open Go.RowKit

/-- which era the nearest one is, from that of the other moment -/
def unfK (s N : Int) : Int := if s - loW N < -9223372036854775808 ∧ hiW N < 9223372036854775807 then 1 else if 9223372036854775808 ≤ s - loW N ∧ -9223372036854775808 < hiW N then -1 else 0
/-- the moment of a stamp that is nearest to another one -/
def unf (s N : Int) : Int := (hiW N + unfK s N) * 18446744073709551616 + s
theorem unf_lo {s N : Int} (h0 : 0 ≤ s) (h1 : s < 18446744073709551616) : loW (unf s N) = s := by unfold unf loW; omega
theorem unf_hi {s N : Int} (h0 : 0 ≤ s) (h1 : s < 18446744073709551616) : hiW (unf s N) = hiW N + unfK s N := by unfold unf; unfold hiW; omega
theorem unf_in {s N : Int} (h0 : 0 ≤ s) (h1 : s < 18446744073709551616) (hN : InW N) : InW (unf s N) := by
  have a := hN.1
  have b := hN.2
  unfold unf unfK InW hiW loW
  split
  · omega
  · split <;> omega
theorem unf_near {s N : Int} (h0 : 0 ≤ s) (h1 : s < 18446744073709551616) (e1 : -9223372036854775808 < hiW N) (e2 : hiW N < 9223372036854775807) : cl (absI (cl (unf s N - N))) ≤ 9223372036854775808 := by
  have d : -9223372036854775808 ≤ unf s N - N ∧ unf s N - N ≤ 9223372036854775808 := by
    unfold unf unfK hiW loW at *
    split
    · omega
    · split <;> omega
  unfold cl absI minW maxW
  (repeat' split) <;> omega
theorem unf_back {w x : Int} (hw : InW w) (hx : InW x) (h : cl (absI (cl (w - x))) < 9223372036854775808) : unf (loW w) x = w := by
  have d : -9223372036854775808 < w - x ∧ w - x < 9223372036854775808 := by
    unfold cl absI minW maxW at h
    (repeat' split at h) <;> omega
  have a := hw.1
  have b := hw.2
  have a' := hx.1
  have b' := hx.2
  clear h
  unfold unf unfK hiW loW
  split
  · omega
  · split <;> omega
theorem unf_self {w : Int} : unf (loW w) w = w := by
  unfold unf unfK hiW loW
  split
  · omega
  · split <;> omega
theorem unf_mono {s a b : Int} (h0 : 0 ≤ s) (h1 : s < 18446744073709551616) (ha : InW a) (hb : InW b) (h : a ≤ b) : unf s a ≤ unf s b := by
  have a1 := ha.1
  have a2 := ha.2
  have b1 := hb.1
  have b2 := hb.2
  unfold unf unfK hiW loW
  split
  · split
    · omega
    · split <;> omega
  · split
    · split
      · omega
      · split <;> omega
    · split
      · omega
      · split <;> omega
end Go.Proofs.Ytpemhbblpedgeaa
