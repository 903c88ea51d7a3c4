/- horologelaw33.of: the reference's copy of the intervals. -/
import Derived.Test.YtdgmcgfkammioaaOpen33
namespace Go.Proofs.Ytdgmcgfkammioaa
open Go.RowKit

set_option maxRecDepth 20000 in
theorem snoc_iv (l : List Iv) (j : Nat) (hj : j < l.length) : ivL (l.take (j + 1)) = ivL (l.take j) ++ [.int .i64 l[j].lo, .int .i64 l[j].hi] := by rw [take_snoc l j hj, ivL_snoc]
attribute [local go_sem] blk_cell' blk_frozen'
end Go.Proofs.Ytdgmcgfkammioaa
