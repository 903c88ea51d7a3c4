/- horologeref23.Take: what bytes are as a packet, by the document (its plain part; the walk is still to come). -/
import Derived.Test.YtofbhkodnijkjaaPackA
import Derived.Test.YtofbhkodnijkjaaExtFO
import Derived.Test.YtofbhkodnijkjaaHeadG
import Derived.Test.YtofbhkodnijkjaaExtI
namespace Go.Proofs.Ytofbhkodnijkjaa
open Go.RowKit

/-- the reference's answer: the limit of fields comes ahead of bytes that are none -/
def refTakeP (bs : List Int) : Pk × Int :=
  if bs.length < 48 then (pk0, 8)
  else if 32 < (parse (bs.drop 48) 0).length then (pk0, 3)
  else if (nextM (tailOf (bs.drop 48))).1 = 3 then (pk0, 8)
  else (⟨hdOf bs, (parse (bs.drop 48) 0).map fldOf, macM (bs.drop 48)⟩, 0)
set_option maxRecDepth 20000 in
theorem refTakeP_eq (bs : List Int) : refTakeP bs = takeP bs := by
  unfold refTakeP takeP
  by_cases c : bs.length < 48
  · rw [if_pos c, if_pos c]
  rw [if_neg c, if_neg c]
  unfold takeM
  simp only [List.length_map]
  by_cases c1 : 32 < (parse (bs.drop 48) 0).length
  · rw [if_pos c1, if_pos c1]
    simp
  rw [if_neg c1, if_neg c1]
  have e : (nextM (tailOf (bs.drop 48))).1 = (nextM ((bs.drop 48).drop (endF (bs.drop 48) 0))).1 := rfl
  rw [e]
  by_cases c2 : (nextM ((bs.drop 48).drop (endF (bs.drop 48) 0))).1 = 3
  · rw [if_pos c2, if_pos c2]
    simp
  · rw [if_neg c2, if_neg c2]
    simp [macM]
end Go.Proofs.Ytofbhkodnijkjaa
