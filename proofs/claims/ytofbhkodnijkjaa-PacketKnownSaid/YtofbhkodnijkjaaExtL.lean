/- the document's examples, plain. -/
import Derived.Test.YtofbhkodnijkjaaExtI
namespace Go.Proofs.Ytofbhkodnijkjaa
open Go.RowKit

abbrev zeros (n : Nat) : List Int := List.replicate n 0
set_option maxRecDepth 20000 in
theorem takeM_20 : takeM (zeros 20) = ([], zeros 20, 0) := by
  have h : ¬ (nextM ((zeros 20).drop 0)).1 = 2 := by decide
  unfold takeM
  rw [parse_nil h, endF_nil h]
  rfl
set_option maxRecDepth 20000 in
theorem takeM_12 : takeM (zeros 12) = ([], [], 8) := by
  have h : ¬ (nextM ((zeros 12).drop 0)).1 = 2 := by decide
  unfold takeM
  rw [parse_nil h, endF_nil h]
  rfl
set_option maxRecDepth 20000 in
theorem takeM_one (k v : Nat) (mac : List Int) (h0 : (nextM (encM [⟨k, zeros v⟩] ++ mac)).1 = 2)
    (h1 : sz (encM [⟨k, zeros v⟩] ++ mac) = 4 + v) (h2 : kindM (encM [⟨k, zeros v⟩] ++ mac) = k) (h3 : ¬ (nextM mac).1 = 2) (h4 : ¬ (nextM mac).1 = 3) (h5 : (nextM mac).1 ≠ 1 → mac = []) : takeM (encM [⟨k, zeros v⟩] ++ mac) = ([⟨k, zeros v⟩], mac, 0) := by
  have hd : (encM [⟨k, zeros v⟩] ++ mac).drop (0 + (4 + v)) = mac := by
    rw [Nat.zero_add]
    exact List.drop_left' (by rw [encM_len]; simp [totM])
  have hv : (((encM [⟨k, zeros v⟩] ++ mac).drop 0).drop 4).take (4 + v - 4) = zeros v := by
    simp [encM, fldB]
  have e1 := parse_cons (bs := encM [⟨k, zeros v⟩] ++ mac) (a := 0) (by rw [List.drop_zero]; exact h0)
  have e2 := endF_cons (bs := encM [⟨k, zeros v⟩] ++ mac) (a := 0) (by rw [List.drop_zero]; exact h0)
  rw [List.drop_zero, h1] at e1 e2
  rw [h2] at e1
  have n1 : parse (encM [⟨k, zeros v⟩] ++ mac) (0 + (4 + v)) = [] := parse_nil (by rw [hd]; exact h3)
  have n2 : endF (encM [⟨k, zeros v⟩] ++ mac) (0 + (4 + v)) = 0 + (4 + v) := endF_nil (by rw [hd]; exact h3)
  rw [n1] at e1
  rw [n2] at e2
  rw [List.drop_zero] at hv
  rw [hv] at e1
  unfold takeM
  rw [e1, e2, hd]
  simp only [List.map_cons, List.map_nil, List.length_cons, List.length_nil]
  rw [if_neg (by decide), if_neg h4]
  by_cases c : (nextM mac).1 = 1
  · rw [if_pos c]
  · rw [if_neg c, h5 c]
set_option maxRecDepth 20000 in
theorem putM_short : putM [⟨1, zeros 12⟩] [] = ([], 2) := by
  have h : ¬ (nextM ((encM [⟨1, zeros 12⟩] ++ []).drop 0)).1 = 2 := by decide
  have h2 : (nextM ((encM [⟨1, zeros 12⟩] ++ []).drop 0)).1 = 3 := by decide
  have t : takeM (encM [⟨1, zeros 12⟩] ++ []) = ([], [], 8) := by
    unfold takeM
    rw [parse_nil h, endF_nil h]
    simp only [List.map_nil, List.length_nil]
    rw [if_neg (by decide), if_pos h2]
  unfold putM
  rw [t, if_neg (by decide), if_neg (by decide), if_pos (.inl (by decide))]
set_option maxRecDepth 20000 in
theorem putM_36 : putM [⟨1, zeros 12⟩] (zeros 20) = (encM [⟨1, zeros 12⟩] ++ zeros 20, 0) := by
  have t := takeM_one 1 12 (zeros 20) (by decide) (by decide) (by decide) (by decide) (by decide) (by decide)
  simp only [Int.natCast_one] at t
  unfold putM
  rw [t, if_neg (by decide), if_neg (by decide), if_neg (by simp)]
set_option maxRecDepth 20000 in
theorem putM_28 : putM [⟨1, zeros 24⟩] [] = (encM [⟨1, zeros 24⟩] ++ [], 0) := by
  have t := takeM_one 1 24 [] (by decide) (by decide) (by decide) (by decide) (by decide) (by decide)
  simp only [Int.natCast_one] at t
  unfold putM
  rw [t, if_neg (by decide), if_neg (by decide), if_neg (by simp)]
end Go.Proofs.Ytofbhkodnijkjaa
