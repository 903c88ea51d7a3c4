/- What good fields are read as (plain), and the 33 fields of ExtKnown. -/
import Derived.Test.YtbndcopeaaifdaaExtL
namespace Go.Proofs.Ytbndcopeaaifdaa
open Go.RowKit

structure GoodF (x : Fld) : Prop where
  lo : 24 ≤ x.val.length
  four : x.val.length % 4 = 0
  hi : x.val.length ≤ 65528
theorem getD_app {a b : List Int} {i : Nat} (h : i < a.length) : (a ++ b).getD i 0 = a.getD i 0 := by
  simp [List.getD, List.getElem?_append_left h]
theorem fldB_app (x : Fld) (t : List Int) : fldB x ++ t = x.kind / 256 :: x.kind % 256 :: ((4 + x.val.length : Nat) : Int) / 256 :: ((4 + x.val.length : Nat) : Int) % 256 :: (x.val ++ t) := rfl
theorem next_good {x : Fld} {t : List Int} (h : GoodF x) : (nextM (fldB x ++ t)).1 = 2 ∧ sz (fldB x ++ t) = 4 + x.val.length ∧ kindM (fldB x ++ t) = x.kind := by
  have h1 := h.lo
  have h2 := h.four
  have h3 := h.hi
  have hl : (fldB x ++ t).length = 4 + x.val.length + t.length := by rw [List.length_append, fldB_len]
  have hs : sizeM (fldB x ++ t) = ((4 + x.val.length : Nat) : Int) := by
    rw [fldB_app]
    show ((4 + x.val.length : Nat) : Int) / 256 * 256 + ((4 + x.val.length : Nat) : Int) % 256 = _
    omega
  refine ⟨?_, ?_, ?_⟩
  · unfold nextM
    rw [if_neg (by omega), if_neg (by omega), if_neg (by omega), if_neg (by rw [hs, hl]; omega)]
  · unfold sz
    rw [hs]
    omega
  · rw [fldB_app]
    show x.kind / 256 * 256 + x.kind % 256 = x.kind
    omega
theorem parse_enc : ∀ (l : List Fld) (pre suf : List Int), (∀ x ∈ l, GoodF x) →
    (parse (pre ++ (encM l ++ suf)) pre.length).map fldOf = l ++ (parse (pre ++ (encM l ++ suf)) (pre.length + totM l)).map fldOf ∧ endF (pre ++ (encM l ++ suf)) pre.length = endF (pre ++ (encM l ++ suf)) (pre.length + totM l)
  | [], pre, suf, _ => ⟨by simp [totM], by simp [totM]⟩
  | x :: xs, pre, suf, hg => by
    have hx := hg x (by simp)
    have e0 : encM (x :: xs) = fldB x ++ encM xs := rfl
    have e1 : totM (x :: xs) = 4 + x.val.length + totM xs := by unfold totM; rw [List.map_cons, List.sum_cons]
    have eb : pre ++ (encM (x :: xs) ++ suf) = (pre ++ fldB x) ++ (encM xs ++ suf) := by rw [e0]; simp
    obtain ⟨i1, i2⟩ := parse_enc xs (pre ++ fldB x) suf (fun y hy => hg y (by simp [hy]))
    rw [← eb, List.length_append, fldB_len] at i1 i2
    obtain ⟨b, hb⟩ : ∃ b, pre ++ (encM (x :: xs) ++ suf) = b := ⟨_, rfl⟩
    have hd : b.drop pre.length = fldB x ++ (encM xs ++ suf) := by rw [← hb, e0, List.drop_left]; simp
    rw [hb] at i1 i2 ⊢
    obtain ⟨n1, n2, n3⟩ := next_good (t := encM xs ++ suf) hx
    rw [← hd] at n1 n2 n3
    rw [parse_cons n1, endF_cons n1, n2, e1, List.map_cons, i1, i2]
    refine ⟨?_, by rw [show pre.length + (4 + x.val.length) + totM xs = pre.length + (4 + x.val.length + totM xs) by omega]⟩
    rw [show pre.length + (4 + x.val.length) + totM xs = pre.length + (4 + x.val.length + totM xs) by omega, List.cons_append]
    congr 1
    unfold fldOf
    rw [n3, hd, fldB_app]
    simp
theorem take_enc (l : List Fld) (hg : ∀ x ∈ l, GoodF x) : (parse (encM l) 0).map fldOf = l ∧ endF (encM l) 0 = totM l := by
  have h := parse_enc l [] [] hg
  have hd : (encM l).drop (totM l) = [] := by rw [List.drop_eq_nil_iff, encM_len]; omega
  have hn : ¬ (nextM ((encM l).drop (totM l))).1 = 2 := by rw [hd]; decide
  simp only [List.nil_append, List.append_nil, List.length_nil, Nat.zero_add] at h
  rw [parse_nil hn, endF_nil hn, List.map_nil, List.append_nil] at h
  exact h
abbrev mF (i : Nat) : Fld := ⟨i, zeros 24⟩
def manyL (a n : Nat) : List Fld := (List.range n).map fun i => mF (a + i)
theorem manyL_good {a n : Nat} : ∀ x ∈ manyL a n, GoodF x := by
  intro x hx
  obtain ⟨i, _, rfl⟩ := List.mem_map.1 hx
  exact ⟨by simp, by simp, by simp⟩
theorem manyL_tot (a n : Nat) : totM (manyL a n) = n * 28 := by
  unfold totM manyL
  rw [List.map_map]
  induction n with
  | zero => rfl
  | succ n ih => rw [List.range_succ, List.map_append, List.sum_append, ih]; simp; omega
theorem putM_many : putM (manyL 1 32) [] = (encM (manyL 1 32), 0) := by
  obtain ⟨h1, h2⟩ := take_enc (manyL 1 32) manyL_good
  have h3 := manyL_tot 1 32
  have hd : (encM (manyL 1 32)).drop (totM (manyL 1 32)) = [] := by rw [List.drop_eq_nil_iff, encM_len]; omega
  have t0 : (takeM (encM (manyL 1 32))).2.2 = 0 := by
    rw [takeM_ok]
    rw [h2, hd]
    refine ⟨?_, by decide⟩
    have := congrArg List.length h1
    rw [List.length_map] at this
    rw [this]
    simp [manyL]
  have t1 := takeM_val t0
  have t2 : macM (encM (manyL 1 32)) = [] := by
    unfold macM
    rw [h2, hd]
    rfl
  rw [t2, h1] at t1
  have big0 : ¬ (manyL 1 32).any big = true := by
    intro h
    obtain ⟨x, hx, hb⟩ := List.any_eq_true.1 h
    have := (manyL_good x hx)
    obtain ⟨i, _, rfl⟩ := List.mem_map.1 hx
    simp [big] at hb
  unfold putM
  rw [if_neg (by simp [manyL]), if_neg big0, List.append_nil, t1, if_neg (by simp)]
theorem take_many : takeM (encM (manyL 1 32) ++ (encM (manyL 1 32)).take 28) = ([], [], 3) := by
  have e1 : (encM (manyL 1 32)).take 28 = encM [mF 1] := by decide +kernel
  have e2 : encM (manyL 1 32) ++ encM [mF 1] = encM (manyL 1 32 ++ [mF 1]) := by unfold encM; rw [List.flatMap_append]
  rw [e1, e2]
  obtain ⟨h1, _⟩ := take_enc (manyL 1 32 ++ [mF 1]) (fun x hx => by
    rcases List.mem_append.1 hx with h | h
    · exact manyL_good x h
    · obtain rfl : x = _ := by simpa using h
      exact ⟨by simp, by simp, by simp⟩)
  have := congrArg List.length h1
  rw [List.length_map] at this
  unfold takeM
  simp only [List.length_map]
  rw [this, if_pos (by simp [manyL])]
theorem take_nil : takeM [] = ([], [], 0) := by
  have h : ¬ (nextM (([] : List Int).drop 0)).1 = 2 := by decide
  unfold takeM
  rw [parse_nil h, endF_nil h]
  rfl
end Go.Proofs.Ytbndcopeaaifdaa
