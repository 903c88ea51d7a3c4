/- Padded fields: plain. -/
import Derived.Test.YtbndcopeaaifdaaExtN
import Derived.Test.YtbndcopeaaifdaaPad21
namespace Go.Proofs.Ytbndcopeaaifdaa
open Go.RowKit

theorem xor_one (k : Int) (h1 : 0 ≤ k) (h2 : k ≤ 65535) : ∃ y, bits .xor .u16 k 1 = y ∧ 0 ≤ y ∧ y ≤ 65535 ∧ y ≠ k := by
  obtain ⟨x, rfl⟩ : ∃ x : Nat, k = x := ⟨k.toNat, by omega⟩
  have hx : x < 65536 := by omega
  have hy : x ^^^ 1 < 65536 := Nat.xor_lt_two_pow (n := 16) (by omega) (by decide)
  refine ⟨((x ^^^ 1 : Nat) : Int), ?_, by omega, by omega, fun e => ?_⟩
  · exact u16_xor_nat x 1 hx (by decide)
  · have e1 : x ^^^ 1 = x := by exact_mod_cast e
    have := congrArg (x ^^^ ·) e1
    simp only [Nat.xor_self, ← Nat.xor_assoc, Nat.zero_xor] at this
    omega
theorem padM_len (vs : List Int) : (padM vs).length = padL (vs.take 65528).length := by
  have : (vs.take 65528).length ≤ padL (vs.take 65528).length := by unfold padL; omega
  unfold padM
  rw [List.length_append, List.length_replicate]
  omega
theorem padM_idem (vs : List Int) : padM (padM vs) = padM vs := by
  have h := padM_len vs
  have h2 : (vs.take 65528).length ≤ 65528 := by rw [List.length_take]; omega
  have h3 : padL (vs.take 65528).length ≤ 65528 := by unfold padL; omega
  have ht : (padM vs).take 65528 = padM vs := List.take_of_length_le (by omega)
  rw [show padM (padM vs) = (padM vs).take 65528 ++ zeros (padL ((padM vs).take 65528).length - ((padM vs).take 65528).length) from rfl, ht, h]
  have : padL (padL (vs.take 65528).length) = padL (vs.take 65528).length := by unfold padL; omega
  rw [this, Nat.sub_self]
  simp
structure PadOk (p : List Int) : Prop where
  lo : 12 ≤ p.length
  four : p.length % 4 = 0
  hi : p.length ≤ 65528
theorem padM_ok (vs : List Int) : PadOk (padM vs) := by
  have h := padM_len vs
  have h2 : (vs.take 65528).length ≤ 65528 := by rw [List.length_take]; omega
  have h3 : 12 ≤ padL (vs.take 65528).length ∧ padL (vs.take 65528).length % 4 = 0 ∧ padL (vs.take 65528).length ≤ 65528 := by unfold padL; omega
  exact ⟨by omega, by omega, by omega⟩
theorem put_pad (k : Int) {p : List Int} (hp : PadOk p) : putM [⟨k, p⟩] (zeros 20) = (encM [⟨k, p⟩] ++ zeros 20, 0) := by
  have h1 := hp.lo
  have h2 := hp.four
  have h3 := hp.hi
  obtain ⟨b, hb⟩ : ∃ b, encM [⟨k, p⟩] ++ zeros 20 = b := ⟨_, rfl⟩
  have eb : b = fldB ⟨k, p⟩ ++ zeros 20 := by rw [← hb]; unfold encM; simp
  have eb2 : b = k / 256 :: k % 256 :: ((4 + p.length : Nat) : Int) / 256 :: ((4 + p.length : Nat) : Int) % 256 :: (p ++ zeros 20) := by rw [eb, fldB_app]
  have hl : b.length = 4 + p.length + 20 := by rw [eb2]; simp; omega
  have hs : sizeM b = ((4 + p.length : Nat) : Int) := by
    rw [eb2]
    show ((4 + p.length : Nat) : Int) / 256 * 256 + ((4 + p.length : Nat) : Int) % 256 = _
    omega
  have n1 : (nextM b).1 = 2 := by
    unfold nextM
    rw [if_neg (by omega), if_neg (by omega), if_neg (by omega), if_neg (by rw [hs, hl]; omega)]
  have n2 : sz b = 4 + p.length := by unfold sz; rw [hs]; omega
  have n3 : kindM b = k := by
    rw [eb2]
    show k / 256 * 256 + k % 256 = k
    omega
  have hd : b.drop (0 + (4 + p.length)) = zeros 20 := by rw [eb, Nat.zero_add]; exact List.drop_left' (fldB_len _)
  have hv : ((b.drop 0).drop 4).take (4 + p.length - 4) = p := by rw [eb2]; simp
  have e1 := parse_cons (bs := b) (a := 0) (by rw [List.drop_zero]; exact n1)
  have e2 := endF_cons (bs := b) (a := 0) (by rw [List.drop_zero]; exact n1)
  rw [List.drop_zero, n2] at e1 e2
  rw [n3] at e1
  have q1 : parse b (0 + (4 + p.length)) = [] := parse_nil (by rw [hd]; decide)
  have q2 : endF b (0 + (4 + p.length)) = 0 + (4 + p.length) := endF_nil (by rw [hd]; decide)
  rw [q1] at e1
  rw [q2] at e2
  rw [List.drop_zero] at hv
  rw [hv] at e1
  have t : takeM b = ([⟨k, p⟩], zeros 20, 0) := by
    unfold takeM
    rw [e1, e2, hd]
    rfl
  have big0 : ¬ ([⟨k, p⟩] : List Fld).any big = true := by simp [big]; omega
  unfold putM
  rw [hb, t, if_neg (by simp), if_neg big0, if_neg (by simp)]
end Go.Proofs.Ytbndcopeaaifdaa
