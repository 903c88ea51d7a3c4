/- acc: Join and Same; Add of a missing Acc, and of one that Of did not make. -/
import Derived.Test.YthgkhllkhhnlpaaAccS
namespace Go.Proofs.Ythgkhllkhhnlpaa
open Go.RowKit

set_option maxRecDepth 20000 in
theorem add_nil (n : Int) (W : World) : Calls Try.prog 31 #[.pointer none, .int .i64 n] W fun e w' => e = .returned (.tuple #[]) ∧ Mo W w' := by
  go_enter Try.func31, Try.ntmps31
  go_wp2_with fail
  exact bodyPost_ret (v := .tuple #[]) (by simp [results, Try.results31, go_sem]) rfl ⟨rfl, Mor.out⟩
set_option maxRecDepth 20000 in
theorem add_unmade (p : Nat) (S : St) (n : Int) (W : World) (hB : Blk W p 136 (accC false S)) : Calls Try.prog 31 #[.pointer (some ⟨p, 0, none⟩), .int .i64 n] W fun e w' => e = .returned (.tuple #[]) ∧ Mo W w' := by
  have c0 : W.cell? ⟨p, 0, none⟩ = some (.bool false) := by rw [blk_cell hB]; rfl
  clear hB
  go_enter Try.func31, Try.ntmps31
  go_wp2_with fail
  exact bodyPost_ret (v := .tuple #[]) (by simp [results, Try.results31, go_sem]) rfl ⟨rfl, Mor.out⟩

/-- what Join leaves -/
def JoinRet (S : St) (W : World) (e : Ending) (w' : World) : Prop := ∃ p, e = .returned (.pointer (some ⟨p, 0, none⟩)) ∧ W.heap.size ≤ p ∧ Blk w' p 136 (accC true S) ∧ Mo W w'
set_option maxRecDepth 20000 in
set_option maxHeartbeats 1000000 in
theorem join_ret (A B : Value) (S T : St) (m k : Int) (hS : Good S m) (hT : Good T k) (hm : m ≤ 2147483648) (hk : k ≤ 2147483648) (W : World)
    (hA : ∀ W', Mo W W' → Calls Try.prog 59 #[A] W' fun e w' => e = .returned (SV S) ∧ Mo W' w')
    (hB : ∀ W', Mo W W' → Calls Try.prog 59 #[B] W' fun e w' => e = .returned (SV T) ∧ Mo W' w') :
    Calls Try.prog 73 #[A, B] W (JoinRet (joinS S T) W) := by
  have JA := Lib.hid (fun W' => joined_any S T m k hS hT hm hk W')
  have HA := Lib.hid hA
  have HB := Lib.hid hB
  clear hA hB hS hT hm hk
  generalize joinS S T = X at *
  obtain ⟨c, w, lo, hi, s, q⟩ := S
  obtain ⟨c', w', lo', hi', s', q'⟩ := T
  obtain ⟨c2, w2, lo2, hi2, s2, q2⟩ := X
  go_enter Try.func73, Try.ntmps73
  go_wp2_with fail
  refine (HA.out _ Mor.out).mono ?_; rintro e w1 ⟨rfl, J1, d1, rfl⟩
  go_wp2_with fail
  refine (HB.out _ Mor.out).mono ?_; rintro e w1 ⟨rfl, J2, d2, rfl⟩
  go_wp2_with fail
  refine (JA.out _).mono ?_; rintro e w1 ⟨rfl, J3, d3, rfl⟩
  go_wp2_with fail
  go_ret
  exact ⟨_, rfl, Nat.le_trans (Nat.le_refl _) (by omega), inferInstance, Mor.out⟩
set_option maxRecDepth 20000 in
theorem of_at {W : World} {p : Nat} {b : Bool} {S : St} (hB : Blk W p 136 (accC b S)) : ∀ W', Mo W W' → Calls Try.prog 59 #[.pointer (some ⟨p, 0, none⟩)] W' fun e w' => e = .returned (SV S) ∧ Mo W' w' :=
  fun W' hM => of_acc p b S W' (hM.blk hB)
set_option maxRecDepth 20000 in
theorem of_none {W : World} : ∀ W', Mo W W' → Calls Try.prog 59 #[.pointer none] W' fun e w' => e = .returned (SV st0) ∧ Mo W' w' :=
  fun W' _ => of_nil W'
end Go.Proofs.Ythgkhllkhhnlpaa
