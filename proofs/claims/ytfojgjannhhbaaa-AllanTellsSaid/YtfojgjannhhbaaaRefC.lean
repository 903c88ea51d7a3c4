/- horologeref01: Cmp: what it returns, in integers. -/
import Derived.Test.YtfojgjannhhbaaaRefB
namespace Go.Proofs.Ytfojgjannhhbaaa
open Go.RowKit

set_option maxRecDepth 10000 in
set_option maxHeartbeats 1000000 in
theorem rcmp_any (b c : Bool) (m n : Int) (m0 : 0 ≤ m) (m1 : m < 65536 ^ 20) (n0 : 0 ≤ n) (n1 : n < 65536 ^ 20) (w : World) :
    Calls Try.prog 46 #[NN b m, NN c n] w fun e w' => e = .returned (.int .i64 (cmpI (val b m) (val c n))) ∧ Mo w w' := by
  have ZM := Lib.hid (fun w => rzero_any true m m0 m1 w)
  have ZN := Lib.hid (fun w => rzero_any true n n0 n1 w)
  have S0 := Lib.hid (fun w => rsize_any false false m n m0 m1 n0 n1 w)
  have S1 := Lib.hid (fun w => rsize_any false true m n m0 m1 n0 n1 w)
  have S2 := Lib.hid (fun w => rsize_any true false m n m0 m1 n0 n1 w)
  have S3 := Lib.hid (fun w => rsize_any true true n m n0 n1 m0 m1 w)
  have Hm := Lib.hid m0
  have Hn := Lib.hid n0
  clear m0 m1 n0 n1
  go_enter Try.func46, Try.ntmps46
  cases b <;> cases c
  · go_wp2_with fail
    refine (S0.out _).mono ?_
    rintro e w1 ⟨rfl, J, d, rfl⟩
    go_wp2_with fail
    go_ret
    exact ⟨rfl, Mor.out⟩
  · go_wp2_with fail
    refine (ZN.out _).mono ?_
    rintro e w1 ⟨rfl, J, d, rfl⟩
    by_cases z : n = 0
    · subst z
      go_wp2_with fail
      refine (S0.out _).mono ?_
      rintro e w1 ⟨rfl, J, d, rfl⟩
      go_wp2_with fail
      go_ret
      exact ⟨rfl, Mor.out⟩
    · have hz := decide_eq_false z
      rw [hz]
      have e := Lib.hid (show cmpI (val false m) (val true n) = 1 by
        have := Hm.out; have := Hn.out
        simp only [val, cmpI]; simp; omega)
      go_wp2_with fail
      go_ret
      exact ⟨by rw [e.out]; rfl, Mor.out⟩
  · go_wp2_with fail
    refine (ZM.out _).mono ?_
    rintro e w1 ⟨rfl, J, d, rfl⟩
    by_cases z : m = 0
    · subst z
      go_wp2_with fail
      refine (S0.out _).mono ?_
      rintro e w1 ⟨rfl, J, d, rfl⟩
      go_wp2_with fail
      go_ret
      exact ⟨rfl, Mor.out⟩
    · have hz := decide_eq_false z
      rw [hz]
      have e := Lib.hid (show cmpI (val true m) (val false n) = -1 by
        have := Hm.out; have := Hn.out
        simp only [val, cmpI]; simp; omega)
      go_wp2_with fail
      go_ret
      exact ⟨by rw [e.out]; rfl, Mor.out⟩
  · go_wp2_with fail
    refine (ZM.out _).mono ?_
    rintro e w1 ⟨rfl, J, d, rfl⟩
    by_cases z : m = 0
    · subst z
      go_wp2_with fail
      refine (ZN.out _).mono ?_
      rintro e w1 ⟨rfl, J, d, rfl⟩
      by_cases z : n = 0
      · subst z
        go_wp2_with fail
        refine (S0.out _).mono ?_
        rintro e w1 ⟨rfl, J, d, rfl⟩
        go_wp2_with fail
        go_ret
        exact ⟨rfl, Mor.out⟩
      · have hz := decide_eq_false z
        rw [hz]
        have e := Lib.hid (show cmpI (val true 0) (val true n) = 1 by
          have := Hn.out
          simp only [val, cmpI]; simp; omega)
        go_wp2_with fail
        go_ret
        exact ⟨by rw [e.out]; rfl, Mor.out⟩
    · have hz := decide_eq_false z
      rw [hz]
      go_wp2_with fail
      refine (ZN.out _).mono ?_
      rintro e w1 ⟨rfl, J, d, rfl⟩
      by_cases y : n = 0
      · subst y
        have e := Lib.hid (show cmpI (val true m) (val true 0) = -1 by
          have := Hm.out
          simp only [val, cmpI]; simp; omega)
        go_wp2_with fail
        go_ret
        exact ⟨by rw [e.out]; rfl, Mor.out⟩
      · have hy := decide_eq_false y
        rw [hy]
        have e := Lib.hid (show cmpI n m = cmpI (val true m) (val true n) by simp [val, cmpI])
        go_wp2_with fail
        refine (S3.out _).mono ?_
        rintro e w1 ⟨rfl, J, d, rfl⟩
        go_wp2_with fail
        go_ret
        exact ⟨by rw [← e.out]; rfl, Mor.out⟩
end Go.Proofs.Ytfojgjannhhbaaa
