/- horologeref01: Floor: what it returns, in integers. -/
import Derived.Test.YtfojgjannhhbaaaRefJ
import Derived.Test.YtfojgjannhhbaaaRefG
import Derived.Test.YtfojgjannhhbaaaQTail
namespace Go.Proofs.Ytfojgjannhhbaaa
open Go.RowKit

set_option maxRecDepth 20000 in
set_option maxHeartbeats 2000000 in
theorem rfloor_pos (A n : Int) (h0 : 0 ≤ A) (h1 : A < 2 ^ 130) (n1 : 1 ≤ n) (n2 : n < 18446744073709551616) (w : World) :
    Calls Try.prog 28 #[NN false A, NN false n] w fun e w' => e = .returned (NN false (A / n)) ∧ Mo w w' := by
  have M : Hid (∀ Q : Int, 0 < Q → Q < 2 ^ 131 → ∀ w, Calls Try.prog 34 #[NN false Q, NN false n] w fun e w' => e = .returned (NN false (Q * n)) ∧ Mo w w') := Lib.hid (fun Q q0 q1 w => by
    have : Q * n ≤ 2 ^ 131 * 18446744073709551616 := Int.mul_le_mul (by omega) (by omega) (by omega) (by omega)
    have p : (2 : Int) ^ 131 * 18446744073709551616 < 65536 ^ 20 := by decide
    exact rmul_any false false Q n (by omega) (by omega) (by omega) (by omega) w)
  have C : Hid (∀ Q : Int, 0 < Q → Q < 2 ^ 131 → ∀ w, Calls Try.prog 46 #[NN false (Q * n), NN false A] w fun e w' => e = .returned (.int .i64 (cmpI (Q * n) A)) ∧ Mo w w') := Lib.hid (fun Q q0 q1 w => by
    have : Q * n ≤ 2 ^ 131 * 18446744073709551616 := Int.mul_le_mul (by omega) (by omega) (by omega) (by omega)
    have p : (2 : Int) ^ 131 * 18446744073709551616 < 65536 ^ 20 := by decide
    have z : 0 ≤ Q * n := Int.mul_nonneg (by omega) (by omega)
    have := rcmp_sg false false (Q * n) A (Sg.pos z) (Sg.pos h0) (by rw [absI_pos z]; omega) (by rw [absI_pos h0]; omega) w
    rwa [absI_pos z, absI_pos h0] at this)
  have P : Hid (∀ e : Nat, e < 16 → ∀ w, Calls Try.prog 47 #[.int .i64 e] w fun x w' => x = .returned (.int .u64 (2 ^ e)) ∧ Mo w w') := Lib.hid (fun e he w => rpower_any e (by omega) w)
  have U0 := Lib.hid (UpR.start h0 h1 n1)
  have U1 := Lib.hid (fun Q (h : UpR A n 0 Q) => h.last n1)
  have U2 := Lib.hid (fun j Q (h : UpR A n (j + 1) Q) (hj : j < 130) => h.bd hj h1 n1)
  have Z := lim_0
  clear h0 h1 n1 n2
  generalize hz : A / n = z at *
  replace hz := Lib.hid hz
  go_enter Try.func28, Try.ntmps28
  go_wp2_with fail
  go_loopw [9] (fun i wr => ∃ (j : Nat) (y Q : Int), j ≤ 130 ∧ y = (j : Int) - 1 ∧ i = .int .i64 y ∧ UpR A n j Q ∧ Mo ((((w.alloc (.cells (numC false (lim A)) 73)).alloc (.cells (numC false (lim n)) 73)).alloc (.cells (numC false (fun _ => 0)) 73)).alloc (.cells (numC false (lim Q)) 73)) wr) (fun i _ => (intOf i + 1).toNat)
  case atStart => exact ⟨130, 129, 0, by omega, by omega, rfl, U0.out, by rw [Z]; exact Mor.out⟩
  case round =>
    obtain ⟨j, y, Q, hj, hy, rfl, hU, J, d, rfl⟩ := hrel
    cases j with
    | zero =>
      obtain rfl : y = -1 := by omega
      have q := U1.out Q hU
      clear hU hy U0 U1 U2 M C P hj
      subst q
      go_wp2_with fail
      exact ret_num (w.heap.size + 2) 73 (numC false (lim Q)) Try.results28 rfl rfl ⟨rfl, Mor.out⟩
    | succ j =>
      obtain ⟨c, e, rfl, he⟩ : ∃ c e : Nat, j = 16 * c + e ∧ e < 16 := ⟨j / 16, j % 16, by omega, by omega⟩
      have c20 : c < 20 := by omega
      have y0 : 0 ≤ y := by omega
      have y1 : y ≤ 129 := by omega
      have yq : Int.tdiv y 16 = (c : Int) := by rw [Int.tdiv_eq_ediv_of_nonneg y0]; omega
      have yr : Int.tmod y 16 = (e : Int) := by rw [Int.tmod_eq_emod_of_nonneg y0]; omega
      have b := U2.out _ Q hU (by omega)
      obtain ⟨t, ht⟩ := hU.1
      have bs := bit_set Q t c e he ht
      have BS := Lib.hid bs.2.2
      have PP := Lib.hid (P.out e he)
      have ME := Lib.hid (M.out (Q + 2 ^ (16 * c + e)) b.2.2.1 b.2.2.2)
      have CE := Lib.hid (C.out (Q + 2 ^ (16 * c + e)) b.2.2.1 b.2.2.2)
      have UY := Lib.hid (fun h => hU.yes h)
      have UN := Lib.hid (fun h => hU.no h)
      have l0 := bs.1
      have l1 := bs.2.1
      have E0 : (0 : Int) < 2 ^ e := Int.pow_pos (by decide)
      have hj' : 16 * c + e ≤ 130 := by omega
      have hy' := Lib.hid hy
      clear b bs hU ht hy U0 U1 U2 M C P hj
      generalize (2 : Int) ^ (16 * c + e) = B at *
      generalize (2 : Int) ^ e = E at *
      generalize hlq : lim Q = lq at *
      replace hlq := Lib.hid hlq
      go_wp2_with fail
      refine wp_region_mo_tail 13 (by kernel_rfl) (by kernel_rfl) ?_
      simp only [List.take_succ_cons, List.take_zero, List.drop_succ_cons, List.drop_zero]
      repeat (go_big_quiet_step (first | (with_reducible exact quiet_mo (PP.out _))))
      refine wpQuiet_nil ?_
      intro _ hw'
      obtain ⟨⟨J2, d2⟩, hw''⟩ := hw'
      subst hw''
      go_wp2_with fail
      rw [← BS.out]
      clear BS PP l0 l1 E0 yq yr c20
      generalize Q + B = R at *
      generalize R * n = S at *
      by_cases cs : S ≤ A
      · have o1 : ¬ 0 < cmpI S A := by
          unfold cmpI
          split
          · decide
          · rw [if_neg (by omega)]; decide
        have UR := Lib.hid (UY.out cs)
        clear UY UN cs
        generalize cmpI S A = o at *
        go_upto_region 21 with (fail)
        refine wp_region_mo' (by kernel_rfl) (by kernel_rfl) ?_
        repeat (go_big_quiet_step (first | (with_reducible exact quiet_mo (ME.out _)) | (with_reducible exact quiet_mo (CE.out _))))
        refine wpQuiet_nil ?_
        intro _ hw'
        obtain ⟨⟨J2, d2⟩, hw''⟩ := hw'
        subst hw''
        go_wp2_with fail
        go_roundw
        case rel => exact ⟨16 * c + e, _, _, by omega, rfl, by rw [hy'.out]; go_num, UR.out, Mor.out⟩
        case measure => simp [intOf]; omega
      · have o1 : 0 < cmpI S A := by
          unfold cmpI
          rw [if_neg (by omega), if_pos (by omega)]; decide
        have UR := Lib.hid (UN.out (by omega))
        clear UY UN cs
        generalize cmpI S A = o at *
        go_upto_region 21 with (fail)
        refine wp_region_mo' (by kernel_rfl) (by kernel_rfl) ?_
        repeat (go_big_quiet_step (first | (with_reducible exact quiet_mo (ME.out _)) | (with_reducible exact quiet_mo (CE.out _))))
        refine wpQuiet_nil ?_
        intro _ hw'
        obtain ⟨⟨J2, d2⟩, hw''⟩ := hw'
        subst hw''
        go_wp2_with fail
        go_roundw
        case rel => exact ⟨16 * c + e, _, Q, by omega, rfl, by rw [hy'.out]; go_num, UR.out, by rw [hlq.out]; exact Mor.out⟩
        case measure => simp [intOf]; omega

set_option maxRecDepth 20000 in
theorem Sg.zn {x : Int} (h : x ≤ 0) : Sg true x := ⟨fun _ => rfl, fun c => by omega⟩
set_option maxRecDepth 20000 in
theorem absI_n {x : Int} (h : 0 ≤ x) : absI (-x) = x := by rw [absI_neg, absI_pos h]
set_option maxRecDepth 20000 in
set_option maxHeartbeats 2000000 in
theorem rfloor_neg (A n : Int) (h0 : 0 ≤ A) (h1 : A < 2 ^ 130) (n1 : 1 ≤ n) (n2 : n < 18446744073709551616) (w : World) :
    Calls Try.prog 28 #[NN true A, NN false n] w fun e w' => e = .returned (NN true (-(-A / n))) ∧ Mo w w' := by
  have M : Hid (∀ Q : Int, 0 ≤ Q → Q < 2 ^ 130 → ∀ w, Calls Try.prog 34 #[NN true Q, NN false n] w fun e w' => e = .returned (NN true (Q * n)) ∧ Mo w w') := Lib.hid (fun Q q0 q1 w => by
    have : Q * n ≤ 2 ^ 130 * 18446744073709551616 := Int.mul_le_mul (by omega) (by omega) (by omega) (by omega)
    have p : (2 : Int) ^ 130 * 18446744073709551616 < 65536 ^ 20 := by decide
    exact rmul_any true false Q n (by omega) (by omega) (by omega) (by omega) w)
  have C : Hid (∀ Q : Int, 0 ≤ Q → Q < 2 ^ 130 → ∀ w, Calls Try.prog 46 #[NN true (Q * n), NN true A] w fun e w' => e = .returned (.int .i64 (cmpI (-(Q * n)) (-A))) ∧ Mo w w') := Lib.hid (fun Q q0 q1 w => by
    have : Q * n ≤ 2 ^ 130 * 18446744073709551616 := Int.mul_le_mul (by omega) (by omega) (by omega) (by omega)
    have p : (2 : Int) ^ 130 * 18446744073709551616 < 65536 ^ 20 := by decide
    have z : 0 ≤ Q * n := Int.mul_nonneg (by omega) (by omega)
    have := rcmp_sg true true (-(Q * n)) (-A) (Sg.zn (by omega)) (Sg.zn (by omega)) (by rw [absI_n z]; omega) (by rw [absI_n h0]; omega) w
    rwa [absI_n z, absI_n h0] at this)
  have P : Hid (∀ e : Nat, e < 16 → ∀ w, Calls Try.prog 47 #[.int .i64 e] w fun x w' => x = .returned (.int .u64 (2 ^ e)) ∧ Mo w w') := Lib.hid (fun e he w => rpower_any e (by omega) w)
  have U0 := Lib.hid (DnR.start h0 h1 n1)
  have U1 := Lib.hid (fun Q (h : DnR A n 0 Q) => h.last n1)
  have U2 := Lib.hid (fun j Q (h : DnR A n (j + 1) Q) => h.bd)
  have Z := Lib.hid lim_0
  clear h0 h1 n1 n2
  generalize hz : -(-A / n) = z at *
  replace hz := Lib.hid hz
  go_enter Try.func28, Try.ntmps28
  go_wp2_with fail
  go_loopw [6] (fun i wr => ∃ k : Nat, k ≤ 130 ∧ i = .int .i64 k ∧ Mo ((((w.alloc (.cells (numC true (lim A)) 73)).alloc (.cells (numC false (lim n)) 73)).alloc (.cells (numC false (fun _ => 0)) 73)).alloc (.cells (numC true (lim (2 ^ k - 1))) 73)) wr) (fun i _ => 130 - (intOf i).toNat)
  case atStart => exact ⟨0, by omega, rfl, by rw [show (2 : Int) ^ 0 - 1 = 0 by decide, Z.out]; exact Mor.out⟩
  case round =>
    obtain ⟨k, hk, rfl, J, d, rfl⟩ := hrel
    by_cases ck : k < 130
    · clear U0 U1 U2 M C Z
      obtain ⟨c, e, hke, he⟩ : ∃ c e : Nat, k = 16 * c + e ∧ e < 16 := ⟨k / 16, k % 16, by omega, by omega⟩
      have c20 : c < 20 := by omega
      have yq : Int.tdiv (k : Int) 16 = (c : Int) := by rw [Int.tdiv_eq_ediv_of_nonneg (by omega)]; omega
      have yr : Int.tmod (k : Int) 16 = (e : Int) := by rw [Int.tmod_eq_emod_of_nonneg (by omega)]; omega
      have bs := bit_more c e he
      rw [← hke] at bs
      have BS := Lib.hid bs.2.2
      have PP := Lib.hid (P.out e he)
      have l0 := bs.1
      have l1 := bs.2.1
      have E0 : (0 : Int) < 2 ^ e := Int.pow_pos (by decide)
      clear bs P hke
      generalize hR : (2 : Int) ^ (k + 1) - 1 = R at *
      replace hR := Lib.hid hR
      generalize (2 : Int) ^ e = E at *
      generalize lim (2 ^ k - 1) = lq at *
      go_upto_region 7 with (fail)
      refine wp_region_mo_tail' 13 (by kernel_rfl) (by kernel_rfl) ?_
      simp only [List.take_succ_cons, List.take_zero, List.drop_succ_cons, List.drop_zero]
      repeat (go_big_quiet_step (first | (with_reducible exact quiet_mo (PP.out _))))
      refine wpQuiet_nil ?_
      intro _ hw'
      obtain ⟨⟨J2, d2⟩, hw''⟩ := hw'
      subst hw''
      go_wp2_with fail
      rw [← BS.out]
      go_roundw
      case rel => exact ⟨k + 1, by omega, by go_num, by rw [hR.out]; exact Mor.out⟩
      case measure => simp [intOf]; omega
    · obtain rfl : k = 130 := by omega
      generalize hq0 : (2 : Int) ^ 130 - 1 = q0 at *
      clear hk ck
      go_wp2_with fail
      go_loopw [7] (fun i wr => ∃ (j : Nat) (y Q : Int), j ≤ 130 ∧ y = (j : Int) - 1 ∧ i = .int .i64 y ∧ DnR A n j Q ∧ Mo ((((w.alloc (.cells (numC true (lim A)) 73)).alloc (.cells (numC false (lim n)) 73)).alloc (.cells (numC false (fun _ => 0)) 73)).alloc (.cells (numC true (lim Q)) 73)) wr) (fun i _ => (intOf i + 1).toNat)
      case atStart => exact ⟨130, 129, q0, by omega, by omega, rfl, U0.out, Mor.out⟩
      case round =>
        clear U0 J d
        obtain ⟨j, y, Q, hj, hy, rfl, hU, J, d, rfl⟩ := hrel
        cases j with
        | zero =>
          obtain rfl : y = -1 := by omega
          have q := U1.out Q hU
          clear hU hy U1 U2 M C P hj
          subst q
          go_wp2_with fail
          exact ret_num (w.heap.size + 2) 73 (numC true (lim Q)) Try.results28 rfl rfl ⟨rfl, Mor.out⟩
        | succ j =>
          obtain ⟨c, e, rfl, he⟩ : ∃ c e : Nat, j = 16 * c + e ∧ e < 16 := ⟨j / 16, j % 16, by omega, by omega⟩
          have c20 : c < 20 := by omega
          have y0 : 0 ≤ y := by omega
          have y1 : y ≤ 129 := by omega
          have yq : Int.tdiv y 16 = (c : Int) := by rw [Int.tdiv_eq_ediv_of_nonneg y0]; omega
          have yr : Int.tmod y 16 = (e : Int) := by rw [Int.tmod_eq_emod_of_nonneg y0]; omega
          have b := U2.out _ Q hU
          obtain ⟨t, ht0, ht⟩ := hU.1
          have bs := bit_clear Q t c e he ht
          have BS := Lib.hid bs.2.2
          have PP := Lib.hid (P.out e he)
          have ME := Lib.hid (M.out (Q - 2 ^ (16 * c + e)) b.2.2.1 b.2.2.2)
          have CE := Lib.hid (C.out (Q - 2 ^ (16 * c + e)) b.2.2.1 b.2.2.2)
          have UY := Lib.hid (fun h => hU.yes h)
          have UN := Lib.hid (fun h => hU.no h)
          have l0 := bs.1
          have l1 := bs.2.1
          have E0 : (0 : Int) < 2 ^ e := Int.pow_pos (by decide)
          have hj' : 16 * c + e ≤ 130 := by omega
          have hy' := Lib.hid hy
          clear b bs hU ht ht0 hy U1 U2 M C P hj hq0
          generalize (2 : Int) ^ (16 * c + e) = B at *
          generalize (2 : Int) ^ e = E at *
          generalize hlq : lim Q = lq at *
          replace hlq := Lib.hid hlq
          go_upto_region 12 with (fail)
          refine wp_region_mo_tail 13 (by kernel_rfl) (by kernel_rfl) ?_
          simp only [List.take_succ_cons, List.take_zero, List.drop_succ_cons, List.drop_zero]
          repeat (go_big_quiet_step (first | (with_reducible exact quiet_mo (PP.out _))))
          refine wpQuiet_nil ?_
          intro _ hw'
          obtain ⟨⟨J2, d2⟩, hw''⟩ := hw'
          subst hw''
          go_wp2_with fail
          rw [← BS.out]
          clear BS PP l0 l1 E0 yq yr c20
          generalize Q - B = R at *
          generalize R * n = S at *
          by_cases cs : A ≤ S
          · have o1 : ¬ 0 < cmpI (-S) (-A) := by
              unfold cmpI
              split
              · decide
              · rw [if_neg (by omega)]; decide
            have UR := Lib.hid (UY.out cs)
            clear UY UN cs
            generalize cmpI (-S) (-A) = o at *
            go_upto_region 13 with (fail)
            refine wp_region_mo' (by kernel_rfl) (by kernel_rfl) ?_
            repeat (go_big_quiet_step (first | (with_reducible exact quiet_mo (ME.out _)) | (with_reducible exact quiet_mo (CE.out _))))
            refine wpQuiet_nil ?_
            intro _ hw'
            obtain ⟨⟨J2, d2⟩, hw''⟩ := hw'
            subst hw''
            go_wp2_with fail
            go_roundw
            case rel => exact ⟨16 * c + e, _, _, by omega, rfl, by rw [hy'.out]; go_num, UR.out, Mor.out⟩
            case measure => simp [intOf]; omega
          · have o1 : 0 < cmpI (-S) (-A) := by
              unfold cmpI
              rw [if_neg (by omega), if_pos (by omega)]; decide
            have UR := Lib.hid (UN.out (by omega))
            clear UY UN cs
            generalize cmpI (-S) (-A) = o at *
            go_upto_region 13 with (fail)
            refine wp_region_mo' (by kernel_rfl) (by kernel_rfl) ?_
            repeat (go_big_quiet_step (first | (with_reducible exact quiet_mo (ME.out _)) | (with_reducible exact quiet_mo (CE.out _))))
            refine wpQuiet_nil ?_
            intro _ hw'
            obtain ⟨⟨J2, d2⟩, hw''⟩ := hw'
            subst hw''
            go_wp2_with fail
            go_roundw
            case rel => exact ⟨16 * c + e, _, Q, by omega, rfl, by rw [hy'.out]; go_num, UR.out, by rw [hlq.out]; exact Mor.out⟩
            case measure => simp [intOf]; omega
set_option maxRecDepth 20000 in
theorem rfloor_any (s : Bool) (x n : Int) (hs : Sg s x) (hx : absI x < 2 ^ 130) (n1 : 0 < n) (n2 : n < 18446744073709551616) (w : World) :
    Calls Try.prog 28 #[NN s (absI x), NN false n] w fun e w' => e = .returned (NN s (absI (x / n))) ∧ Mo w w' := by
  cases s
  · have h : 0 ≤ x := by
      rcases Int.lt_or_le x 0 with c | c
      · have := hs.1 c; cases this
      · exact c
    rw [absI_pos h] at hx ⊢
    rw [absI_pos (Int.ediv_nonneg h (by omega))]
    exact rfloor_pos x n h hx n1 n2 w
  · have h : x ≤ 0 := by
      rcases Int.lt_or_le 0 x with c | c
      · have := hs.2 c; cases this
      · exact c
    have e : absI x = -x := by rw [← absI_neg, absI_pos (by omega)]
    have q : x / n ≤ 0 := by
      have : x / n < 1 := Int.ediv_lt_of_lt_mul n1 (by omega)
      omega
    have e2 : absI (x / n) = -(x / n) := by rw [← absI_neg, absI_pos (by omega)]
    rw [e] at hx ⊢
    have := rfloor_neg (-x) n (by omega) hx n1 n2 w
    rwa [e2, show x / n = -(-x) / n by rw [Int.neg_neg]]
end Go.Proofs.Ytfojgjannhhbaaa
