/- horologeref31.Told: what it returns, in integers. -/
import Derived.Test.YthgkhllkhhnlpaaRefZ
import Derived.Test.YthgkhllkhhnlpaaAccS
namespace Go.Proofs.Ythgkhllkhhnlpaa
open Go.RowKit

set_option maxRecDepth 20000 in
theorem addN_wild {S : St} {x : Int} (h : ¬ Tame x) : addN S x = ⟨S.c, S.w + 1, S.lo, S.hi, S.s, S.q⟩ := by unfold addN; rw [if_neg h]
set_option maxRecDepth 20000 in
theorem addN_first {S : St} {m x : Int} (hS : Good S m) (h : Tame x) (c : S.c = 0) : addN S x = ⟨S.c + 1, S.w, x, x, S.s + x, x * x⟩ := by
  unfold addN joinS single
  rw [if_pos h, if_pos c, (hS.z c).2.2.1, c]
  simp
set_option maxRecDepth 20000 in
theorem addN_more {S : St} {x : Int} (h : Tame x) (c : S.c ≠ 0) : addN S x = ⟨S.c + 1, S.w, minI S.lo x, maxI S.hi x, S.s + x, S.q + x * x⟩ := by
  unfold addN joinS single
  rw [if_pos h, if_neg c]
  simp
/-- the squares from m, together -/
def farAt (S : St) (m : Int) : Int := S.q - 2 * m * S.s + S.c * (m * m)
set_option maxRecDepth 20000 in
theorem farAt_add {S : St} {k : Int} (hS : Good S k) (m x : Int) : farAt (addN S x) m = if Tame x then farAt S m + (x - m) * (x - m) else farAt S m := by
  by_cases h : Tame x
  · rw [if_pos h]
    have e : (x - m) * (x - m) = x * x - 2 * (m * x) + m * m := by
      rw [Int.sub_mul, Int.mul_sub, Int.mul_sub, Int.mul_comm x m]; omega
    by_cases c : S.c = 0
    · obtain ⟨z1, z2, z3, z4⟩ := hS.z c
      rw [addN_first hS h c]
      unfold farAt
      simp only
      rw [z3, z4, c, e, Int.mul_assoc 2]
      simp
    · rw [addN_more h c]
      unfold farAt
      simp only
      rw [e, Int.mul_add, Int.add_mul, Int.mul_assoc 2 m x]
      omega
  · rw [if_neg h, addN_wild h]; rfl
set_option maxRecDepth 20000 in
theorem farAt_bd {S : St} {k : Int} (hS : Good S k) (hk : k ≤ 2147483648) (m : Int) (m1 : -140737488355328 ≤ m) (m2 : m ≤ 140737488355328) : 0 ≤ farAt S m ∧ farAt S m ≤ 170141183460469231731687303715884105728 := by
  obtain ⟨a, b⟩ := hS.var (-140737488355328) 140737488355328 m hS.lo hS.hi m1 m2
  refine ⟨a, ?_⟩
  have c0 := hS.c0
  have cw := hS.cw
  have w0 := hS.w0
  have : S.c * ((140737488355328 - -140737488355328) * (140737488355328 - -140737488355328)) ≤ 2147483648 * 79228162514264337593543950336 := Int.mul_le_mul (by omega) (by decide) (by decide) (by omega)
  unfold farAt
  omega
set_option maxRecDepth 20000 in
theorem lt_19 {x : Int} (h : x ≤ 340282366920938463463374607431768211456) : x < 65536 ^ 19 := by
  have : (340282366920938463463374607431768211456 : Int) < 65536 ^ 19 := by decide
  omega
set_option maxRecDepth 20000 in
theorem absI_le {x B : Int} (h1 : -B ≤ x) (h2 : x ≤ B) : absI x ≤ B := by unfold absI; split <;> omega
abbrev outC (c w lo hi me sp : Int) : Array Value := #[.int .i64 c, .int .i64 w, .int .i64 lo, .int .i64 hi, .int .i64 me, .int .u64 sp]
set_option maxRecDepth 20000 in
theorem foldT : #[Value.int .i64 0, .int .i64 0, .int .i64 0, .int .i64 0, .int .i64 0, .int .u64 0] = outC 0 0 0 0 0 0 := rfl
set_option maxRecDepth 20000 in
theorem take_sum (l : List Int) (k : Nat) (hk : k < l.length) {S : St} (h : sumL (l.take k) = S) : sumL (l.take (k + 1)) = addN S (l.getD k 0) := by rw [← h]; exact sumL_snoc l k hk

set_option maxRecDepth 20000 in
theorem lt_130 {x : Int} (h : x ≤ 170141183460469231731687303715884105728) : x < 2 ^ 130 := by
  have : (170141183460469231731687303715884105728 : Int) < 2 ^ 130 := by decide
  omega
set_option maxRecDepth 20000 in
theorem u64_20' {n : Int} (h : n ≤ 79228162514264337593543950336) : n < 65536 ^ 20 := by
  have : (79228162514264337593543950336 : Int) < 65536 ^ 20 := by decide
  omega
set_option maxRecDepth 20000 in
theorem sg_floor {sg : Bool} {s c : Int} (h : Sg sg s) (hc : 0 < c) : Sg sg (s / c) :=
  ⟨fun k => h.1 (by
    rcases Int.lt_or_le s 0 with d | d
    · exact d
    · have := Int.ediv_nonneg d (by omega : 0 ≤ c); omega), fun k => h.2 (by
    rcases Int.lt_or_le 0 s with d | d
    · exact d
    · have : s / c ≤ 0 := by
        have := Int.ediv_le_ediv hc d
        simpa using this
      omega)⟩
set_option maxRecDepth 20000 in
theorem self_more (w : World) : w = more w #[] w.drawn := by simp [more]
set_option maxRecDepth 20000 in
set_option maxHeartbeats 8000000 in
theorem rtold_at (T : Value) (l : List Int) (g off cap : Nat) (W : World) (hTV : Hid (TV (sumL l) = T)) (hl : l.length ≤ 2147483648) (hp : 0 < l.length) (hc : ∀ j, j < l.length → W.cell? ⟨g, off + j, none⟩ = some (.int .i64 (l.getD j 0))) :
    Calls Try.prog 38 #[.slice (some ⟨g, off, none⟩) l.length cap] W fun e w' => e = .returned T ∧ Mo W w' := by
  have LG : LtW g W := LtW.of_cell (hc 0 hp)
  have HC := Lib.hid hc
  have GT := Lib.hid (fun k (hk : k ≤ l.length) => good_take l k hk)
  have TS := Lib.hid (take_sum l)
  clear hc
  obtain ⟨n, hn⟩ : ∃ n, l.length = n := ⟨_, rfl⟩
  rw [hn] at hp hl HC GT TS ⊢
  have HT : Hid (sumL (l.take n) = sumL l) := Lib.hid (by rw [← hn, List.take_length])
  have H0 : Hid (sumL (l.take 0) = ⟨0, 0, 0, 0, 0, 0⟩) := Lib.hid (by rw [List.take_zero]; rfl)
  have HL : Hid (l.length = n) := Lib.hid hn
  clear hn
  have O0 := Lib.hid (fun w => rof_any 0 (by decide) (by decide) w)
  rw [show decide ((0 : Int) < 0) = false by decide, show absI 0 = 0 by decide] at O0
  go_enter Try.func38, Try.ntmps38
  go_wp2_with fail
  refine (O0.out _).mono ?_; rintro e w1 ⟨rfl, J0, d0, rfl⟩
  go_wp2_with fail
  rw [foldT]
  go_loopw [5] (fun i wr => ∃ (k : Nat) (S : St) (sg : Bool) (J : Array Obj) (d : Nat), k ≤ n ∧ i = .int .i64 k ∧ Hid (sumL (l.take k) = S) ∧ Sg sg S.s ∧ wr = more ((more ((W.alloc (.cells (outC 0 0 0 0 0 0) 58)).alloc (.cells (outC S.c S.w S.lo S.hi 0 0) 58)) J0 d0).alloc (.cells (numC sg (lim (absI S.s))) 156)) J d) (fun i _ => n - (intOf i).toNat)
  case atStart => exact ⟨0, ⟨0, 0, 0, 0, 0, 0⟩, false, #[], _, by omega, rfl, H0, Sg.pos (by decide), self_more _⟩
  case round =>
    obtain ⟨k, S, sg, J, d, hk, rfl, hS, hsg, rfl⟩ := hrel
    by_cases ck : k < n
    · have ce := HC.out k ck
      have HN := Lib.hid (TS.out k ck hS.out)
      have gS := GT.out k (by omega)
      rw [hS.out] at gS
      have GS := Lib.hid gS
      obtain ⟨x, hx⟩ : ∃ x, l.getD k 0 = x := ⟨_, rfl⟩
      rw [hx] at ce HN
      have T1 := Lib.hid (tame_any x)
      clear hx
      by_cases ht : Tame x
      · rw [decide_eq_true ht] at T1
        have b1 := gS.c0
        have b2 := gS.w0
        have b3 := gS.cw
        have b4 := gS.lo
        have b5 := gS.lh
        have b6 := gS.hi
        have t1 := ht.1
        have t2 := ht.2
        obtain ⟨s1, s2⟩ := gS.sIn (by omega)
        have OX := Lib.hid (fun w => rof_any x (by omega) (by omega) w)
        have AX := Lib.hid (fun w => radd_any sg (decide (x < 0)) S.s x hsg (Sg.dec x) (lt_19 (by have := absI_le (x := S.s) (B := 302231454903657293676544) (by omega) (by omega); omega)) (lt_19 (by have := absI_le (x := x) (B := 140737488355328) (by omega) (by omega); omega)) w)
        have HSG := Lib.hid (addS_sg hsg (Sg.dec x))
        generalize addS sg (decide (x < 0)) S.s x = sg' at *
        have HT2 := Lib.hid ht
        clear ht s1 s2 hsg
        by_cases c0 : S.c = 0
        · have HN2 := Lib.hid (HN.out.trans (addN_first GS.out HT2.out c0))
          clear HN gS GS HT2
          obtain ⟨c, w, lo, hi, s, q⟩ := S
          simp only at b1 b2 b3 b4 b5 b6 c0 HN2 AX HSG OX
          subst c0
          simp only [Int.zero_add] at HN2
          go_wp2_with fail
          refine (T1.out _).mono ?_; rintro e w1 ⟨rfl, rfl⟩
          go_wp2_with fail
          refine wp_region_mo' (by kernel_rfl) (by kernel_rfl) ?_
          repeat (go_big_quiet_step (fail))
          refine wpQuiet_nil ?_
          intro _ hw'
          obtain ⟨⟨JQ, dQ⟩, hw''⟩ := hw'
          subst hw''
          go_wp2_with fail
          refine wp_region_mo' (by kernel_rfl) (by kernel_rfl) ?_
          repeat (go_big_quiet_step (fail))
          refine wpQuiet_nil ?_
          intro _ hw'
          obtain ⟨⟨JQ, dQ⟩, hw''⟩ := hw'
          subst hw''
          go_wp2_with fail
          refine wp_region_mo_tail' 7 (by kernel_rfl) (by kernel_rfl) ?_
          simp only [List.take_succ_cons, List.take_zero, List.drop_succ_cons, List.drop_zero]
          repeat (go_big_quiet_step (first | (with_reducible exact quiet_mo (OX.out _)) | (with_reducible exact quiet_mo (AX.out _))))
          refine wpQuiet_nil ?_
          intro _ hw'
          obtain ⟨⟨J9, d9⟩, hw''⟩ := hw'
          subst hw''
          go_wp2_with fail
          go_roundw
          case rel => exact ⟨k + 1, _, _, _, _, by omega, by go_num, HN2, HSG.out, rfl⟩
          case measure => simp [intOf]; omega
        · have HN2 := Lib.hid (HN.out.trans (addN_more HT2.out c0))
          clear HN gS GS HT2
          obtain ⟨c, w, lo, hi, s, q⟩ := S
          simp only at b1 b2 b3 b4 b5 b6 c0 HN2 AX HSG OX
          have c0' : (c == 0) = false := by simpa using c0
          rcases (show x < lo ∨ (¬ x < lo ∧ hi < x) ∨ (¬ x < lo ∧ ¬ hi < x) by omega) with x1 | ⟨x1, x2⟩ | ⟨x1, x2⟩
          · rw [show minI lo x = x by unfold minI; split <;> omega, show maxI hi x = hi by unfold maxI; split <;> omega] at HN2
            have x2' : decide (hi < x) = false := by simp; omega
            go_wp2_with fail
            refine (T1.out _).mono ?_; rintro e w1 ⟨rfl, rfl⟩
            go_wp2_with fail
            refine wp_region_mo' (by kernel_rfl) (by kernel_rfl) ?_
            repeat (go_big_quiet_step (fail))
            refine wpQuiet_nil ?_
            intro _ hw'
            obtain ⟨⟨JQ, dQ⟩, hw''⟩ := hw'
            subst hw''
            go_wp2_with fail
            refine wp_region_mo' (by kernel_rfl) (by kernel_rfl) ?_
            repeat (go_big_quiet_step (fail))
            refine wpQuiet_nil ?_
            intro _ hw'
            obtain ⟨⟨JQ, dQ⟩, hw''⟩ := hw'
            subst hw''
            go_wp2_with fail
            refine wp_region_mo_tail' 7 (by kernel_rfl) (by kernel_rfl) ?_
            simp only [List.take_succ_cons, List.take_zero, List.drop_succ_cons, List.drop_zero]
            repeat (go_big_quiet_step (first | (with_reducible exact quiet_mo (OX.out _)) | (with_reducible exact quiet_mo (AX.out _))))
            refine wpQuiet_nil ?_
            intro _ hw'
            obtain ⟨⟨J9, d9⟩, hw''⟩ := hw'
            subst hw''
            go_wp2_with fail
            go_roundw
            case rel => exact ⟨k + 1, _, _, _, _, by omega, by go_num, HN2, HSG.out, rfl⟩
            case measure => simp [intOf]; omega
          · rw [show minI lo x = lo by unfold minI; split <;> omega, show maxI hi x = x by unfold maxI; split <;> omega] at HN2
            have x1' : decide (x < lo) = false := by simp; omega
            go_wp2_with fail
            refine (T1.out _).mono ?_; rintro e w1 ⟨rfl, rfl⟩
            go_wp2_with fail
            refine wp_region_mo' (by kernel_rfl) (by kernel_rfl) ?_
            repeat (go_big_quiet_step (fail))
            refine wpQuiet_nil ?_
            intro _ hw'
            obtain ⟨⟨JQ, dQ⟩, hw''⟩ := hw'
            subst hw''
            go_wp2_with fail
            refine wp_region_mo' (by kernel_rfl) (by kernel_rfl) ?_
            repeat (go_big_quiet_step (fail))
            refine wpQuiet_nil ?_
            intro _ hw'
            obtain ⟨⟨JQ, dQ⟩, hw''⟩ := hw'
            subst hw''
            go_wp2_with fail
            refine wp_region_mo_tail' 7 (by kernel_rfl) (by kernel_rfl) ?_
            simp only [List.take_succ_cons, List.take_zero, List.drop_succ_cons, List.drop_zero]
            repeat (go_big_quiet_step (first | (with_reducible exact quiet_mo (OX.out _)) | (with_reducible exact quiet_mo (AX.out _))))
            refine wpQuiet_nil ?_
            intro _ hw'
            obtain ⟨⟨J9, d9⟩, hw''⟩ := hw'
            subst hw''
            go_wp2_with fail
            go_roundw
            case rel => exact ⟨k + 1, _, _, _, _, by omega, by go_num, HN2, HSG.out, rfl⟩
            case measure => simp [intOf]; omega
          · rw [show minI lo x = lo by unfold minI; split <;> omega, show maxI hi x = hi by unfold maxI; split <;> omega] at HN2
            have x1' : decide (x < lo) = false := by simp; omega
            have x2' : decide (hi < x) = false := by simp; omega
            go_wp2_with fail
            refine (T1.out _).mono ?_; rintro e w1 ⟨rfl, rfl⟩
            go_wp2_with fail
            refine wp_region_mo' (by kernel_rfl) (by kernel_rfl) ?_
            repeat (go_big_quiet_step (fail))
            refine wpQuiet_nil ?_
            intro _ hw'
            obtain ⟨⟨JQ, dQ⟩, hw''⟩ := hw'
            subst hw''
            go_wp2_with fail
            refine wp_region_mo' (by kernel_rfl) (by kernel_rfl) ?_
            repeat (go_big_quiet_step (fail))
            refine wpQuiet_nil ?_
            intro _ hw'
            obtain ⟨⟨JQ, dQ⟩, hw''⟩ := hw'
            subst hw''
            go_wp2_with fail
            refine wp_region_mo_tail' 7 (by kernel_rfl) (by kernel_rfl) ?_
            simp only [List.take_succ_cons, List.take_zero, List.drop_succ_cons, List.drop_zero]
            repeat (go_big_quiet_step (first | (with_reducible exact quiet_mo (OX.out _)) | (with_reducible exact quiet_mo (AX.out _))))
            refine wpQuiet_nil ?_
            intro _ hw'
            obtain ⟨⟨J9, d9⟩, hw''⟩ := hw'
            subst hw''
            go_wp2_with fail
            go_roundw
            case rel => exact ⟨k + 1, _, _, _, _, by omega, by go_num, HN2, HSG.out, rfl⟩
            case measure => simp [intOf]; omega
      · rw [decide_eq_false ht] at T1
        have HN2 := Lib.hid (HN.out.trans (addN_wild ht))
        have b2 := gS.w0
        have b3 := gS.cw
        have b1 := gS.c0
        clear HN gS GS
        obtain ⟨c, w, lo, hi, s, q⟩ := S
        simp only at b1 b2 b3 hsg HN2
        go_wp2_with fail
        refine (T1.out _).mono ?_; rintro e w1 ⟨rfl, rfl⟩
        go_wp2_with fail
        go_roundw
        case rel => exact ⟨k + 1, _, sg, J, _, by omega, by go_num, HN2, hsg, rfl⟩
        case measure => simp [intOf]; omega
    · obtain rfl : k = n := by omega
      have gS := GT.out k (by omega)
      have hS2 := hS.out
      rw [hS2] at gS
      rw [HT.out] at hS2
      have hSS := Lib.hid hS2
      clear hS2 TS
      have hT2 := hTV.out
      rw [hSS.out] at hT2
      clear hTV
      by_cases c0 : S.c = 0
      · have e1 : meanS S = 0 := by unfold meanS; rw [c0, Int.ediv_zero]
        have e2 : spreadS S = 0 := by unfold spreadS; rw [c0, Int.ediv_zero, rootV_0]
        unfold TV at hT2
        rw [e1, e2] at hT2
        clear e1 e2 hSS HT gS hS hsg
        obtain ⟨c, w, lo, hi, s, q⟩ := S
        simp only at c0 hT2
        subst c0
        have HT2 := Lib.hid hT2
        clear hT2
        go_wp2_with fail
        exact bodyPost_ret (v := .agg (outC 0 w lo hi 0 0)) (by simp [results, Try.results38, go_sem]) rfl ⟨congrArg Ending.returned HT2.out, Mor.out⟩
      · have cp : 0 < S.c := by have := gS.c0; omega
        obtain ⟨mb1, mb2⟩ := mean_bd gS cp
        have b4 := gS.lo
        have b6 := gS.hi
        have b3 := gS.cw
        have b2 := gS.w0
        obtain ⟨s1, s2⟩ := gS.sIn (by omega)
        have OC := Lib.hid (fun w => rof_any S.c (by omega) (by omega) w)
        rw [show decide (S.c < 0) = false by simp; omega, show absI S.c = S.c by unfold absI; rw [if_neg (by omega)]] at OC
        have FL := Lib.hid (fun w => rfloor_any sg S.s S.c hsg (lt_130 (by have := absI_le (x := S.s) (B := 302231454903657293676544) (by omega) (by omega); omega)) cp (by omega) w)
        have WD := Lib.hid (fun w => rwide_any sg (S.s / S.c) (sg_floor hsg cp) (by have := absI_le (x := S.s / S.c) (B := 140737488355328) (by show -140737488355328 ≤ meanS S; omega) (by show meanS S ≤ _; omega); exact u64_20 (by omega)) w)
        have hme : S.s / S.c = meanS S := rfl
        rw [hme] at FL WD
        rw [cl_in (by unfold InW; omega)] at WD
        have CP := Lib.hid (fun w => rclip_any (meanS S) (by unfold InW; omega) w)
        rw [clip_in (by omega) (by omega)] at CP
        have fd := far_bd gS cp
        have hfar : farAt S (meanS S) = farS S := rfl
        have hspr : spreadS S = rootV (farS S / S.c) := rfl
        have hfc : farS S / S.c ≤ 79228162514264337593543950336 := by
          have h1 : (S.hi - S.lo) * (S.hi - S.lo) ≤ 281474976710656 * 281474976710656 := Int.mul_le_mul (by omega) (by omega) (by have := gS.lh; omega) (by decide)
          have : farS S / S.c < 79228162514264337593543950336 + 1 := Int.ediv_lt_of_lt_mul cp (by
            have h2 : S.c * ((S.hi - S.lo) * (S.hi - S.lo)) ≤ S.c * 79228162514264337593543950336 := Int.mul_le_mul_of_nonneg_left (by omega) (by omega)
            rw [Int.add_mul, Int.mul_comm]
            omega)
          omega
        have hfc0 : 0 ≤ farS S / S.c := Int.ediv_nonneg fd.1 (by omega)
        have RT := Lib.hid (fun w => rroot_any (farS S / S.c) (by unfold InW; omega) hfc0 w)
        have FB := Lib.hid (fun j (hj : j ≤ k) => farAt_bd (GT.out j hj) (by omega) (meanS S) (by omega) (by omega))
        have FA := Lib.hid (fun j (hj : j ≤ k) => farAt_add (GT.out j hj) (meanS S))
        have FL2 := Lib.hid (fun w => rfloor_any false (farS S) S.c (Sg.pos fd.1) (lt_130 (by rw [absI_pos fd.1, ← hfar]; have := (farAt_bd gS (by omega) (meanS S) (by omega) (by omega)).2; omega)) cp (by omega) w)
        rw [absI_pos fd.1, absI_pos hfc0] at FL2
        have HF : Hid (farAt (sumL (l.take k)) (meanS S) = farS S) := Lib.hid (by rw [hS.out]; rfl)
        unfold TV at hT2
        rw [hspr] at hT2
        have F0 : Hid (farAt (sumL (l.take 0)) (meanS S) = 0) := Lib.hid (by rw [H0.out]; simp [farAt])
        clear hspr hfar hfc hme fd s1 s2 gS hS hSS hsg HT H0
        generalize farS S = F at *
        generalize meanS S = me at *
        obtain ⟨c, w, lo, hi, s, q⟩ := S
        simp only at cp b2 b3 b4 b6 hT2 OC FL FL2 RT c0 mb1 mb2 WD hfc0
        generalize F / c = fc at *
        have HT2 := Lib.hid hT2
        have c0' : (c == 0) = false := by simpa using c0
        clear hT2 hfc0 c0
        generalize rootV fc = sp at *
        go_wp2_with fail
        refine (OC.out _).mono ?_; rintro e w1 ⟨rfl, J1, d1, rfl⟩
        go_wp2_with fail
        refine (FL.out _).mono ?_; rintro e w1 ⟨rfl, J2, d2, rfl⟩
        go_wp2_with fail
        refine (WD.out _).mono ?_; rintro e w1 ⟨rfl, J3, d3, rfl⟩
        go_wp2_with fail
        refine (CP.out _).mono ?_; rintro e w1 ⟨rfl, J4, d4, rfl⟩
        go_wp2_with fail
        refine (O0.out _).mono ?_; rintro e w1 ⟨rfl, J5, d5, rfl⟩
        go_wp2_with fail
        go_loopw [8] (fun i wr => ∃ (j : Nat) (F' : Int), j ≤ k ∧ i = .int .i64 j ∧ Hid (farAt (sumL (l.take j)) me = F') ∧ Mo ((more ((more ((more ((W.alloc (.cells (outC 0 0 0 0 0 0) 58)).alloc (.cells (outC c w lo hi me 0) 58)) J0 d0).alloc (.cells (numC sg (lim (absI s))) 156)) (J ++ J1) d1).alloc (.cells (numC false (lim c)) 156)) (J2 ++ (J3 ++ (J4 ++ J5))) d5).alloc (.cells (numC false (lim F')) 156)) wr) (fun i _ => k - (intOf i).toNat)
        case atStart => exact ⟨0, 0, by omega, rfl, F0, Mo.refl _⟩
        case round =>
          obtain ⟨j, F', hj, rfl, hF', JZ, dZ, rfl⟩ := hrel
          by_cases cj : j < k
          · have ce := HC.out j cj
            have gj := GT.out j (by omega)
            have hN := FA.out j (by omega) (l.getD j 0)
            rw [← take_sum l j (by rw [HL.out]; exact cj) rfl, hF'.out] at hN
            have fb := FB.out j (by omega)
            rw [hF'.out] at fb
            obtain ⟨f1, f2⟩ := fb
            obtain ⟨x, hx⟩ : ∃ x, l.getD j 0 = x := ⟨_, rfl⟩
            rw [hx] at ce hN
            have T1 := Lib.hid (tame_any x)
            clear hx hF' F0 gj
            by_cases ht : Tame x
            · rw [if_pos ht] at hN
              rw [decide_eq_true ht] at T1
              obtain ⟨t1, t2⟩ := ht
              have dd := sq_nn (x - me)
              have dd2 : (x - me) * (x - me) ≤ 281474976710656 * 281474976710656 := sq_bd (by omega) (by omega)
              have OX := Lib.hid (fun w => rof_any (x - me) (by omega) (by omega) w)
              have MX := Lib.hid (fun w => rmul_sg (decide (x - me < 0)) (decide (x - me < 0)) (x - me) (x - me) (u64_20 (by have := absI_le (x := x - me) (B := 281474976710656) (by omega) (by omega); omega)) (by rw [← absI_mul, absI_pos dd]; exact u64_20' (by omega)) w)
              have AX := Lib.hid (fun w => radd_any false false F' ((x - me) * (x - me)) (Sg.pos f1) (Sg.pos dd) (lt_19 (by rw [absI_pos f1]; omega)) (lt_19 (by rw [absI_pos dd]; omega)) w)
              rw [absI_pos dd, bne_self_eq_false] at MX
              rw [absI_pos f1, absI_pos dd, absI_pos (by omega), show addS false false F' ((x - me) * (x - me)) = false by simp [addS]] at AX
              have HN := Lib.hid hN
              clear hN dd dd2 f1 f2
              generalize (x - me) * (x - me) = sq at *
              generalize decide (x - me < 0) = sd at *
              generalize absI (x - me) = ad at *
              go_wp2_with fail
              refine (T1.out _).mono ?_; rintro e w1 ⟨rfl, rfl⟩
              go_wp2_with fail
              refine wp_name ?_
              intro V hV
              have k0 : V.cell? ⟨g, off + j, none⟩ = some (.int .i64 x) := by rw [hV]; simp [go_sem, ce]
              have k1 : V.cell? ⟨W.heap.size + 1, 4, none⟩ = some (.int .i64 me) := by rw [hV]; simp [go_sem]
              have HV := Lib.hid hV
              clear hV
              have LG' : LtW g V := LtW.of_cell k0
              have L4 : LtW (W.heap.size + 1) V := LtW.of_cell k1
              go_cut [9] (fun s9 wx => ∃ p, s9 = .pointer (some ⟨p, 0, none⟩) ∧ V.heap.size ≤ p ∧ Blk wx p 156 (numC sd (lim ad)) ∧ Mo V wx)
              case first =>
                have wx : IntKind.i64.wrap (x - me) = x - me := by rw [IntKind.wrap_i64]; omega
                as_aux_lemma =>
                  go_region_held3 (fun w' => w'.cell? ⟨g, off + j, none⟩ = some (.int .i64 x) ∧ w'.cell? ⟨W.heap.size + 1, 4, none⟩ = some (.int .i64 me)) (simp [go_sem, k0, k1])
                    (first
                    | ((with_reducible refine (OX.out _).mono ?_); rintro e w1 ⟨rfl, J3, d3, rfl⟩))
                  all_goals (go_wp2_with fail; go_meet; exact ⟨_, rfl, by first | exact Nat.le_refl _ | exact Nat.le_add_right _ _, inferInstance, Mor.out⟩)
              obtain ⟨p9, rfl, hp9, B9, hM⟩ := hcut
              obtain ⟨J6, J7, d6, d7, rfl, hwc⟩ := mo_split hM B9 hp9
              clear hp9 B9 hM k0 k1 LG' L4
              have e9 : V.heap.size + J6.size = W.heap.size + 1 + 1 + J0.size + 1 + (J.size + J1.size) + 1 + (J2.size + (J3.size + (J4.size + J5.size))) + 1 + (JZ.size + J6.size) := by rw [HV.out]; simp [go_sem, Nat.add_assoc]
              rw [e9]
              clear e9
              obtain rfl := HV.out
              clear HV
              subst hwc
              go_wp2_with fail
              refine wp_region_mo_tail' 5 (by kernel_rfl) (by kernel_rfl) ?_
              simp only [List.take_succ_cons, List.take_zero, List.drop_succ_cons, List.drop_zero]
              repeat (go_big_quiet_step (first | (with_reducible exact quiet_mo (MX.out _)) | (with_reducible exact quiet_mo (AX.out _))))
              refine wpQuiet_nil ?_
              intro _ hw'
              obtain ⟨⟨J9, d9⟩, hw''⟩ := hw'
              subst hw''
              go_wp2_with fail
              go_roundw
              case rel => exact ⟨j + 1, _, by omega, by go_num, HN, Mor.out⟩
              case measure => simp [intOf]; omega
            · rw [if_neg ht] at hN
              rw [decide_eq_false ht] at T1
              have HN := Lib.hid hN
              clear hN ht
              go_wp2_with fail
              refine (T1.out _).mono ?_; rintro e w1 ⟨rfl, rfl⟩
              go_wp2_with fail
              go_roundw
              case rel => exact ⟨j + 1, F', by omega, by go_num, HN, Mor.out⟩
              case measure => simp [intOf]; omega
          · obtain rfl : j = k := by omega
            obtain rfl : F' = F := by rw [← HF.out, hF'.out]
            clear F0 HF hF'
            go_wp2_with fail
            refine (FL2.out _).mono ?_; rintro e w1 ⟨rfl, J7, d7, rfl⟩
            go_wp2_with fail
            refine (RT.out _).mono ?_; rintro e w1 ⟨rfl, J8, d8, rfl⟩
            go_wp2_with fail
            exact bodyPost_ret (v := .agg (outC c w lo hi me sp)) (by simp [results, Try.results38, go_sem]) rfl ⟨congrArg Ending.returned HT2.out, Mor.out⟩
set_option maxRecDepth 20000 in
set_option maxHeartbeats 2000000 in
theorem rtold_empty (A : Option Addr) (cap : Nat) (W : World) :
    Calls Try.prog 38 #[.slice A 0 cap] W fun e w' => e = .returned (TV (sumL [])) ∧ Mo W w' := by
  rw [told_ex3]
  have O0 := Lib.hid (fun w => rof_any 0 (by decide) (by decide) w)
  rw [show decide ((0 : Int) < 0) = false by decide, show absI 0 = 0 by decide] at O0
  go_enter Try.func38, Try.ntmps38
  go_wp2_with fail
  refine (O0.out _).mono ?_; rintro e w1 ⟨rfl, J0, d0, rfl⟩
  go_wp2_with fail
  refine wp_loop_rounds 1 ?_
  rw [rounds_succ]
  go_wp2_with fail
  exact bodyPost_ret (v := .agg (outC 0 0 0 0 0 0)) (by simp [results, Try.results38, go_sem]) rfl ⟨rfl, Mor.out⟩
set_option maxRecDepth 20000 in
theorem rtold_some (l : List Int) (g off cap : Nat) (W : World) (hl : l.length ≤ 2147483648) (hp : 0 < l.length) (hc : ∀ j, j < l.length → W.cell? ⟨g, off + j, none⟩ = some (.int .i64 (l.getD j 0))) :
    Calls Try.prog 38 #[.slice (some ⟨g, off, none⟩) l.length cap] W fun e w' => e = .returned (TV (sumL l)) ∧ Mo W w' :=
  rtold_at _ l g off cap W (Lib.hid rfl) hl hp hc
end Go.Proofs.Ythgkhllkhhnlpaa
