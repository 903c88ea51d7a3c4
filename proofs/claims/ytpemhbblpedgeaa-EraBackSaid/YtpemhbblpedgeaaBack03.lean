/- horologelaw03.EraBack returns true. -/
import Derived.Test.YtpemhbblpedgeaaEra3
namespace Go.Proofs.Ytpemhbblpedgeaa
open Go.RowKit

theorem cmp63 (g : Int) (w : World) : Calls Try.prog 11 #[WV g, LV 0 9223372036854775808] w fun e w' => e = .returned (.int .i64 (cmpI g 9223372036854775808)) ∧ Mo w w' := by
  rw [← lv 9223372036854775808 0 9223372036854775808 (by omega) (by omega) (by omega)]
  exact cmp_any g _ w
theorem O_of (m x : Int) (hm : InW m) (hx : InW x) (o : Int) (ho : cmpI (cl (absI (cl (m - x)))) 9223372036854775808 = o) :
    (o = -1 ∧ ∀ w, Calls Try.prog 7 #[.int .u64 (loW m), WV x] w fun e w' => e = .returned (WV m) ∧ Mo w w') ∨ o = 0 ∨ o = 1 := by
  unfold cmpI at ho
  by_cases c : cl (absI (cl (m - x))) < 9223372036854775808
  · rw [if_pos c] at ho
    left
    refine ⟨ho.symm, fun w => ?_⟩
    have := unfold_any (loW m) x (lo1 m) (lo2 m) hx w
    rwa [unf_back hm hx c] at this
  · rw [if_neg c] at ho
    split at ho <;> omega
set_option maxRecDepth 20000 in
set_option maxHeartbeats 4000000 in
theorem back03_any (s N m : Int) (s1 : 0 ≤ s) (s2 : s ≤ 18446744073709551615) (iN : InW N) (im : InW m) (w : World) :
    Calls Try.prog 3 #[.int .u64 s, WV N, WV m] w fun e w' => e = .returned (.bool true) ∧ Mo w w' := by
  have hs : s < 18446744073709551616 := by omega
  obtain ⟨u, hu⟩ : ∃ u, unf s N = u := ⟨_, rfl⟩
  have iu : InW u := by rw [← hu]; exact unf_in s1 hs iN
  have lu : loW u = s := by rw [← hu]; exact unf_lo s1 hs
  obtain ⟨d0, hd0⟩ : ∃ x, cl (u - N) = x := ⟨_, rfl⟩
  obtain ⟨g0, hg0⟩ : ∃ x, cl (absI d0) = x := ⟨_, rfl⟩
  obtain ⟨o0, ho0⟩ : ∃ x, cmpI g0 9223372036854775808 = x := ⟨_, rfl⟩
  obtain ⟨dN, hdN⟩ : ∃ x, cl (m - N) = x := ⟨_, rfl⟩
  obtain ⟨gN, hgN⟩ : ∃ x, cl (absI dN) = x := ⟨_, rfl⟩
  obtain ⟨oN, hoN⟩ : ∃ x, cmpI gN 9223372036854775808 = x := ⟨_, rfl⟩
  obtain ⟨du, hdu⟩ : ∃ x, cl (m - u) = x := ⟨_, rfl⟩
  obtain ⟨gu, hgu⟩ : ∃ x, cl (absI du) = x := ⟨_, rfl⟩
  obtain ⟨ou, hou⟩ : ∃ x, cmpI gu 9223372036854775808 = x := ⟨_, rfl⟩
  obtain ⟨lm, hlm⟩ : ∃ x, loW m = x := ⟨_, rfl⟩
  have P0 : -9223372036854775808 < hiW N → hiW N < 9223372036854775807 → ¬ 0 < o0 := fun a b => by
    have := unf_near s1 hs a b
    rw [hu, hd0, hg0] at this
    rw [← ho0]; unfold cmpI
    split
    · decide
    · rw [if_neg (by omega)]; decide
  have U1 : Hid (∀ w, Calls Try.prog 7 #[.int .u64 s, WV N] w fun e w' => e = .returned (WV u) ∧ Mo w w') := Lib.hid (by rw [← hu]; exact unfold_any s N s1 hs iN)
  have F1 : Hid (∀ w, Calls Try.prog 8 #[WV u] w fun e w' => e = .returned (.int .u64 s) ∧ Mo w w') := Lib.hid (by rw [← lu]; exact fold_any u)
  have FM : Hid (∀ w, Calls Try.prog 8 #[WV m] w fun e w' => e = .returned (.int .u64 lm) ∧ Mo w w') := Lib.hid (by rw [← hlm]; exact fold_any m)
  have UM : Hid (∀ w, Calls Try.prog 7 #[.int .u64 lm, WV m] w fun e w' => e = .returned (WV m) ∧ Mo w w') := Lib.hid (fun w => by
    have := unfold_any lm m (by rw [← hlm]; exact lo1 m) (by rw [← hlm]; exact lo2 m) im w
    rwa [← hlm, unf_self, hlm] at this)
  have D0 : Hid (∀ w, Calls Try.prog 10 #[WV u, WV N] w fun e w' => e = .returned (WV d0) ∧ Mo w w') := Lib.hid (by rw [← hd0]; exact sub_any u N iu iN)
  have A0 : Hid (∀ w, Calls Try.prog 9 #[WV d0] w fun e w' => e = .returned (WV g0) ∧ Mo w w') := Lib.hid (by rw [← hg0]; exact abs_any d0 (by rw [← hd0]; exact inW_cl _))
  have C0 : Hid (∀ w, Calls Try.prog 11 #[WV g0, LV 0 9223372036854775808] w fun e w' => e = .returned (.int .i64 o0) ∧ Mo w w') := Lib.hid (by rw [← ho0]; exact cmp63 g0)
  have DN : Hid (∀ w, Calls Try.prog 10 #[WV m, WV N] w fun e w' => e = .returned (WV dN) ∧ Mo w w') := Lib.hid (by rw [← hdN]; exact sub_any m N im iN)
  have AN : Hid (∀ w, Calls Try.prog 9 #[WV dN] w fun e w' => e = .returned (WV gN) ∧ Mo w w') := Lib.hid (by rw [← hgN]; exact abs_any dN (by rw [← hdN]; exact inW_cl _))
  have CN : Hid (∀ w, Calls Try.prog 11 #[WV gN, LV 0 9223372036854775808] w fun e w' => e = .returned (.int .i64 oN) ∧ Mo w w') := Lib.hid (by rw [← hoN]; exact cmp63 gN)
  have ON := Lib.hid (O_of m N im iN oN (by rw [hdN, hgN, hoN]))
  have Du : Hid (∀ w, Calls Try.prog 10 #[WV m, WV u] w fun e w' => e = .returned (WV du) ∧ Mo w w') := Lib.hid (by rw [← hdu]; exact sub_any m u im iu)
  have Au : Hid (∀ w, Calls Try.prog 9 #[WV du] w fun e w' => e = .returned (WV gu) ∧ Mo w w') := Lib.hid (by rw [← hgu]; exact abs_any du (by rw [← hdu]; exact inW_cl _))
  have Cu : Hid (∀ w, Calls Try.prog 11 #[WV gu, LV 0 9223372036854775808] w fun e w' => e = .returned (.int .i64 ou) ∧ Mo w w') := Lib.hid (by rw [← hou]; exact cmp63 gu)
  have Ou := Lib.hid (O_of m u im iu ou (by rw [hdu, hgu, hou]))
  rw [hlm] at ON Ou
  have P0' := Lib.hid P0
  clear P0 hu hd0 hg0 ho0 hdN hgN hoN hdu hgu hou iN iu lu s1 s2 hs hlm im
  go_enter Try.func3, Try.ntmps3
  go_wp2_with fail
  refine (known_any _).mono ?_; rintro e w1 ⟨rfl, K0, k0, rfl⟩
  go_wp2_with fail
  refine (U1.out _).mono ?_; rintro e w1 ⟨rfl, K1, k1, rfl⟩
  go_wp2_with fail
  refine (F1.out _).mono ?_; rintro e w1 ⟨rfl, K2, k2, rfl⟩
  by_cases c1 : -9223372036854775808 < hiW N ∧ hiW N < 9223372036854775807
  · obtain ⟨c1, c2⟩ := c1
    have o1 := P0'.out c1 c2
    go_wp2_with fail
    refine (D0.out _).mono ?_; rintro e w1 ⟨rfl, K3, k3, rfl⟩
    go_wp2_with fail
    refine (A0.out _).mono ?_; rintro e w1 ⟨rfl, K4, k4, rfl⟩
    go_wp2_with fail
    refine (C0.out _).mono ?_; rintro e w1 ⟨rfl, K5, k5, rfl⟩
    go_wp2_with fail
    refine wp_name ?_
    intro V hV
    go_loopw [41] (fun i wr => ∃ k : Nat, k ≤ 2 ∧ i = .int .i64 k ∧ Mo V wr) (fun i _ => 2 - (intOf i).toNat)
    case atStart => exact ⟨0, by omega, rfl, Mor.out⟩
    case round =>
      obtain ⟨k, hk, rfl, J, d, rfl⟩ := hrel
      subst hV
      have hk3 : k = 0 ∨ k = 1 ∨ k = 2 := by omega
      clear hk
      rcases hk3 with rfl | rfl | rfl
      · skip
        go_wp2_with fail
        refine (DN.out _).mono ?_; rintro e w1 ⟨rfl, J1, d1, rfl⟩
        go_wp2_with fail
        refine (AN.out _).mono ?_; rintro e w1 ⟨rfl, J2, d2, rfl⟩
        go_upto_region 14 with (fail)
        rcases ON.out with ⟨oe, UE⟩ | oe | oe
        · have U2 := Lib.hid UE
          clear UE
          subst oe
          refine wp_region_mo (by kernel_rfl) (by kernel_rfl) ?_
          repeat (go_big_quiet_step (first | (with_reducible exact quiet_mo (CN.out _)) | (with_reducible exact quiet_mo (FM.out _)) | (with_reducible exact quiet_mo (U2.out _))))
          refine wpQuiet_nil ?_
          intro _ hw'
          obtain ⟨⟨J9, d9⟩, hw''⟩ := hw'
          subst hw''
          go_wp2_with fail
          go_roundw
          case rel => exact ⟨1, by omega, rfl, Mor.out⟩
          case measure => simp [intOf]
        · subst oe
          refine wp_region_mo (by kernel_rfl) (by kernel_rfl) ?_
          repeat (go_big_quiet_step (first | (with_reducible exact quiet_mo (CN.out _))))
          refine wpQuiet_nil ?_
          intro _ hw'
          obtain ⟨⟨J9, d9⟩, hw''⟩ := hw'
          subst hw''
          go_wp2_with fail
          go_roundw
          case rel => exact ⟨1, by omega, rfl, Mor.out⟩
          case measure => simp [intOf]
        · subst oe
          refine wp_region_mo (by kernel_rfl) (by kernel_rfl) ?_
          repeat (go_big_quiet_step (first | (with_reducible exact quiet_mo (CN.out _))))
          refine wpQuiet_nil ?_
          intro _ hw'
          obtain ⟨⟨J9, d9⟩, hw''⟩ := hw'
          subst hw''
          go_wp2_with fail
          go_roundw
          case rel => exact ⟨1, by omega, rfl, Mor.out⟩
          case measure => simp [intOf]
      · skip
        go_wp2_with fail
        refine (Du.out _).mono ?_; rintro e w1 ⟨rfl, J1, d1, rfl⟩
        go_wp2_with fail
        refine (Au.out _).mono ?_; rintro e w1 ⟨rfl, J2, d2, rfl⟩
        go_upto_region 14 with (fail)
        rcases Ou.out with ⟨oe, UE⟩ | oe | oe
        · have U2 := Lib.hid UE
          clear UE
          subst oe
          refine wp_region_mo (by kernel_rfl) (by kernel_rfl) ?_
          repeat (go_big_quiet_step (first | (with_reducible exact quiet_mo (Cu.out _)) | (with_reducible exact quiet_mo (FM.out _)) | (with_reducible exact quiet_mo (U2.out _))))
          refine wpQuiet_nil ?_
          intro _ hw'
          obtain ⟨⟨J9, d9⟩, hw''⟩ := hw'
          subst hw''
          go_wp2_with fail
          go_roundw
          case rel => exact ⟨2, by omega, rfl, Mor.out⟩
          case measure => simp [intOf]
        · subst oe
          refine wp_region_mo (by kernel_rfl) (by kernel_rfl) ?_
          repeat (go_big_quiet_step (first | (with_reducible exact quiet_mo (Cu.out _))))
          refine wpQuiet_nil ?_
          intro _ hw'
          obtain ⟨⟨J9, d9⟩, hw''⟩ := hw'
          subst hw''
          go_wp2_with fail
          go_roundw
          case rel => exact ⟨2, by omega, rfl, Mor.out⟩
          case measure => simp [intOf]
        · subst oe
          refine wp_region_mo (by kernel_rfl) (by kernel_rfl) ?_
          repeat (go_big_quiet_step (first | (with_reducible exact quiet_mo (Cu.out _))))
          refine wpQuiet_nil ?_
          intro _ hw'
          obtain ⟨⟨J9, d9⟩, hw''⟩ := hw'
          subst hw''
          go_wp2_with fail
          go_roundw
          case rel => exact ⟨2, by omega, rfl, Mor.out⟩
          case measure => simp [intOf]
      · go_wp2_with fail
        refine wp_region_mo' (by kernel_rfl) (by kernel_rfl) ?_
        repeat (go_big_quiet_step (first | (with_reducible exact quiet_mo (FM.out _)) | (with_reducible exact quiet_mo (UM.out _))))
        refine wpQuiet_nil ?_
        intro _ hw'
        obtain ⟨⟨J9, d9⟩, hw''⟩ := hw'
        subst hw''
        go_wp2_with fail
        go_ret
        exact ⟨rfl, Mor.out⟩
  · have c2 : hiW N ≤ -9223372036854775808 ∨ ¬ hiW N ≤ -9223372036854775808 ∧ ¬ hiW N < 9223372036854775807 := by omega
    rcases c2 with c2 | ⟨c2, c3⟩
    · have c4 : ¬ -9223372036854775808 < hiW N := by omega
      go_wp2_with fail
      refine wp_name ?_
      intro V hV
      go_loopw [41] (fun i wr => ∃ k : Nat, k ≤ 2 ∧ i = .int .i64 k ∧ Mo V wr) (fun i _ => 2 - (intOf i).toNat)
      case atStart => exact ⟨0, by omega, rfl, Mor.out⟩
      case round =>
        obtain ⟨k, hk, rfl, J, d, rfl⟩ := hrel
        subst hV
        have hk3 : k = 0 ∨ k = 1 ∨ k = 2 := by omega
        clear hk
        rcases hk3 with rfl | rfl | rfl
        · skip
          go_wp2_with fail
          refine (DN.out _).mono ?_; rintro e w1 ⟨rfl, J1, d1, rfl⟩
          go_wp2_with fail
          refine (AN.out _).mono ?_; rintro e w1 ⟨rfl, J2, d2, rfl⟩
          go_upto_region 14 with (fail)
          rcases ON.out with ⟨oe, UE⟩ | oe | oe
          · have U2 := Lib.hid UE
            clear UE
            subst oe
            refine wp_region_mo (by kernel_rfl) (by kernel_rfl) ?_
            repeat (go_big_quiet_step (first | (with_reducible exact quiet_mo (CN.out _)) | (with_reducible exact quiet_mo (FM.out _)) | (with_reducible exact quiet_mo (U2.out _))))
            refine wpQuiet_nil ?_
            intro _ hw'
            obtain ⟨⟨J9, d9⟩, hw''⟩ := hw'
            subst hw''
            go_wp2_with fail
            go_roundw
            case rel => exact ⟨1, by omega, rfl, Mor.out⟩
            case measure => simp [intOf]
          · subst oe
            refine wp_region_mo (by kernel_rfl) (by kernel_rfl) ?_
            repeat (go_big_quiet_step (first | (with_reducible exact quiet_mo (CN.out _))))
            refine wpQuiet_nil ?_
            intro _ hw'
            obtain ⟨⟨J9, d9⟩, hw''⟩ := hw'
            subst hw''
            go_wp2_with fail
            go_roundw
            case rel => exact ⟨1, by omega, rfl, Mor.out⟩
            case measure => simp [intOf]
          · subst oe
            refine wp_region_mo (by kernel_rfl) (by kernel_rfl) ?_
            repeat (go_big_quiet_step (first | (with_reducible exact quiet_mo (CN.out _))))
            refine wpQuiet_nil ?_
            intro _ hw'
            obtain ⟨⟨J9, d9⟩, hw''⟩ := hw'
            subst hw''
            go_wp2_with fail
            go_roundw
            case rel => exact ⟨1, by omega, rfl, Mor.out⟩
            case measure => simp [intOf]
        · skip
          go_wp2_with fail
          refine (Du.out _).mono ?_; rintro e w1 ⟨rfl, J1, d1, rfl⟩
          go_wp2_with fail
          refine (Au.out _).mono ?_; rintro e w1 ⟨rfl, J2, d2, rfl⟩
          go_upto_region 14 with (fail)
          rcases Ou.out with ⟨oe, UE⟩ | oe | oe
          · have U2 := Lib.hid UE
            clear UE
            subst oe
            refine wp_region_mo (by kernel_rfl) (by kernel_rfl) ?_
            repeat (go_big_quiet_step (first | (with_reducible exact quiet_mo (Cu.out _)) | (with_reducible exact quiet_mo (FM.out _)) | (with_reducible exact quiet_mo (U2.out _))))
            refine wpQuiet_nil ?_
            intro _ hw'
            obtain ⟨⟨J9, d9⟩, hw''⟩ := hw'
            subst hw''
            go_wp2_with fail
            go_roundw
            case rel => exact ⟨2, by omega, rfl, Mor.out⟩
            case measure => simp [intOf]
          · subst oe
            refine wp_region_mo (by kernel_rfl) (by kernel_rfl) ?_
            repeat (go_big_quiet_step (first | (with_reducible exact quiet_mo (Cu.out _))))
            refine wpQuiet_nil ?_
            intro _ hw'
            obtain ⟨⟨J9, d9⟩, hw''⟩ := hw'
            subst hw''
            go_wp2_with fail
            go_roundw
            case rel => exact ⟨2, by omega, rfl, Mor.out⟩
            case measure => simp [intOf]
          · subst oe
            refine wp_region_mo (by kernel_rfl) (by kernel_rfl) ?_
            repeat (go_big_quiet_step (first | (with_reducible exact quiet_mo (Cu.out _))))
            refine wpQuiet_nil ?_
            intro _ hw'
            obtain ⟨⟨J9, d9⟩, hw''⟩ := hw'
            subst hw''
            go_wp2_with fail
            go_roundw
            case rel => exact ⟨2, by omega, rfl, Mor.out⟩
            case measure => simp [intOf]
        · go_wp2_with fail
          refine wp_region_mo' (by kernel_rfl) (by kernel_rfl) ?_
          repeat (go_big_quiet_step (first | (with_reducible exact quiet_mo (FM.out _)) | (with_reducible exact quiet_mo (UM.out _))))
          refine wpQuiet_nil ?_
          intro _ hw'
          obtain ⟨⟨J9, d9⟩, hw''⟩ := hw'
          subst hw''
          go_wp2_with fail
          go_ret
          exact ⟨rfl, Mor.out⟩
    · have c4 : -9223372036854775808 < hiW N := by omega
      go_wp2_with fail
      refine wp_name ?_
      intro V hV
      go_loopw [41] (fun i wr => ∃ k : Nat, k ≤ 2 ∧ i = .int .i64 k ∧ Mo V wr) (fun i _ => 2 - (intOf i).toNat)
      case atStart => exact ⟨0, by omega, rfl, Mor.out⟩
      case round =>
        obtain ⟨k, hk, rfl, J, d, rfl⟩ := hrel
        subst hV
        have hk3 : k = 0 ∨ k = 1 ∨ k = 2 := by omega
        clear hk
        rcases hk3 with rfl | rfl | rfl
        · skip
          go_wp2_with fail
          refine (DN.out _).mono ?_; rintro e w1 ⟨rfl, J1, d1, rfl⟩
          go_wp2_with fail
          refine (AN.out _).mono ?_; rintro e w1 ⟨rfl, J2, d2, rfl⟩
          go_upto_region 14 with (fail)
          rcases ON.out with ⟨oe, UE⟩ | oe | oe
          · have U2 := Lib.hid UE
            clear UE
            subst oe
            refine wp_region_mo (by kernel_rfl) (by kernel_rfl) ?_
            repeat (go_big_quiet_step (first | (with_reducible exact quiet_mo (CN.out _)) | (with_reducible exact quiet_mo (FM.out _)) | (with_reducible exact quiet_mo (U2.out _))))
            refine wpQuiet_nil ?_
            intro _ hw'
            obtain ⟨⟨J9, d9⟩, hw''⟩ := hw'
            subst hw''
            go_wp2_with fail
            go_roundw
            case rel => exact ⟨1, by omega, rfl, Mor.out⟩
            case measure => simp [intOf]
          · subst oe
            refine wp_region_mo (by kernel_rfl) (by kernel_rfl) ?_
            repeat (go_big_quiet_step (first | (with_reducible exact quiet_mo (CN.out _))))
            refine wpQuiet_nil ?_
            intro _ hw'
            obtain ⟨⟨J9, d9⟩, hw''⟩ := hw'
            subst hw''
            go_wp2_with fail
            go_roundw
            case rel => exact ⟨1, by omega, rfl, Mor.out⟩
            case measure => simp [intOf]
          · subst oe
            refine wp_region_mo (by kernel_rfl) (by kernel_rfl) ?_
            repeat (go_big_quiet_step (first | (with_reducible exact quiet_mo (CN.out _))))
            refine wpQuiet_nil ?_
            intro _ hw'
            obtain ⟨⟨J9, d9⟩, hw''⟩ := hw'
            subst hw''
            go_wp2_with fail
            go_roundw
            case rel => exact ⟨1, by omega, rfl, Mor.out⟩
            case measure => simp [intOf]
        · skip
          go_wp2_with fail
          refine (Du.out _).mono ?_; rintro e w1 ⟨rfl, J1, d1, rfl⟩
          go_wp2_with fail
          refine (Au.out _).mono ?_; rintro e w1 ⟨rfl, J2, d2, rfl⟩
          go_upto_region 14 with (fail)
          rcases Ou.out with ⟨oe, UE⟩ | oe | oe
          · have U2 := Lib.hid UE
            clear UE
            subst oe
            refine wp_region_mo (by kernel_rfl) (by kernel_rfl) ?_
            repeat (go_big_quiet_step (first | (with_reducible exact quiet_mo (Cu.out _)) | (with_reducible exact quiet_mo (FM.out _)) | (with_reducible exact quiet_mo (U2.out _))))
            refine wpQuiet_nil ?_
            intro _ hw'
            obtain ⟨⟨J9, d9⟩, hw''⟩ := hw'
            subst hw''
            go_wp2_with fail
            go_roundw
            case rel => exact ⟨2, by omega, rfl, Mor.out⟩
            case measure => simp [intOf]
          · subst oe
            refine wp_region_mo (by kernel_rfl) (by kernel_rfl) ?_
            repeat (go_big_quiet_step (first | (with_reducible exact quiet_mo (Cu.out _))))
            refine wpQuiet_nil ?_
            intro _ hw'
            obtain ⟨⟨J9, d9⟩, hw''⟩ := hw'
            subst hw''
            go_wp2_with fail
            go_roundw
            case rel => exact ⟨2, by omega, rfl, Mor.out⟩
            case measure => simp [intOf]
          · subst oe
            refine wp_region_mo (by kernel_rfl) (by kernel_rfl) ?_
            repeat (go_big_quiet_step (first | (with_reducible exact quiet_mo (Cu.out _))))
            refine wpQuiet_nil ?_
            intro _ hw'
            obtain ⟨⟨J9, d9⟩, hw''⟩ := hw'
            subst hw''
            go_wp2_with fail
            go_roundw
            case rel => exact ⟨2, by omega, rfl, Mor.out⟩
            case measure => simp [intOf]
        · go_wp2_with fail
          refine wp_region_mo' (by kernel_rfl) (by kernel_rfl) ?_
          repeat (go_big_quiet_step (first | (with_reducible exact quiet_mo (FM.out _)) | (with_reducible exact quiet_mo (UM.out _))))
          refine wpQuiet_nil ?_
          intro _ hw'
          obtain ⟨⟨J9, d9⟩, hw''⟩ := hw'
          subst hw''
          go_wp2_with fail
          go_ret
          exact ⟨rfl, Mor.out⟩
end Go.Proofs.Ytpemhbblpedgeaa
