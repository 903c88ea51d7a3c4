/- horologelaw01.WideTimes returns true. -/
import Derived.Test.YtaboiojabmbioaaKnown01
import Derived.Test.YtaboiojabmbioaaRefI
import Derived.Test.YtaboiojabmbioaaRefK
namespace Go.Proofs.Ytaboiojabmbioaa
open Go.RowKit

set_option maxRecDepth 100000 in
set_option maxHeartbeats 4000000 in
theorem times_any (a m k n : Int) (ha : InW a) (m1 : -9223372036854775808 ≤ m) (m2 : m ≤ 9223372036854775807) (k1 : -9223372036854775808 ≤ k) (k2 : k ≤ 9223372036854775807) (n1 : 0 ≤ n) (n2 : n ≤ 4294967295) (w : World) :
    Calls Try.prog 3 #[WV a, .int .i64 m, .int .i64 k, .int .u32 n] w fun e w' => e = .returned (.bool true) ∧ Mo w w' := by
  obtain ⟨fa, hfa⟩ : ∃ x, fromS a = x := ⟨_, rfl⟩
  obtain ⟨xa, hxa⟩ : ∃ x, absI a = x := ⟨_, rfl⟩
  obtain ⟨dm, hdm⟩ : ∃ x, decide (m < 0) = x := ⟨_, rfl⟩
  obtain ⟨dk, hdk⟩ : ∃ x, decide (k < 0) = x := ⟨_, rfl⟩
  obtain ⟨am, ham⟩ : ∃ x, absI m = x := ⟨_, rfl⟩
  obtain ⟨ak, hak⟩ : ∃ x, absI k = x := ⟨_, rfl⟩
  obtain ⟨p, hp⟩ : ∃ x, m * k = x := ⟨_, rfl⟩
  obtain ⟨xp, hxp⟩ : ∃ x, absI p = x := ⟨_, rfl⟩
  obtain ⟨dp, hdp⟩ : ∃ x, (dm != dk) = x := ⟨_, rfl⟩
  obtain ⟨s, hs⟩ : ∃ x, cl (a * n) = x := ⟨_, rfl⟩
  obtain ⟨xs, hxs⟩ : ∃ x, absI (a * n) = x := ⟨_, rfl⟩
  obtain ⟨h, hh⟩ : ∃ x, a / 2 = x := ⟨_, rfl⟩
  obtain ⟨xh, hxh⟩ : ∃ x, absI h = x := ⟨_, rfl⟩
  have Ga : Sg fa a := by rw [← hfa]; exact fromS_sg a
  have Gm : Sg dm m := by rw [← hdm]; exact Sg.dec m
  have Gk : Sg dk k := by rw [← hdk]; exact Sg.dec k
  have Gp : Sg dp p := by rw [← hdp, ← hp]; exact Gm.mul Gk
  have Gs : Sg fa (a * n) := by have := Ga.mul (Sg.pos n1); simpa using this
  have Gh : Sg fa h := ⟨fun c => Ga.1 (by omega), fun c => Ga.2 (by omega)⟩
  have a0 : 0 ≤ xa := by rw [← hxa]; exact absI_nonneg a
  have a2 : xa ≤ 170141183460469231731687303715884105728 := by rw [← hxa]; unfold absI; have := ha.1; have := ha.2; split <;> omega
  have m3 : 0 ≤ am := by rw [← ham]; exact absI_nonneg m
  have m4 : am ≤ 9223372036854775808 := by rw [← ham]; unfold absI; split <;> omega
  have k3 : 0 ≤ ak := by rw [← hak]; exact absI_nonneg k
  have k4 : ak ≤ 9223372036854775808 := by rw [← hak]; unfold absI; split <;> omega
  have p2 : xp = am * ak := by rw [← hxp, ← hp, absI_mul, ham, hak]
  have p3 : am * ak ≤ 9223372036854775808 * 9223372036854775808 := Int.mul_le_mul m4 k4 k3 (by omega)
  have p4 : InW p := by
    have := Gp.val
    rw [hxp] at this
    rw [← this]
    unfold val InW
    have := Int.mul_nonneg m3 k3
    split <;> omega
  have s2 : xs = xa * n := by rw [← hxs, absI_mul, hxa, absI_pos n1]
  have s3 : xa * n ≤ 170141183460469231731687303715884105728 * 4294967295 := Int.mul_le_mul a2 n2 n1 (by omega)
  have h2 : xh < 65536 ^ 20 := by rw [← hxh, ← hh]; unfold absI; have := ha.1; have := ha.2; split <;> omega
  have F1 : Hid (∀ w, Calls Try.prog 9 #[WV a] w fun e w' => e = .returned (NN fa xa) ∧ Mo w w') := Lib.hid (by rw [← hfa, ← hxa]; exact from_any a ha)
  have W1 : Hid (∀ w, Calls Try.prog 10 #[.int .i64 m, .int .i64 k] w fun e w' => e = .returned (WV p) ∧ Mo w w') := Lib.hid (by rw [← hp]; exact mul_any m k m1 m2 k1 k2)
  have O1 : Hid (∀ w, Calls Try.prog 13 #[.int .i64 m] w fun e w' => e = .returned (NN dm am) ∧ Mo w w') := Lib.hid (by rw [← hdm, ← ham]; exact rof_any m m1 m2)
  have O2 : Hid (∀ w, Calls Try.prog 13 #[.int .i64 k] w fun e w' => e = .returned (NN dk ak) ∧ Mo w w') := Lib.hid (by rw [← hdk, ← hak]; exact rof_any k k1 k2)
  have M1 : Hid (∀ w, Calls Try.prog 12 #[NN dm am, NN dk ak] w fun e w' => e = .returned (NN dp xp) ∧ Mo w w') := Lib.hid (fun w => by
    have := rmul_sg dm dk m k (by rw [ham]; omega) (by rw [ham, hak]; omega) w
    rwa [ham, hak, hdp, hp, hxp] at this)
  have X1 : Hid (∀ w, Calls Try.prog 11 #[NN dp xp] w fun e w' => e = .returned (WV p) ∧ Mo w w') := Lib.hid (fun w => by
    have := rwide_any dp p Gp (by rw [hxp]; omega) w
    rwa [hxp, cl_in p4] at this)
  have W2 : Hid (∀ w, Calls Try.prog 14 #[WV a, .int .u32 n] w fun e w' => e = .returned (WV s) ∧ Mo w w') := Lib.hid (by rw [← hs]; exact scale_any a n ha n1 n2)
  have N1 : Hid (∀ w, Calls Try.prog 15 #[.int .u64 n] w fun e w' => e = .returned (NN false n) ∧ Mo w w') := Lib.hid (num64_any n n1 (by omega))
  have M2 : Hid (∀ w, Calls Try.prog 12 #[NN fa xa, NN false n] w fun e w' => e = .returned (NN fa xs) ∧ Mo w w') := Lib.hid (fun w => by
    have := rmul_sg fa false a n (by rw [hxa]; omega) (by rw [hxa, absI_pos n1]; omega) w
    rw [hxa, hxs, absI_pos n1] at this
    simpa using this)
  have X2 : Hid (∀ w, Calls Try.prog 11 #[NN fa xs] w fun e w' => e = .returned (WV s) ∧ Mo w w') := Lib.hid (fun w => by
    have := rwide_any fa (a * n) Gs (by rw [hxs]; omega) w
    rwa [hxs, hs] at this)
  have W3 : Hid (∀ w, Calls Try.prog 16 #[WV a] w fun e w' => e = .returned (WV h) ∧ Mo w w') := Lib.hid (by rw [← hh]; exact half_any a ha)
  have O3 : Hid (∀ w, Calls Try.prog 13 #[.int .i64 2] w fun e w' => e = .returned (NN false 2) ∧ Mo w w') := Lib.hid (rof_any 2 (by omega) (by omega))
  have L1 : Hid (∀ w, Calls Try.prog 17 #[NN fa xa, NN false 2] w fun e w' => e = .returned (NN fa xh) ∧ Mo w w') := Lib.hid (fun w => by
    have := rfloor_any fa a 2 Ga (by rw [hxa]; omega) (by omega) (by omega) w
    rwa [hxa, hh, hxh] at this)
  have X3 : Hid (∀ w, Calls Try.prog 11 #[NN fa xh] w fun e w' => e = .returned (WV h) ∧ Mo w w') := Lib.hid (fun w => by
    have := rwide_any fa h Gh (by rw [hxh]; omega) w
    rwa [hxh, cl_in (by rw [← hh]; have := ha.1; have := ha.2; unfold InW; omega)] at this)
  clear hfa hxa hdm hdk ham hak hp hxp hdp hs hxs hh hxh Ga Gm Gk Gp Gs Gh a0 a2 m3 m4 k3 k4 p2 p3 p4 s2 s3 h2 ha m1 m2 k1 k2
  go_enter Try.func3, Try.ntmps3
  go_wp2_with fail
  refine (known_any _).mono ?_; rintro e w1 ⟨rfl, J0, d0, rfl⟩
  go_wp2_with fail
  refine (F1.out _).mono ?_; rintro e w1 ⟨rfl, J1, d1, rfl⟩
  go_wp2_with fail
  refine wp_region_mo (by kernel_rfl) (by kernel_rfl) ?_
  repeat (go_big_quiet_step (first | (with_reducible exact quiet_mo (O1.out _)) | (with_reducible exact quiet_mo (O2.out _)) | (with_reducible exact quiet_mo (O3.out _)) | (with_reducible exact quiet_mo (X1.out _)) | (with_reducible exact quiet_mo (X2.out _)) | (with_reducible exact quiet_mo (X3.out _)) | (with_reducible exact quiet_mo (W1.out _)) | (with_reducible exact quiet_mo (W2.out _)) | (with_reducible exact quiet_mo (W3.out _)) | (with_reducible exact quiet_mo (M1.out _)) | (with_reducible exact quiet_mo (M2.out _)) | (with_reducible exact quiet_mo (N1.out _)) | (with_reducible exact quiet_mo (L1.out _))))
  refine wpQuiet_nil ?_
  intro _ hw'
  obtain ⟨⟨J9, d9⟩, hw''⟩ := hw'
  subst hw''
  go_wp2_with fail
  go_ret
  exact ⟨rfl, Mor.out⟩
end Go.Proofs.Ytaboiojabmbioaa
