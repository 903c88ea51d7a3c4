/- horologelaw01.WideParts returns true. -/
import Derived.Test.YtaboiojabmbioaaKnown01
import Derived.Test.YtaboiojabmbioaaRefI
import Derived.Test.YtaboiojabmbioaaRefK
namespace Go.Proofs.Ytaboiojabmbioaa
open Go.RowKit

instance blk_lt (w : World) (g : Nat) (t : TypeId) (cs : Array Value) [h : Blk w g t cs] : LtW g w := ⟨h.lt⟩
theorem Mo.blk {a b : World} (h : Mo a b) {g : Nat} {t : TypeId} {cs : Array Value} (k : Blk a g t cs) : Blk b g t cs := by
  obtain ⟨J, d, rfl⟩ := h
  infer_instance
class MoC (a : outParam World) (b : World) : Prop where
  out : Mo a b
instance (priority := low) moc_blk (a b : World) (g : Nat) (t : TypeId) (cs : Array Value) [h : MoC a b] [k : Blk a g t cs] : Blk b g t cs := h.out.blk k
theorem clip_bd (a : Int) : -9223372036854775808 ≤ clip a ∧ clip a ≤ 9223372036854775807 := by
  unfold clip
  split
  · omega
  · split <;> omega
theorem clip_cmp (a : Int) : (clip a < a ∧ clip a = 9223372036854775807) ∨ clip a = a ∨ (a < clip a ∧ clip a = -9223372036854775808) := by
  unfold clip
  split
  · omega
  · split <;> omega

set_option maxRecDepth 100000 in
set_option maxHeartbeats 4000000 in
/-- from the switch on the quotient's divisor to the end, for each divisor -/
theorem parts_any (a n : Int) (ha : InW a) (n1 : 0 ≤ n) (n2 : n ≤ 18446744073709551615) (w : World) :
    Calls Try.prog 4 #[WV a, .int .u64 n] w fun e w' => e = .returned (.bool true) ∧ Mo w w' := by
  obtain ⟨fa, hfa⟩ : ∃ x, fromS a = x := ⟨_, rfl⟩
  obtain ⟨xa, hxa⟩ : ∃ x, absI a = x := ⟨_, rfl⟩
  obtain ⟨c, hc⟩ : ∃ x, clip a = x := ⟨_, rfl⟩
  obtain ⟨dc, hdc⟩ : ∃ x, decide (c < 0) = x := ⟨_, rfl⟩
  obtain ⟨ac, hac⟩ : ∃ x, absI c = x := ⟨_, rfl⟩
  obtain ⟨o, ho⟩ : ∃ x, cmpI c a = x := ⟨_, rfl⟩
  have Ga : Sg fa a := by rw [← hfa]; exact fromS_sg a
  have Gc : Sg dc c := by rw [← hdc]; exact Sg.dec c
  have cb : -9223372036854775808 ≤ c ∧ c ≤ 9223372036854775807 := by rw [← hc]; exact clip_bd a
  have cc : o = -1 ∧ c = 9223372036854775807 ∨ o = 0 ∨ o = 1 ∧ c = -9223372036854775808 := by
    rw [← ho, ← hc]
    rcases clip_cmp a with h | h | h
    · left; exact ⟨if_pos h.1, h.2⟩
    · right; left; unfold cmpI; rw [if_neg (by omega), if_neg (by omega)]
    · right; right; exact ⟨by unfold cmpI; rw [if_neg (by omega), if_pos h.1], h.2⟩
  have a0 : 0 ≤ xa := by rw [← hxa]; exact absI_nonneg a
  have a2 : xa ≤ 170141183460469231731687303715884105728 := by rw [← hxa]; unfold absI; have := ha.1; have := ha.2; split <;> omega
  have F1 : Hid (∀ w, Calls Try.prog 9 #[WV a] w fun e w' => e = .returned (NN fa xa) ∧ Mo w w') := Lib.hid (by rw [← hfa, ← hxa]; exact from_any a ha)
  have K1 : Hid (∀ w, Calls Try.prog 19 #[WV a] w fun e w' => e = .returned (.int .i64 c) ∧ Mo w w') := Lib.hid (by rw [← hc]; exact clip_any a ha)
  have O1 : Hid (∀ w, Calls Try.prog 13 #[.int .i64 c] w fun e w' => e = .returned (NN dc ac) ∧ Mo w w') := Lib.hid (by rw [← hdc, ← hac]; exact rof_any c cb.1 cb.2)
  have C1 : Hid (∀ w, Calls Try.prog 20 #[NN dc ac, NN fa xa] w fun e w' => e = .returned (.int .i64 o) ∧ Mo w w') := Lib.hid (fun w => by
    have := rcmp_sg dc fa c a Gc Ga (by unfold absI; split <;> omega) (by rw [hxa]; omega) w
    rwa [ho, hxa, hac] at this)
  by_cases hn : n = 0
  · subst hn
    have D1 : Hid (∀ w, Calls Try.prog 18 #[WV a, .int .u64 0] w fun e w' => e = .returned (.tuple #[WV 0, .int .u64 0, .bool false]) ∧ Mo w w') := Lib.hid (div_none a)
    have k1 : hiW 0 = 0 := by decide
    have k2 : loW 0 = 0 := by decide
    clear hfa hxa hc hdc hac ho Ga Gc cb a0 a2 ha n1 n2
    go_enter Try.func4, Try.ntmps4
    go_wp2_with fail
    refine (known_any _).mono ?_; rintro e w1 ⟨rfl, J0, d0, rfl⟩
    go_wp2_with fail
    refine (F1.out _).mono ?_; rintro e w1 ⟨rfl, J1, d1, rfl⟩
    go_wp2_with fail
    refine (D1.out _).mono ?_; rintro e w1 ⟨rfl, J2, d2, rfl⟩
    go_wp2_with fail
    refine (K1.out _).mono ?_; rintro e w1 ⟨rfl, J3, d3, rfl⟩
    go_wp2_with fail
    refine (O1.out _).mono ?_; rintro e w1 ⟨rfl, J4, d4, rfl⟩
    go_wp2_with fail
    refine (C1.out _).mono ?_; rintro e w1 ⟨rfl, J5, d5, rfl⟩
    go_upto_region 7 with (fail)
    refine wp_name ?_
    intro W hW
    have M0 : Mo w W := by rw [hW]; exact Mor.out
    have c20 : W.cell? ⟨w.heap.size, 0, none⟩ = some (.int .i64 (hiW a)) := by rw [hW]; simp [go_sem]
    have c21 : W.cell? ⟨w.heap.size, 1, none⟩ = some (.int .u64 (loW a)) := by rw [hW]; simp [go_sem]
    have B5 : Blk W (w.heap.size + 1 + (J0.size + J1.size)) 29 (numC fa (lim xa)) := by rw [hW]; infer_instance
    have c60 : W.cell? ⟨w.heap.size + 1 + (J0.size + J1.size) + 1 + J2.size, 0, none⟩ = some (.int .i64 0) := by rw [hW]; simp [go_sem]
    have c61 : W.cell? ⟨w.heap.size + 1 + (J0.size + J1.size) + 1 + J2.size, 1, none⟩ = some (.int .u64 0) := by rw [hW]; simp [go_sem]
    clear hW
    generalize w.heap.size + 1 + (J0.size + J1.size) + 1 + J2.size = p6 at *
    generalize w.heap.size + 1 + (J0.size + J1.size) = p5 at *
    generalize w.heap.size = p2 at *
    have L2 : LtW p2 W := LtW.of_cell c20
    have L6 : LtW p6 W := LtW.of_cell c60
    go_cut [46] (fun s wx => s = .bool false ∧ Mo W wx)
    case first =>
      as_aux_lemma =>
        rcases cc with ⟨rfl, rfl⟩ | rfl | ⟨rfl, rfl⟩
        · go_wp2_with (first | ((with_reducible refine (K1.out _).mono ?_); rintro e w1 ⟨rfl, J6, d6, rfl⟩))
          go_meet
          exact ⟨rfl, Mor.out⟩
        · go_wp2_with (first | ((with_reducible refine (K1.out _).mono ?_); rintro e w1 ⟨rfl, J6, d6, rfl⟩))
          go_meet
          exact ⟨rfl, Mor.out⟩
        · go_wp2_with (first | ((with_reducible refine (K1.out _).mono ?_); rintro e w1 ⟨rfl, J6, d6, rfl⟩))
          go_meet
          exact ⟨rfl, Mor.out⟩
    obtain ⟨rfl, hM⟩ := hcut
    replace c20 : wc.cell? ⟨p2, 0, none⟩ = some (.int .i64 (hiW a)) := hM.cell.trans c20
    replace c21 : wc.cell? ⟨p2, 1, none⟩ = some (.int .u64 (loW a)) := hM.cell.trans c21
    replace c60 : wc.cell? ⟨p6, 0, none⟩ = some (.int .i64 0) := hM.cell.trans c60
    replace c61 : wc.cell? ⟨p6, 1, none⟩ = some (.int .u64 0) := hM.cell.trans c61
    replace B5 : Blk wc p5 29 (numC fa (lim xa)) := hM.blk B5
    replace M0 := M0.trans hM
    clear hM L2 L6
    have L2 : LtW p2 wc := LtW.of_cell c20
    have L6 : LtW p6 wc := LtW.of_cell c60
    rename World => Wa
    go_wp2_with fail
    go_ret
    exact ⟨rfl, M0.trans Mor.out⟩
  · have hp : 0 < n := by omega
    obtain ⟨q, hq⟩ : ∃ x, a / n = x := ⟨_, rfl⟩
    obtain ⟨r, hr⟩ : ∃ x, a % n = x := ⟨_, rfl⟩
    obtain ⟨xq, hxq⟩ : ∃ x, absI q = x := ⟨_, rfl⟩
    obtain ⟨xt, hxt⟩ : ∃ x, absI (q * n) = x := ⟨_, rfl⟩
    obtain ⟨na, hna⟩ : ∃ x, (!fa) = x := ⟨_, rfl⟩
    obtain ⟨fr, hfr⟩ : ∃ x, addS fa na a (-(q * n)) = x := ⟨_, rfl⟩
    have qr := Int.mul_ediv_add_emod a n
    rw [hq, hr, Int.mul_comm] at qr
    have r0 : 0 ≤ r := by rw [← hr]; exact Int.emod_nonneg a (by omega)
    have r1 : r < n := by rw [← hr]; exact Int.emod_lt_of_pos a hp
    have iq : InW q := by
      have := ha.1; have := ha.2
      unfold InW
      have g1 : -170141183460469231731687303715884105728 ≤ q := by
        rw [← hq]; refine Int.le_ediv_of_mul_le hp ?_
        have := Int.mul_le_mul_of_nonneg_left (show 1 ≤ n by omega) (show (0 : Int) ≤ 170141183460469231731687303715884105728 by decide)
        omega
      have g2 : q < 170141183460469231731687303715884105728 := by
        rw [← hq]; refine Int.ediv_lt_of_lt_mul hp ?_
        have := Int.mul_le_mul_of_nonneg_left (show 1 ≤ n by omega) (show (0 : Int) ≤ 170141183460469231731687303715884105728 by decide)
        omega
      exact ⟨g1, g2⟩
    have Gq : Sg fa q := by
      refine ⟨fun c => Ga.1 ?_, fun c => Ga.2 ?_⟩
      · have := Int.mul_le_mul_of_nonneg_right (show q ≤ -1 by omega) (show 0 ≤ n by omega)
        omega
      · have := Int.mul_le_mul_of_nonneg_right (show 1 ≤ q by omega) (show 0 ≤ n by omega)
        omega
    have Gt : Sg fa (q * n) := by have := Gq.mul (Sg.pos n1); simpa using this
    have Gn : Sg na (-(q * n)) := by rw [← hna]; exact Gt.neg
    have Gr : Sg fr r := by have := addS_sg Ga Gn; rwa [hfr, show a + -(q * n) = r by omega] at this
    have x1 : xq ≤ 170141183460469231731687303715884105728 := by rw [← hxq]; unfold absI; have := iq.1; have := iq.2; split <;> omega
    have x2 : 0 ≤ xq := by rw [← hxq]; exact absI_nonneg q
    have x3 : xq * n ≤ 170141183460469231731687303715884105728 * 18446744073709551615 := Int.mul_le_mul x1 n2 n1 (by omega)
    have x4 : xt = xq * n := by rw [← hxt, absI_mul, hxq, absI_pos n1]
    have D1 : Hid (∀ w, Calls Try.prog 18 #[WV a, .int .u64 n] w fun e w' => e = .returned (.tuple #[WV q, .int .u64 r, .bool true]) ∧ Mo w w') := Lib.hid (by rw [← hq, ← hr]; exact div_any a n ha hp (by omega))
    have N1 : Hid (∀ w, Calls Try.prog 15 #[.int .u64 n] w fun e w' => e = .returned (NN false n) ∧ Mo w w') := Lib.hid (num64_any n n1 (by omega))
    have N2 : Hid (∀ w, Calls Try.prog 15 #[.int .u64 r] w fun e w' => e = .returned (NN false r) ∧ Mo w w') := Lib.hid (num64_any r r0 (by omega))
    have L1 : Hid (∀ w, Calls Try.prog 17 #[NN fa xa, NN false n] w fun e w' => e = .returned (NN fa xq) ∧ Mo w w') := Lib.hid (fun w => by
      have := rfloor_any fa a n Ga (by rw [hxa]; omega) hp (by omega) w
      rwa [hxa, hq, hxq] at this)
    have T1 : Hid (∀ w, Calls Try.prog 12 #[NN fa xq, NN false n] w fun e w' => e = .returned (NN fa xt) ∧ Mo w w') := Lib.hid (fun w => by
      have := rmul_sg fa false q n (by rw [hxq]; omega) (by rw [hxq, absI_pos n1]; omega) w
      rw [hxq, hxt, absI_pos n1] at this
      simpa using this)
    have T2 : Hid (∀ w, Calls Try.prog 22 #[NN fa xt] w fun e w' => e = .returned (NN na xt) ∧ Mo w w') := Lib.hid (by rw [← hna]; exact rneg_any fa _)
    have T3 : Hid (∀ w, Calls Try.prog 21 #[NN fa xa, NN na xt] w fun e w' => e = .returned (NN fr r) ∧ Mo w w') := Lib.hid (fun w => by
      have := radd_any fa na a (-(q * n)) Ga Gn (by rw [hxa]; omega) (by rw [absI_neg, hxt]; omega) w
      rwa [hfr, hxa, absI_neg, hxt, show a + -(q * n) = r by omega, absI_pos r0] at this)
    have X1 : Hid (∀ w, Calls Try.prog 11 #[NN fa xq] w fun e w' => e = .returned (WV q) ∧ Mo w w') := Lib.hid (fun w => by
      have := rwide_any fa q Gq (by rw [hxq]; omega) w
      rwa [hxq, cl_in iq] at this)
    have C2 : Hid (∀ w, Calls Try.prog 20 #[NN false r, NN fr r] w fun e w' => e = .returned (.int .i64 0) ∧ Mo w w') := Lib.hid (fun w => by
      have := rcmp_sg false fr r r (Sg.pos r0) Gr (by rw [absI_pos r0]; omega) (by rw [absI_pos r0]; omega) w
      rwa [absI_pos r0, show cmpI r r = 0 by unfold cmpI; rw [if_neg (by omega), if_neg (by omega)]] at this)
    clear hfa hxa hc hdc hac ho Ga Gc cb a0 a2 ha n1 n2 hq hr hxq hxt hna hfr qr r0 r1 iq Gq Gt Gn Gr x1 x2 x3 x4
    go_enter Try.func4, Try.ntmps4
    go_wp2_with fail
    refine (known_any _).mono ?_; rintro e w1 ⟨rfl, J0, d0, rfl⟩
    go_wp2_with fail
    refine (F1.out _).mono ?_; rintro e w1 ⟨rfl, J1, d1, rfl⟩
    go_wp2_with fail
    refine (D1.out _).mono ?_; rintro e w1 ⟨rfl, J2, d2, rfl⟩
    go_wp2_with fail
    refine (K1.out _).mono ?_; rintro e w1 ⟨rfl, J3, d3, rfl⟩
    go_wp2_with fail
    refine (O1.out _).mono ?_; rintro e w1 ⟨rfl, J4, d4, rfl⟩
    go_wp2_with fail
    refine (C1.out _).mono ?_; rintro e w1 ⟨rfl, J5, d5, rfl⟩
    go_upto_region 7 with (fail)
    refine wp_name ?_
    intro W hW
    have M0 : Mo w W := by rw [hW]; exact Mor.out
    have c20 : W.cell? ⟨w.heap.size, 0, none⟩ = some (.int .i64 (hiW a)) := by rw [hW]; simp [go_sem]
    have c21 : W.cell? ⟨w.heap.size, 1, none⟩ = some (.int .u64 (loW a)) := by rw [hW]; simp [go_sem]
    have B5 : Blk W (w.heap.size + 1 + (J0.size + J1.size)) 29 (numC fa (lim xa)) := by rw [hW]; infer_instance
    have c60 : W.cell? ⟨w.heap.size + 1 + (J0.size + J1.size) + 1 + J2.size, 0, none⟩ = some (.int .i64 (hiW q)) := by rw [hW]; simp [go_sem]
    have c61 : W.cell? ⟨w.heap.size + 1 + (J0.size + J1.size) + 1 + J2.size, 1, none⟩ = some (.int .u64 (loW q)) := by rw [hW]; simp [go_sem]
    clear hW
    generalize w.heap.size + 1 + (J0.size + J1.size) + 1 + J2.size = p6 at *
    generalize w.heap.size + 1 + (J0.size + J1.size) = p5 at *
    generalize w.heap.size = p2 at *
    have L2 : LtW p2 W := LtW.of_cell c20
    have L6 : LtW p6 W := LtW.of_cell c60
    go_cut [46] (fun s wx => s = .bool false ∧ Mo W wx)
    case first =>
      as_aux_lemma =>
        rcases cc with ⟨rfl, rfl⟩ | rfl | ⟨rfl, rfl⟩
        · go_wp2_with (first | ((with_reducible refine (K1.out _).mono ?_); rintro e w1 ⟨rfl, J6, d6, rfl⟩))
          go_meet
          exact ⟨rfl, Mor.out⟩
        · go_wp2_with (first | ((with_reducible refine (K1.out _).mono ?_); rintro e w1 ⟨rfl, J6, d6, rfl⟩))
          go_meet
          exact ⟨rfl, Mor.out⟩
        · go_wp2_with (first | ((with_reducible refine (K1.out _).mono ?_); rintro e w1 ⟨rfl, J6, d6, rfl⟩))
          go_meet
          exact ⟨rfl, Mor.out⟩
    obtain ⟨rfl, hM⟩ := hcut
    replace c20 : wc.cell? ⟨p2, 0, none⟩ = some (.int .i64 (hiW a)) := hM.cell.trans c20
    replace c21 : wc.cell? ⟨p2, 1, none⟩ = some (.int .u64 (loW a)) := hM.cell.trans c21
    replace c60 : wc.cell? ⟨p6, 0, none⟩ = some (.int .i64 (hiW q)) := hM.cell.trans c60
    replace c61 : wc.cell? ⟨p6, 1, none⟩ = some (.int .u64 (loW q)) := hM.cell.trans c61
    replace B5 : Blk wc p5 29 (numC fa (lim xa)) := hM.blk B5
    replace M0 := M0.trans hM
    clear hM L2 L6
    have L2 : LtW p2 wc := LtW.of_cell c20
    have L6 : LtW p6 wc := LtW.of_cell c60
    rename World => Wa
    go_wp2_with fail
    refine (N1.out _).mono ?_; rintro e w1 ⟨rfl, J7, d7, rfl⟩
    go_wp2_with fail
    refine (L1.out _).mono ?_; rintro e w1 ⟨rfl, J8, d8, rfl⟩
    go_wp2_with fail
    refine wp_name ?_
    intro V hV
    have M1 : Mo Wa V := by rw [hV]; exact Mor.out
    have B11 : Blk V (Wa.heap.size + J7.size) 29 (numC false (lim n)) := by rw [hV]; infer_instance
    have B12 : Blk V (Wa.heap.size + J7.size + 1 + J8.size) 29 (numC fa (lim xq)) := by rw [hV]; infer_instance
    clear hV
    generalize Wa.heap.size + J7.size + 1 + J8.size = p12 at *
    generalize Wa.heap.size + J7.size = p11 at *
    replace c60 : V.cell? ⟨p6, 0, none⟩ = some (.int .i64 (hiW q)) := M1.cell.trans c60
    replace c61 : V.cell? ⟨p6, 1, none⟩ = some (.int .u64 (loW q)) := M1.cell.trans c61
    replace B5 : Blk V p5 29 (numC fa (lim xa)) := M1.blk B5
    replace M0 := M0.trans M1
    clear c20 c21 M1 L2 L6
    have L6 : LtW p6 V := LtW.of_cell c60
    go_cut [13] (fun s wx => ∃ p, s = .pointer (some ⟨p, 0, none⟩) ∧ Blk wx p 29 (numC fr (lim r)) ∧ Mo V wx)
    case first =>
      as_aux_lemma =>
        go_region_held3 (fun w' => MoC V w') (exact ⟨Mor.out⟩)
          (first
          | ((with_reducible refine (T1.out _).mono ?_); rintro e w1 ⟨rfl, J3, d3, rfl⟩)
          | ((with_reducible refine (T2.out _).mono ?_); rintro e w1 ⟨rfl, J3, d3, rfl⟩)
          | ((with_reducible refine (T3.out _).mono ?_); rintro e w1 ⟨rfl, J3, d3, rfl⟩))
        all_goals (go_wp2_with fail; go_meet; exact ⟨_, rfl, inferInstance, Mor.out⟩)
    obtain ⟨p13, rfl, B13, hM⟩ := hcut
    replace c60 : wc.cell? ⟨p6, 0, none⟩ = some (.int .i64 (hiW q)) := hM.cell.trans c60
    replace c61 : wc.cell? ⟨p6, 1, none⟩ = some (.int .u64 (loW q)) := hM.cell.trans c61
    replace B12 : Blk wc p12 29 (numC fa (lim xq)) := hM.blk B12
    replace M0 := M0.trans hM
    clear hM L6 B5 B11
    have L6 : LtW p6 wc := LtW.of_cell c60
    rename World => Wb
    go_wp2_with fail
    refine wp_region_mo (by kernel_rfl) (by kernel_rfl) ?_
    repeat (go_big_quiet_step (first | (with_reducible exact quiet_mo (X1.out _)) | (with_reducible exact quiet_mo (N2.out _)) | (with_reducible exact quiet_mo (C2.out _))))
    refine wpQuiet_nil ?_
    intro _ hw'
    obtain ⟨⟨J9, d9⟩, hw''⟩ := hw'
    subst hw''
    go_wp2_with fail
    go_ret
    exact ⟨rfl, M0.trans Mor.out⟩
end Go.Proofs.Ytaboiojabmbioaa
