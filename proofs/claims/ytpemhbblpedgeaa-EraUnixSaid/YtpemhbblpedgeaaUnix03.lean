/- horologeref03.Unix and .Back, and horologelaw03.EraUnix: it returns true. -/
import Derived.Test.YtpemhbblpedgeaaEra3
import Derived.Test.YtpemhbblpedgeaaRefI
import Derived.Test.YtpemhbblpedgeaaRefK
namespace Go.Proofs.Ytpemhbblpedgeaa
open Go.RowKit

theorem lim_few {n : Int} (h0 : 0 ≤ n) (h1 : n < 65536 ^ 20) (h : ∀ i, 4 ≤ i → i < 20 → lim n i = 0) : n < 65536 ^ 4 := by
  have a : ∀ j, j ≤ 16 → pre (lim n) (4 + j) = pre (lim n) 4 := by
    intro j hj
    induction j with
    | zero => rfl
    | succ j ih =>
      show pre (lim n) (4 + j) + lim n (4 + j) * 65536 ^ (4 + j) = _
      rw [ih (by omega), h (4 + j) (by omega) (by omega)]; omega
  have b := a 16 (by omega)
  rw [pre_lim_end h0 h1, pre_lim] at b
  rw [b]
  exact Int.emod_lt_of_pos n (by decide)
instance blk_lt (w : World) (g : Nat) (t : TypeId) (cs : Array Value) [h : Blk w g t cs] : LtW g w := ⟨h.lt⟩
theorem Mo.blk {a b : World} (h : Mo a b) {g : Nat} {t : TypeId} {cs : Array Value} (k : Blk a g t cs) : Blk b g t cs := by
  obtain ⟨J, d, rfl⟩ := h
  infer_instance
class MoC (a : outParam World) (b : World) : Prop where
  out : Mo a b
instance (priority := low) moc_blk (a b : World) (g : Nat) (t : TypeId) (cs : Array Value) [h : MoC a b] [k : Blk a g t cs] : Blk b g t cs := h.out.blk k
theorem run_field_lo (h l : Int) (w : World) : (Instr.field 24 (.agg #[.int .i64 h, .int .u64 l]) 1).run Try.prog w = .ok (.int .u64 l) w := by kernel_rfl
attribute [go_sem] run_field_lo

set_option maxRecDepth 10000 in
set_option maxHeartbeats 1000000 in
theorem runix_any (s f : Int) (h1 : 0 ≤ s) (h2 : s < 18446744073709551616) (f1 : 0 ≤ f) (f2 : f < 4294967296) (w : World) :
    Calls Try.prog 15 #[.int .u64 s, .int .u32 f] w fun e w' => e = .returned (WV (s * 4294967296 + f + 9487534653230284800)) ∧ Mo w w' := by
  obtain ⟨a, ha⟩ : ∃ x, s + 2208988800 = x := ⟨_, rfl⟩
  obtain ⟨b, hb⟩ : ∃ x, a * 4294967296 = x := ⟨_, rfl⟩
  obtain ⟨c, hc⟩ : ∃ x, b + f = x := ⟨_, rfl⟩
  have N1 : Hid (∀ w, Calls Try.prog 30 #[.int .u64 s] w fun e w' => e = .returned (NN false s) ∧ Mo w w') := Lib.hid (num64_any s h1 h2)
  have N2 : Hid (∀ w, Calls Try.prog 30 #[.int .u64 2208988800] w fun e w' => e = .returned (NN false 2208988800) ∧ Mo w w') := Lib.hid (num64_any _ (by omega) (by omega))
  have N3 : Hid (∀ w, Calls Try.prog 30 #[.int .u64 4294967296] w fun e w' => e = .returned (NN false 4294967296) ∧ Mo w w') := Lib.hid (num64_any _ (by omega) (by omega))
  have N4 : Hid (∀ w, Calls Try.prog 30 #[.int .u64 f] w fun e w' => e = .returned (NN false f) ∧ Mo w w') := Lib.hid (num64_any f f1 (by omega))
  have A1 : Hid (∀ w, Calls Try.prog 26 #[NN false s, NN false 2208988800] w fun e w' => e = .returned (NN false a) ∧ Mo w w') := Lib.hid (fun w => by
    have := radd_any false false s 2208988800 (Sg.pos h1) (Sg.pos (by omega)) (by rw [absI_pos h1]; omega) (by decide) w
    rwa [absI_pos h1, absI_pos (by omega), absI_pos (by omega), ha] at this)
  have M1 : Hid (∀ w, Calls Try.prog 34 #[NN false a, NN false 4294967296] w fun e w' => e = .returned (NN false b) ∧ Mo w w') := Lib.hid (fun w => by
    have := rmul_any false false a 4294967296 (by omega) (by omega) (by omega) (by omega) w
    rwa [hb] at this)
  have A2 : Hid (∀ w, Calls Try.prog 26 #[NN false b, NN false f] w fun e w' => e = .returned (NN false c) ∧ Mo w w') := Lib.hid (fun w => by
    have := radd_any false false b f (Sg.pos (by omega)) (Sg.pos f1) (by rw [absI_pos (by omega)]; omega) (by rw [absI_pos f1]; omega) w
    rwa [absI_pos (by omega), absI_pos f1, absI_pos (by omega), hc] at this)
  have X1 : Hid (∀ w, Calls Try.prog 32 #[NN false c] w fun e w' => e = .returned (WV c) ∧ Mo w w') := Lib.hid (fun w => by
    have := rwide_any false c (Sg.pos (by omega)) (by rw [absI_pos (by omega)]; omega) w
    rwa [absI_pos (by omega), cl_in (by unfold InW; omega)] at this)
  rw [show s * 4294967296 + f + 9487534653230284800 = c by omega]
  clear ha hb hc h1 h2
  go_enter Try.func15, Try.ntmps15
  go_wp2_with fail
  refine (N1.out _).mono ?_; rintro e w1 ⟨rfl, J1, d1, rfl⟩
  go_wp2_with fail
  refine (N2.out _).mono ?_; rintro e w1 ⟨rfl, J2, d2, rfl⟩
  go_wp2_with fail
  refine (A1.out _).mono ?_; rintro e w1 ⟨rfl, J3, d3, rfl⟩
  go_upto_region 2 with (fail)
  refine wp_region_mo_tail 8 (by kernel_rfl) (by kernel_rfl) ?_
  simp only [List.take_succ_cons, List.take_zero, List.drop_succ_cons, List.drop_zero]
  repeat (go_big_quiet_step (first | (with_reducible exact quiet_mo (N3.out _)) | (with_reducible exact quiet_mo (N4.out _)) | (with_reducible exact quiet_mo (M1.out _)) | (with_reducible exact quiet_mo (A2.out _)) | (with_reducible exact quiet_mo (X1.out _))))
  refine wpQuiet_nil ?_
  intro _ hw'
  obtain ⟨⟨J9, d9⟩, hw''⟩ := hw'
  subst hw''
  go_wp2_with fail
  exact bodyPost_ret (v := WV c) (by simp [results, Try.results15, go_sem]) rfl ⟨rfl, Mor.out⟩

theorem blk_cell {w : World} {g : Nat} {t : TypeId} {cs : Array Value} (h : Blk w g t cs) (i : Nat) : w.cell? ⟨g, i, none⟩ = cs[i]? := by
  unfold World.cell?
  rw [h.out]
  simp
/-- what Back reckons: whether there is a time, and which -/
def BackOut (a A B : Int) (ok : Bool) : Prop :=
  (ok = false ∧ A = 0 ∧ B = 0 ∧ ((a - 9487534653230284800) / 4294967296 < 0 ∨ 18446744073709551616 ≤ (a - 9487534653230284800) / 4294967296)) ∨
  (ok = true ∧ A = (a - 9487534653230284800) / 4294967296 ∧ B = a % 4294967296 ∧ 0 ≤ A ∧ A < 18446744073709551616)
theorem back_ex (a : Int) : ∃ A B ok, BackOut a A B ok := by
  by_cases c : 0 ≤ (a - 9487534653230284800) / 4294967296 ∧ (a - 9487534653230284800) / 4294967296 < 18446744073709551616
  · exact ⟨_, _, true, .inr ⟨rfl, rfl, rfl, c.1, c.2⟩⟩
  · exact ⟨0, 0, false, .inl ⟨rfl, rfl, rfl, by omega⟩⟩
theorem back_any (a A B : Int) (ok : Bool) (ia : InW a) (h : BackOut a A B ok) (w : World) :
    Calls Try.prog 12 #[WV a] w fun e w' => e = .returned (.tuple #[.int .u64 A, .int .u32 B, .bool ok]) ∧ Mo w w' := by
  have a1 := ia.1
  have a2 := ia.2
  rcases h with ⟨rfl, rfl, rfl, h⟩ | ⟨rfl, rfl, rfl, h1, h2⟩
  · exact back_no a _ ia rfl (by unfold cl minW maxW; split; omega; split <;> omega) w
  · have e : cl (a - 9487534653230284800) = a - 9487534653230284800 := cl_in (by unfold InW; omega)
    have := back_yes a _ ia e.symm (by omega) (by omega) w
    rwa [show (a - 9487534653230284800) % 4294967296 = a % 4294967296 by omega] at this

set_option maxRecDepth 20000 in
set_option maxHeartbeats 4000000 in
theorem rback_any (a A B : Int) (ok : Bool) (ia : InW a) (h : BackOut a A B ok) (w : World) :
    Calls Try.prog 13 #[WV a] w fun e w' => e = .returned (.tuple #[.int .u64 A, .int .u32 B, .bool ok]) ∧ Mo w w' := by
  have a1 := ia.1
  have a2 := ia.2
  obtain ⟨fa, hfa⟩ : ∃ x, fromS a = x := ⟨_, rfl⟩
  obtain ⟨xa, hxa⟩ : ∃ x, absI a = x := ⟨_, rfl⟩
  obtain ⟨fc, hfc⟩ : ∃ x, fromS 9487534653230284800 = x := ⟨_, rfl⟩
  obtain ⟨nc, hnc⟩ : ∃ x, (!fc) = x := ⟨_, rfl⟩
  obtain ⟨dd, hdd⟩ : ∃ x, a - 9487534653230284800 = x := ⟨_, rfl⟩
  obtain ⟨fd, hfd⟩ : ∃ x, addS fa nc a (-9487534653230284800) = x := ⟨_, rfl⟩
  obtain ⟨xd, hxd⟩ : ∃ x, absI dd = x := ⟨_, rfl⟩
  obtain ⟨q, hq⟩ : ∃ x, dd / 4294967296 = x := ⟨_, rfl⟩
  obtain ⟨xq, hxq⟩ : ∃ x, absI q = x := ⟨_, rfl⟩
  have Ga : Sg fa a := by rw [← hfa]; exact fromS_sg a
  have Gn : Sg nc (-9487534653230284800) := by rw [← hnc, ← hfc]; exact (fromS_sg 9487534653230284800).neg
  have Gd : Sg fd dd := by have := addS_sg Ga Gn; rwa [hfd, show a + -9487534653230284800 = dd by omega] at this
  have Gq : Sg fd q := ⟨fun c => Gd.1 (by omega), fun c => Gd.2 (by omega)⟩
  have cA : absI 9487534653230284800 = 9487534653230284800 := by decide
  have F1 : Hid (∀ w, Calls Try.prog 27 #[WV a] w fun e w' => e = .returned (NN fa xa) ∧ Mo w w') := Lib.hid (by rw [← hfa, ← hxa]; exact from_any a ia)
  have U1 : Hid (∀ w, Calls Try.prog 15 #[.int .u64 0, .int .u32 0] w fun e w' => e = .returned (WV 9487534653230284800) ∧ Mo w w') := Lib.hid (runix_any 0 0 (by omega) (by omega) (by omega) (by omega))
  have F2 : Hid (∀ w, Calls Try.prog 27 #[WV 9487534653230284800] w fun e w' => e = .returned (NN fc 9487534653230284800) ∧ Mo w w') := Lib.hid (fun w => by
    have := from_any 9487534653230284800 (by unfold InW; omega) w
    rwa [hfc, cA] at this)
  have T1 : Hid (∀ w, Calls Try.prog 28 #[NN fc 9487534653230284800] w fun e w' => e = .returned (NN nc 9487534653230284800) ∧ Mo w w') := Lib.hid (by rw [← hnc]; exact rneg_any fc _)
  have T2 : Hid (∀ w, Calls Try.prog 26 #[NN fa xa, NN nc 9487534653230284800] w fun e w' => e = .returned (NN fd xd) ∧ Mo w w') := Lib.hid (fun w => by
    have := radd_any fa nc a (-9487534653230284800) Ga Gn (by unfold absI; split <;> omega) (by decide) w
    rwa [hfd, hxa, absI_neg, cA, show a + -9487534653230284800 = dd by omega, hxd] at this)
  have N1 : Hid (∀ w, Calls Try.prog 30 #[.int .u64 4294967296] w fun e w' => e = .returned (NN false 4294967296) ∧ Mo w w') := Lib.hid (num64_any _ (by omega) (by omega))
  have L1 : Hid (∀ w, Calls Try.prog 29 #[NN fd xd, NN false 4294967296] w fun e w' => e = .returned (NN fd xq) ∧ Mo w w') := Lib.hid (fun w => by
    have := rfloor_any fd dd 4294967296 Gd (by rw [hxd, ← hxd]; unfold absI; split <;> omega) (by omega) (by omega) w
    rwa [hxd, hq, hxq] at this)
  have q0 : 0 ≤ xq := by rw [← hxq]; exact absI_nonneg q
  have q1 : xq < 65536 ^ 20 := by rw [← hxq]; unfold absI; split <;> omega
  have Z1 : Hid (∀ w, Calls Try.prog 31 #[NN fd xq] w fun e w' => e = .returned (.bool (decide (xq = 0))) ∧ Mo w w') := Lib.hid (rzero_any fd xq q0 q1)
  have X1 : Hid (∀ w, Calls Try.prog 32 #[NN fd xq] w fun e w' => e = .returned (WV q) ∧ Mo w w') := Lib.hid (fun w => by
    have := rwide_any fd q Gq (by rw [hxq]; exact q1) w
    rwa [hxq, cl_in (by unfold InW; omega)] at this)
  have LB := fun j => (lim_bd xq j).1
  have la := lo1 a
  have lb := lo2 a
  -- the outcomes, in the letters of the walk
  have OUT : Hid ((ok = false ∧ A = 0 ∧ B = 0 ∧ (18446744073709551616 ≤ xq ∨ fd = true ∧ xq ≠ 0)) ∨ (ok = true ∧ A = loW q ∧ B = loW a % 4294967296 ∧ xq < 18446744073709551616 ∧ (fd = true ∧ xq = 0 ∨ fd = false))) := Lib.hid (by
    rcases h with ⟨h1, h2, h3, h4⟩ | ⟨h1, h2, h3, h4, h5⟩
    · left
      refine ⟨h1, h2, h3, ?_⟩
      rw [hdd, hq] at h4
      rcases h4 with h4 | h4
      · right; exact ⟨Gq.1 h4, by rw [← hxq]; unfold absI; rw [if_pos h4]; omega⟩
      · left; rw [← hxq, absI_pos (by omega)]; exact h4
    · right
      rw [hdd, hq] at h2
      have e : xq = q := by rw [← hxq, absI_pos (by omega)]
      refine ⟨h1, by unfold loW; omega, by rw [h3]; unfold loW; omega, by omega, ?_⟩
      cases hfd2 : fd
      · right; rfl
      · left
        refine ⟨rfl, ?_⟩
        rcases Int.lt_or_le 0 q with c | c
        · have := Gq.2 c; rw [hfd2] at this; cases this
        · omega)
  have LF : Hid ((∀ i, 4 ≤ i → i < 20 → lim xq i = 0) → xq < 18446744073709551616) := Lib.hid (fun h => lim_few q0 q1 h)
  have LG : Hid (xq < 18446744073709551616 → ∀ i, 4 ≤ i → lim xq i = 0) := Lib.hid (fun c i hi => lim_great (k := 4) q0 c hi)
  clear h a1 a2 ia hfa hxa hfc hnc hdd hfd hxd hq hxq Ga Gn Gd Gq cA q0 q1
  go_enter Try.func13, Try.ntmps13
  go_wp2_with fail
  refine (F1.out _).mono ?_; rintro e w1 ⟨rfl, J1, d1, rfl⟩
  go_wp2_with fail
  refine (U1.out _).mono ?_; rintro e w1 ⟨rfl, J2, d2, rfl⟩
  go_wp2_with fail
  refine (F2.out _).mono ?_; rintro e w1 ⟨rfl, J3, d3, rfl⟩
  go_wp2_with fail
  refine (T1.out _).mono ?_; rintro e w1 ⟨rfl, J4, d4, rfl⟩
  go_wp2_with fail
  refine (T2.out _).mono ?_; rintro e w1 ⟨rfl, J5, d5, rfl⟩
  go_wp2_with fail
  refine wp_name ?_
  intro W hW
  have M0 : Mo w W := by rw [hW]; exact Mor.out
  have c10 : W.cell? ⟨w.heap.size, 0, none⟩ = some (.int .i64 (hiW a)) := by rw [hW]; simp [go_sem]
  have c11 : W.cell? ⟨w.heap.size, 1, none⟩ = some (.int .u64 (loW a)) := by rw [hW]; simp [go_sem]
  have B5 : Blk W (w.heap.size + 1 + (J1.size + (J2.size + (J3.size + (J4.size + J5.size))))) 51 (numC fd (lim xd)) := by rw [hW]; infer_instance
  clear hW
  generalize w.heap.size + 1 + (J1.size + (J2.size + (J3.size + (J4.size + J5.size)))) = p5 at *
  generalize w.heap.size = p1 at *
  have L1' : LtW p1 W := LtW.of_cell c10
  go_cut [6] (fun s wx => ∃ p, s = .pointer (some ⟨p, 0, none⟩) ∧ Blk wx p 51 (numC fd (lim xq)) ∧ Mo W wx)
  case first =>
    as_aux_lemma =>
      go_region_held3 (fun w' => MoC W w') (exact ⟨Mor.out⟩)
        (first
        | ((with_reducible refine (N1.out _).mono ?_); rintro e w1 ⟨rfl, J3, d3, rfl⟩)
        | ((with_reducible refine (L1.out _).mono ?_); rintro e w1 ⟨rfl, J3, d3, rfl⟩))
      all_goals (go_wp2_with fail; go_meet; exact ⟨_, rfl, inferInstance, Mor.out⟩)
  obtain ⟨p6, rfl, B6, hM⟩ := hcut
  replace c10 : wc.cell? ⟨p1, 0, none⟩ = some (.int .i64 (hiW a)) := hM.cell.trans c10
  replace c11 : wc.cell? ⟨p1, 1, none⟩ = some (.int .u64 (loW a)) := hM.cell.trans c11
  replace M0 := M0.trans hM
  clear hM L1' B5
  have L1' : LtW p1 wc := LtW.of_cell c10
  rename World => Wa
  have D0 : Wa.cell? ⟨p6, 0, none⟩ = some (.bool fd) := by rw [blk_cell B6, numC_0]
  have DC := Lib.hid (fun (i : Nat) (hi : i < 20) => (show Wa.cell? ⟨p6, 1 + i, none⟩ = some (.int .u64 (lim xq i)) by rw [blk_cell B6, numC_get _ _ i hi]))
  go_wp2_with fail
  go_loop [7] (fun i => ∃ k : Nat, 4 ≤ k ∧ k ≤ 20 ∧ i = .int .i64 k ∧ Hid (∀ j, 4 ≤ j → j < k → lim xq j = 0)) (fun i => 20 - (intOf i).toNat)
  case atStart => exact ⟨4, by omega, by omega, rfl, Lib.hid (fun j _ _ => by omega)⟩
  case round =>
    obtain ⟨k, hk4, hk, rfl, hz⟩ := hrel
    by_cases ck : k < 20
    · have DK := DC.out k ck
      by_cases z : lim xq k = 0
      · have zn : ¬ 0 < lim xq k := by omega
        go_wp2_with fail
        go_round
        case rel => exact ⟨k + 1, by omega, by omega, by go_num, Lib.hid (fun j h4 hj => by
          rcases Nat.lt_or_ge j k with c | c
          · exact hz.out j h4 c
          · obtain rfl : j = k := by omega
            exact z)⟩
        case measure => simp [intOf]; omega
      · have zn : 0 < lim xq k := by have := LB k; omega
        rcases OUT.out with ⟨rfl, rfl, rfl, _⟩ | ⟨_, _, _, x1, _⟩
        · go_wp2_with fail
          exact bodyPost_ret (v := .tuple #[.int .u64 0, .int .u32 0, .bool false]) (by simp [results, Try.results13, go_sem]) rfl ⟨rfl, M0.trans Mor.out⟩
        · exact absurd (LG.out x1 k hk4) z
    · obtain rfl : k = 20 := by omega
      have x4 := LF.out (fun i h4 h20 => hz.out i h4 h20)
      rcases OUT.out with ⟨rfl, rfl, rfl, x5⟩ | ⟨rfl, rfl, rfl, x1, x2⟩
      · obtain ⟨rfl, x6⟩ : fd = true ∧ xq ≠ 0 := by
          rcases x5 with x5 | x5
          · omega
          · exact x5
        rw [decide_eq_false x6] at Z1
        clear OUT LF LG hz x4 x5 LB
        go_wp2_with fail
        refine (Z1.out _).mono ?_; rintro e w1 ⟨rfl, J6, d6, rfl⟩
        go_wp2_with fail
        exact bodyPost_ret (v := .tuple #[.int .u64 0, .int .u32 0, .bool false]) (by simp [results, Try.results13, go_sem]) rfl ⟨rfl, M0.trans Mor.out⟩
      · rcases x2 with ⟨rfl, x3⟩ | rfl
        · rw [decide_eq_true x3] at Z1
          clear OUT LF LG hz x4 x1 x3 LB
          go_wp2_with fail
          refine (Z1.out _).mono ?_; rintro e w1 ⟨rfl, J6, d6, rfl⟩
          go_wp2_with fail
          refine wp_region_mo' (by kernel_rfl) (by kernel_rfl) ?_
          repeat (go_big_quiet_step (first | (with_reducible exact quiet_mo (X1.out _))))
          refine wpQuiet_nil ?_
          intro _ hw'
          obtain ⟨⟨J9, d9⟩, hw''⟩ := hw'
          subst hw''
          go_wp2_with fail
          exact bodyPost_ret (v := .tuple #[.int .u64 (loW q), .int .u32 (loW a % 4294967296), .bool true]) (by simp [results, Try.results13, go_sem]) rfl ⟨rfl, M0.trans Mor.out⟩
        · clear OUT LF LG hz x4 x1 LB
          go_wp2_with fail
          refine wp_region_mo (by kernel_rfl) (by kernel_rfl) ?_
          repeat (go_big_quiet_step (first | (with_reducible exact quiet_mo (X1.out _))))
          refine wpQuiet_nil ?_
          intro _ hw'
          obtain ⟨⟨J9, d9⟩, hw''⟩ := hw'
          subst hw''
          go_wp2_with fail
          exact bodyPost_ret (v := .tuple #[.int .u64 (loW q), .int .u32 (loW a % 4294967296), .bool true]) (by simp [results, Try.results13, go_sem]) rfl ⟨rfl, M0.trans Mor.out⟩

set_option maxRecDepth 20000 in
set_option maxHeartbeats 4000000 in
theorem unix03_any (s f a : Int) (s1 : 0 ≤ s) (s2 : s ≤ 18446744073709551615) (f1 : 0 ≤ f) (f2 : f ≤ 4294967295) (ia : InW a) (w : World) :
    Calls Try.prog 4 #[.int .u64 s, .int .u32 f, WV a] w fun e w' => e = .returned (.bool true) ∧ Mo w w' := by
  obtain ⟨A, B, ok, h⟩ := back_ex a
  obtain ⟨z, hz⟩ : ∃ x, s * 4294967296 + f + 9487534653230284800 = x := ⟨_, rfl⟩
  have K1 : Hid (∀ w, Calls Try.prog 12 #[WV a] w fun e w' => e = .returned (.tuple #[.int .u64 A, .int .u32 B, .bool ok]) ∧ Mo w w') := Lib.hid (back_any a A B ok ia h)
  have K2 : Hid (∀ w, Calls Try.prog 13 #[WV a] w fun e w' => e = .returned (.tuple #[.int .u64 A, .int .u32 B, .bool ok]) ∧ Mo w w') := Lib.hid (rback_any a A B ok ia h)
  have U1 : Hid (∀ w, Calls Try.prog 14 #[.int .u64 s, .int .u32 f] w fun e w' => e = .returned (WV z) ∧ Mo w w') := Lib.hid (by rw [← hz]; exact unix_any s f s1 (by omega) f1 (by omega))
  have U2 : Hid (∀ w, Calls Try.prog 15 #[.int .u64 s, .int .u32 f] w fun e w' => e = .returned (WV z) ∧ Mo w w') := Lib.hid (by rw [← hz]; exact runix_any s f s1 (by omega) f1 (by omega))
  clear h hz s1 s2 f1 f2 ia
  go_enter Try.func4, Try.ntmps4
  go_wp2_with fail
  refine (known_any _).mono ?_; rintro e w1 ⟨rfl, J0, d0, rfl⟩
  go_wp2_with fail
  refine (K1.out _).mono ?_; rintro e w1 ⟨rfl, J1, d1, rfl⟩
  go_wp2_with fail
  refine (K2.out _).mono ?_; rintro e w1 ⟨rfl, J2, d2, rfl⟩
  go_wp2_with fail
  refine (U1.out _).mono ?_; rintro e w1 ⟨rfl, J3, d3, rfl⟩
  go_wp2_with fail
  refine (U2.out _).mono ?_; rintro e w1 ⟨rfl, J4, d4, rfl⟩
  go_wp2_with fail
  go_ret
  exact ⟨rfl, Mor.out⟩
end Go.Proofs.Ytpemhbblpedgeaa
