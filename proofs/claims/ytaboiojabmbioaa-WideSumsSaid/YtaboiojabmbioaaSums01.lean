/- horologelaw01.WideSums returns true. -/
import Derived.Test.YtaboiojabmbioaaKnown01
import Derived.Test.YtaboiojabmbioaaRefI
namespace Go.Proofs.Ytaboiojabmbioaa
open Go.RowKit

instance blk_lt (w : World) (g : Nat) (t : TypeId) (cs : Array Value) [h : Blk w g t cs] : LtW g w := ⟨h.lt⟩
theorem Mo.blk {a b : World} (h : Mo a b) {g : Nat} {t : TypeId} {cs : Array Value} (k : Blk a g t cs) : Blk b g t cs := by
  obtain ⟨J, d, rfl⟩ := h
  infer_instance

set_option maxRecDepth 100000 in
set_option maxHeartbeats 4000000 in
theorem sums_any (a b n : Int) (ha : InW a) (hb : InW b) (n1 : -9223372036854775808 ≤ n) (n2 : n ≤ 9223372036854775807) (w : World) :
    Calls Try.prog 5 #[WV a, WV b, .int .i64 n] w fun e w' => e = .returned (.bool true) ∧ Mo w w' := by
  obtain ⟨fa, hfa⟩ : ∃ x, fromS a = x := ⟨_, rfl⟩
  obtain ⟨fb, hfb⟩ : ∃ x, fromS b = x := ⟨_, rfl⟩
  obtain ⟨nb, hnb⟩ : ∃ x, (!fb) = x := ⟨_, rfl⟩
  obtain ⟨na, hna⟩ : ∃ x, (!fa) = x := ⟨_, rfl⟩
  obtain ⟨xa, hxa⟩ : ∃ x, absI a = x := ⟨_, rfl⟩
  obtain ⟨xb, hxb⟩ : ∃ x, absI b = x := ⟨_, rfl⟩
  obtain ⟨s, hs⟩ : ∃ x, cl (a + b) = x := ⟨_, rfl⟩
  obtain ⟨d, hd⟩ : ∃ x, cl (a - b) = x := ⟨_, rfl⟩
  obtain ⟨u, hu⟩ : ∃ x, cl (-a) = x := ⟨_, rfl⟩
  obtain ⟨v, hv⟩ : ∃ x, cl xa = x := ⟨_, rfl⟩
  obtain ⟨fs, hfs⟩ : ∃ x, addS fa fb a b = x := ⟨_, rfl⟩
  obtain ⟨xs, hxs⟩ : ∃ x, absI (a + b) = x := ⟨_, rfl⟩
  obtain ⟨fd, hfd⟩ : ∃ x, addS fa nb a (-b) = x := ⟨_, rfl⟩
  obtain ⟨xd, hxd⟩ : ∃ x, absI (a - b) = x := ⟨_, rfl⟩
  obtain ⟨dn, hdn⟩ : ∃ x, decide (n < 0) = x := ⟨_, rfl⟩
  obtain ⟨an, han⟩ : ∃ x, absI n = x := ⟨_, rfl⟩
  obtain ⟨o, ho⟩ : ∃ x, cmpI a b = x := ⟨_, rfl⟩
  have Ga : Sg fa a := by rw [← hfa]; exact fromS_sg a
  have Gb : Sg fb b := by rw [← hfb]; exact fromS_sg b
  have Gn : Sg nb (-b) := by rw [← hnb]; exact Gb.neg
  have Gu : Sg na (-a) := by rw [← hna]; exact Ga.neg
  have a2 : xa < 65536 ^ 19 := by rw [← hxa]; unfold absI; have := ha.1; have := ha.2; split <;> omega
  have b2 : xb < 65536 ^ 19 := by rw [← hxb]; unfold absI; have := hb.1; have := hb.2; split <;> omega
  have p : (65536 : Int) ^ 19 ≤ 65536 ^ 20 := by decide
  have F1 : Hid (∀ w, Calls Try.prog 9 #[WV a] w fun e w' => e = .returned (NN fa xa) ∧ Mo w w') := Lib.hid (by rw [← hfa, ← hxa]; exact from_any a ha)
  have F2 : Hid (∀ w, Calls Try.prog 9 #[WV b] w fun e w' => e = .returned (NN fb xb) ∧ Mo w w') := Lib.hid (by rw [← hfb, ← hxb]; exact from_any b hb)
  have O1 : Hid (∀ w, Calls Try.prog 13 #[.int .i64 n] w fun e w' => e = .returned (NN dn an) ∧ Mo w w') := Lib.hid (by rw [← hdn, ← han]; exact rof_any n n1 n2)
  have X1 : Hid (∀ w, Calls Try.prog 11 #[NN dn an] w fun e w' => e = .returned (WV n) ∧ Mo w w') := Lib.hid (fun w => by
    have := rwide_any dn n (by rw [← hdn]; exact Sg.dec n) (by unfold absI; split <;> omega) w
    rwa [han, cl_in (inW_i64 n1 n2)] at this)
  have W1 : Hid (∀ w, Calls Try.prog 23 #[.int .i64 n] w fun e w' => e = .returned (WV n) ∧ Mo w w') := Lib.hid (of_any n n1 n2)
  have W2 : Hid (∀ w, Calls Try.prog 24 #[WV a, WV b] w fun e w' => e = .returned (WV s) ∧ Mo w w') := Lib.hid (by rw [← hs]; exact add_any a b ha hb)
  have W3 : Hid (∀ w, Calls Try.prog 25 #[WV a, WV b] w fun e w' => e = .returned (WV d) ∧ Mo w w') := Lib.hid (by rw [← hd]; exact sub_any a b ha hb)
  have W4 : Hid (∀ w, Calls Try.prog 26 #[WV a] w fun e w' => e = .returned (WV u) ∧ Mo w w') := Lib.hid (by rw [← hu]; exact neg_any a ha)
  have W5 : Hid (∀ w, Calls Try.prog 27 #[WV a] w fun e w' => e = .returned (WV v) ∧ Mo w w') := Lib.hid (by rw [← hv, ← hxa]; exact abs_any a ha)
  have W6 : Hid (∀ w, Calls Try.prog 28 #[WV a, WV b] w fun e w' => e = .returned (.int .i64 o) ∧ Mo w w') := Lib.hid (by rw [← ho]; exact cmp_any a b)
  have W7 : Hid (∀ w, Calls Try.prog 28 #[WV a, WV a] w fun e w' => e = .returned (.int .i64 0) ∧ Mo w w') := Lib.hid (fun w => by
    have := cmp_any a a w
    rwa [show cmpI a a = 0 by unfold cmpI; rw [if_neg (by omega), if_neg (by omega)]] at this)
  have A1 : Hid (∀ w, Calls Try.prog 21 #[NN fa xa, NN fb xb] w fun e w' => e = .returned (NN fs xs) ∧ Mo w w') := Lib.hid (fun w => by
    have := radd_any fa fb a b Ga Gb (by rw [hxa]; exact a2) (by rw [hxb]; exact b2) w
    rwa [hfs, hxs, hxa, hxb] at this)
  have X2 : Hid (∀ w, Calls Try.prog 11 #[NN fs xs] w fun e w' => e = .returned (WV s) ∧ Mo w w') := Lib.hid (fun w => by
    have := rwide_any fs (a + b) (by rw [← hfs]; exact addS_sg Ga Gb) (by have := ha.1; have := ha.2; have := hb.1; have := hb.2; unfold absI; split <;> omega) w
    rwa [hxs, hs] at this)
  have N1 : Hid (∀ w, Calls Try.prog 22 #[NN fb xb] w fun e w' => e = .returned (NN nb xb) ∧ Mo w w') := Lib.hid (by rw [← hnb]; exact rneg_any fb _)
  have A2 : Hid (∀ w, Calls Try.prog 21 #[NN fa xa, NN nb xb] w fun e w' => e = .returned (NN fd xd) ∧ Mo w w') := Lib.hid (fun w => by
    have := radd_any fa nb a (-b) Ga Gn (by rw [hxa]; exact a2) (by rw [absI_neg, hxb]; exact b2) w
    rwa [hfd, ← Int.sub_eq_add_neg, hxd, hxa, absI_neg, hxb] at this)
  have X3 : Hid (∀ w, Calls Try.prog 11 #[NN fd xd] w fun e w' => e = .returned (WV d) ∧ Mo w w') := Lib.hid (fun w => by
    have := rwide_any fd (a - b) (by rw [← hfd, Int.sub_eq_add_neg]; exact addS_sg Ga Gn) (by have := ha.1; have := ha.2; have := hb.1; have := hb.2; unfold absI; split <;> omega) w
    rwa [hxd, hd] at this)
  have N2 : Hid (∀ w, Calls Try.prog 22 #[NN fa xa] w fun e w' => e = .returned (NN na xa) ∧ Mo w w') := Lib.hid (by rw [← hna]; exact rneg_any fa _)
  have X4 : Hid (∀ w, Calls Try.prog 11 #[NN na xa] w fun e w' => e = .returned (WV u) ∧ Mo w w') := Lib.hid (fun w => by
    have := rwide_any na (-a) Gu (by rw [absI_neg, hxa]; omega) w
    rwa [absI_neg, hxa, hu] at this)
  have X5 : Hid (∀ w, Calls Try.prog 11 #[NN false xa] w fun e w' => e = .returned (WV v) ∧ Mo w w') := Lib.hid (fun w => by
    have z : 0 ≤ xa := by rw [← hxa]; exact absI_nonneg a
    have := rwide_any false xa (Sg.pos z) (by rw [absI_pos z]; omega) w
    rwa [absI_pos z, hv] at this)
  have C1 : Hid (∀ w, Calls Try.prog 20 #[NN fa xa, NN fb xb] w fun e w' => e = .returned (.int .i64 o) ∧ Mo w w') := Lib.hid (fun w => by
    have := rcmp_sg fa fb a b Ga Gb (by rw [hxa]; omega) (by rw [hxb]; omega) w
    rwa [ho, hxa, hxb] at this)
  clear hfa hfb hnb hna hxa hxb hs hd hu hv hfs hxs hfd hxd hdn han ho Ga Gb Gn Gu a2 b2 p
  go_enter Try.func5, Try.ntmps5
  go_wp2_with fail
  refine (known_any _).mono ?_; rintro e w1 ⟨rfl, J0, d0, rfl⟩
  go_wp2_with fail
  refine wp_name ?_
  intro W hW
  have M0 : Mo w W := by rw [hW]; exact Mor.out
  have c30 : W.cell? ⟨w.heap.size, 0, none⟩ = some (.int .i64 (hiW a)) := by rw [hW]; simp [go_sem]
  have c31 : W.cell? ⟨w.heap.size, 1, none⟩ = some (.int .u64 (loW a)) := by rw [hW]; simp [go_sem]
  have c40 : W.cell? ⟨w.heap.size + 1, 0, none⟩ = some (.int .i64 (hiW b)) := by rw [hW]; simp [go_sem]
  have c41 : W.cell? ⟨w.heap.size + 1, 1, none⟩ = some (.int .u64 (loW b)) := by rw [hW]; simp [go_sem]
  clear hW
  generalize w.heap.size + 1 = p4 at *
  generalize w.heap.size = p3 at *
  have L3 : LtW p3 W := LtW.of_cell c30
  have L4 : LtW p4 W := LtW.of_cell c40
  go_cut [7, 8] (fun s7 s8 wx => ∃ p q, s7 = .pointer (some ⟨p, 0, none⟩) ∧ s8 = .pointer (some ⟨q, 0, none⟩) ∧ Blk wx p 29 (numC fa (lim xa)) ∧ Blk wx q 29 (numC fb (lim xb)) ∧ Mo W wx)
  case first =>
    as_aux_lemma =>
      go_region_held3 (fun w' => w'.cell? ⟨p3, 0, none⟩ = some (.int .i64 (hiW a)) ∧ w'.cell? ⟨p3, 1, none⟩ = some (.int .u64 (loW a)) ∧ w'.cell? ⟨p4, 0, none⟩ = some (.int .i64 (hiW b)) ∧ w'.cell? ⟨p4, 1, none⟩ = some (.int .u64 (loW b))) (simp [go_sem, c30, c31, c40, c41])
        (first
        | ((with_reducible refine (F1.out _).mono ?_); rintro e w1 ⟨rfl, J3, d3, rfl⟩)
        | ((with_reducible refine (F2.out _).mono ?_); rintro e w1 ⟨rfl, J3, d3, rfl⟩))
      all_goals (go_wp2_with fail; go_meet; exact ⟨_, _, rfl, rfl, inferInstance, inferInstance, Mor.out⟩)
  obtain ⟨p7, p8, rfl, rfl, B7, B8, hM⟩ := hcut
  replace c30 : wc.cell? ⟨p3, 0, none⟩ = some (.int .i64 (hiW a)) := hM.cell.trans c30
  replace c31 : wc.cell? ⟨p3, 1, none⟩ = some (.int .u64 (loW a)) := hM.cell.trans c31
  replace c40 : wc.cell? ⟨p4, 0, none⟩ = some (.int .i64 (hiW b)) := hM.cell.trans c40
  replace c41 : wc.cell? ⟨p4, 1, none⟩ = some (.int .u64 (loW b)) := hM.cell.trans c41
  replace M0 := M0.trans hM
  clear hM L3 L4
  have L3 : LtW p3 wc := LtW.of_cell c30
  have L4 : LtW p4 wc := LtW.of_cell c40
  rename World => Wa
  go_wp2_with fail
  refine wp_region_mo (by kernel_rfl) (by kernel_rfl) ?_
  repeat (go_big_quiet_step (first | (with_reducible exact quiet_mo (O1.out _)) | (with_reducible exact quiet_mo (X1.out _)) | (with_reducible exact quiet_mo (W1.out _)) | (with_reducible exact quiet_mo (W2.out _)) | (with_reducible exact quiet_mo (W3.out _)) | (with_reducible exact quiet_mo (W4.out _)) | (with_reducible exact quiet_mo (W5.out _)) | (with_reducible exact quiet_mo (W6.out _)) | (with_reducible exact quiet_mo (W7.out _)) | (with_reducible exact quiet_mo (A1.out _)) | (with_reducible exact quiet_mo (X2.out _)) | (with_reducible exact quiet_mo (N1.out _)) | (with_reducible exact quiet_mo (A2.out _)) | (with_reducible exact quiet_mo (X3.out _)) | (with_reducible exact quiet_mo (N2.out _)) | (with_reducible exact quiet_mo (X4.out _)) | (with_reducible exact quiet_mo (X5.out _)) | (with_reducible exact quiet_mo (C1.out _))))
  refine wpQuiet_nil ?_
  intro _ hw'
  obtain ⟨⟨J9, d9⟩, hw''⟩ := hw'
  subst hw''
  go_wp2_with fail
  go_ret
  exact ⟨rfl, M0.trans Mor.out⟩
end Go.Proofs.Ytaboiojabmbioaa
