/- server: New of a configuration that does not hold. -/
import Derived.Test.YthgkhllkhhnlpaaSvD
namespace Go.Proofs.Ythgkhllkhhnlpaa
open Go.RowKit Go.Maps

attribute [local go_sem] blk_cell' blk_frozen'
attribute [local go_sem ↓] loadF_cfg
attribute [local go_sem] run_loadF0 run_storeF0
set_option maxRecDepth 20000 in
set_option maxHeartbeats 8000000 in
theorem tnew_aux (C : CfgS) (W : World) (eA eS : Int) (hA : eA = 0 ∨ eA = 2) (hS : eS = 0 ∨ eS = 2)
    (AN : ∀ W, Calls Try.prog 27 #[.int .i64 C.sl, .int .i64 C.oc] W fun e w' => ∃ r0, e = .returned (.tuple #[r0, .int .i64 eA]) ∧ Mo W w')
    (SN : ∀ W, Calls Try.prog 28 #[.int .i64 C.sh, .int .i64 C.st] W fun e w' => ∃ r0, e = .returned (.tuple #[r0, .int .i64 eS]) ∧ Mo W w')
    (b1 b2 : Bool) (d1 : decide (C.sv < 1) = b1) (d2 : decide (256 < C.sv) = b2) (hb : b1 = true ∨ b2 = true ∨ eA = 2 ∨ eS = 2) :
    Calls Try.prog 9 #[.agg (cfC C)] W fun e w' => e = .returned (.tuple #[nilS, .int .i64 2]) ∧ Mo W w' := by
  obtain ⟨cw, ck, csv, csl, coc, cep, csh, cst, cln, cbl, cfr, cfb⟩ := C
  simp only at *
  replace AN := Lib.hid AN
  replace SN := Lib.hid SN
  rcases hA with rfl | rfl <;> rcases hS with rfl | rfl <;> cases b1 <;> cases b2 <;> first
    | (exact absurd hb (by decide))
    | (clear hb
       go_enter Try.func9, Try.ntmps9
       go_wp2_with fail
       refine (AN.out _).mono ?_
       rintro e w1' ⟨r0, rfl, M1⟩
       have N1 : Mo W w1' := (Mor.out : Mo W _).trans M1
       have b1 : Blk w1' W.heap.size 26 (cfC ⟨cw, ck, csv, csl, coc, cep, csh, cst, cln, cbl, cfr, cfb⟩) := M1.blk inferInstance
       generalize hg1 : W.heap.size = g1 at *
       clear M1 AN
       go_wp2_with fail
       refine (SN.out _).mono ?_
       rintro e w2' ⟨r1, rfl, M2⟩
       have M12 : Mo w1' w2' := (Mor.out : Mo w1' _).trans M2
       have N2 := N1.trans M12
       have b2 := M12.blk b1
       clear M2 M12 N1 b1 SN
       go_wp2_with fail
       go_ret2
       exact ⟨rfl, N2.trans Mor.out⟩)
set_option maxRecDepth 20000 in
theorem tnew_out (C : CfgS) (W : World) (h : C.sv < 1 ∨ 256 < C.sv ∨ C.sl < 1 ∨ 1152921504606846976 < C.sl ∨ C.oc < 1 ∨ 10 < C.oc ∨ C.sh < 1 ∨ 64 < C.sh ∨ C.st < 0) (t : C.st ≤ 9223372036854775807) :
    Calls Try.prog 9 #[.agg (cfC C)] W fun e w' => e = .returned (.tuple #[nilS, .int .i64 2]) ∧ Mo W w' := by
  obtain ⟨eA, hA, hA', AN⟩ : ∃ eA : Int, (eA = 0 ∨ eA = 2) ∧ ((C.sl < 1 ∨ 1152921504606846976 < C.sl ∨ C.oc < 1 ∨ 10 < C.oc) → eA = 2) ∧ ∀ W, Calls Try.prog 27 #[.int .i64 C.sl, .int .i64 C.oc] W fun e w' => ∃ r0, e = .returned (.tuple #[r0, .int .i64 eA]) ∧ Mo W w' := by
    by_cases q : C.sl < 1 ∨ 1152921504606846976 < C.sl ∨ C.oc < 1 ∨ 10 < C.oc
    · refine ⟨2, .inr rfl, fun _ => rfl, fun W => (new_bad C.sl C.oc W q).mono ?_⟩
      rintro e w' ⟨rfl, M⟩
      exact ⟨_, rfl, M⟩
    · refine ⟨0, .inl rfl, fun h => absurd h q, fun W => ?_⟩
      have hn : C.oc = ((C.oc.toNat : Nat) : Int) := by omega
      rw [hn]
      refine (new_any C.sl C.oc.toNat W (by omega) (by omega) (by omega) (by omega)).mono ?_
      rintro e w' ⟨r0, p0, rfl, -, -, -, -, -, M⟩
      exact ⟨_, rfl, M⟩
  obtain ⟨eS, hS, hS', SN⟩ : ∃ eS : Int, (eS = 0 ∨ eS = 2) ∧ ((C.sh < 1 ∨ 64 < C.sh ∨ C.st < 0) → eS = 2) ∧ ∀ W, Calls Try.prog 28 #[.int .i64 C.sh, .int .i64 C.st] W fun e w' => ∃ r0, e = .returned (.tuple #[r0, .int .i64 eS]) ∧ Mo W w' := by
    by_cases q : C.sh < 1 ∨ 64 < C.sh ∨ C.st < 0
    · refine ⟨2, .inr rfl, fun _ => rfl, fun W => (snew_out C.sh C.st W q).mono ?_⟩
      rintro e w' ⟨rfl, M⟩
      exact ⟨_, rfl, M⟩
    · refine ⟨0, .inl rfl, fun h => absurd h q, fun W => ?_⟩
      have hn : C.sh = ((C.sh.toNat : Nat) : Int) := by omega
      rw [hn]
      refine (snew_in C.sh.toNat C.st W (by omega) (by omega) (by omega) t 0).mono ?_
      rintro e w' ⟨p1, rfl, -, -, M⟩
      exact ⟨_, rfl, M⟩
  refine tnew_aux C W eA eS hA hS AN SN _ _ rfl rfl ?_
  simp only [decide_eq_true_eq]
  rcases h with h | h | h
  · exact .inl h
  · exact .inr (.inl h)
  · by_cases q : C.sl < 1 ∨ 1152921504606846976 < C.sl ∨ C.oc < 1 ∨ 10 < C.oc
    · exact .inr (.inr (.inl (hA' q)))
    · exact .inr (.inr (.inr (hS' (by omega))))
end Go.Proofs.Ythgkhllkhhnlpaa
