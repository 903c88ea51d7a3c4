/- law33: truth.may, truth.Agreed, truth.Find. -/
import Derived.Test.YtdgmcgfkammioaaTruM
namespace Go.Proofs.Ytdgmcgfkammioaa
open Go.RowKit

def InIv (l : List Iv) : Prop := ∀ x ∈ l, -9223372036854775808 ≤ x.lo ∧ x.hi ≤ 9223372036854775807
attribute [local go_sem] blk_cell' blk_frozen'
set_option maxRecDepth 20000 in
set_option maxHeartbeats 4000000 in
theorem may1_any (lo hi : Int) (W : World) : Calls Try.prog 75 #[.agg #[.int .i64 lo, .int .i64 hi]] W fun e w' => e = .returned (.bool (decide (hi < lo))) ∧ Mo W w' := by
  go_enter Try.func75, Try.ntmps75
  go_wp2_with fail
  go_ret
  exact ⟨rfl, Mor.out⟩
set_option maxRecDepth 20000 in
set_option maxHeartbeats 4000000 in
theorem indexF_any (l : List Iv) (A : Option Addr) (c : Nat) (W : World) (hR : IvRow W A l) (hl : l.length ≤ 65536) :
    Calls Try.prog 90 #[.slice A l.length c, .func (.func 75) #[] #[]] W fun e w' => (∃ r : Int, e = .returned (.int .i64 r) ∧ (0 ≤ r ↔ ¬ MayL l)) ∧ Mo W w' := by
  have HR := Lib.hid hR
  clear hR
  obtain ⟨N, hN⟩ : ∃ N, l.length = N := ⟨_, rfl⟩
  have HN := Lib.hid hN
  rw [hN] at hl ⊢
  clear hN
  go_enter Try.func90, Try.ntmps90
  go_wp2_with fail
  go_loopw [8] (fun i wr => ∃ j : Nat, j ≤ N ∧ i = .int .i64 j ∧ (∀ k (h : k < l.length), k < j → l[k].lo ≤ l[k].hi) ∧ Mo W wr) (fun i _ => N - (intOf i).toNat)
  case atStart => exact ⟨0, by omega, rfl, fun k _ h => absurd h (by omega), Mo.refl _⟩
  case round =>
    obtain ⟨j, hj, rfl, hp, hM⟩ := hrel
    have HP := Lib.hid hp
    clear hp
    by_cases cj : j < N
    · have hjl : j < l.length := by rw [HN.out]; exact cj
      obtain ⟨g, off, rfl, hc⟩ := (HR.out.mo hM).resolve_left (fun e => by rw [e] at hjl; simp at hjl)
      obtain ⟨y0, y1⟩ := hc j hjl
      clear hc
      have z0 : LtW g wr := LtW.of_cell y0
      have e0 : (0 : Int) ≤ j := by omega
      have e1 : (j : Int) < N := by omega
      have HB := Lib.hid (fun (h : ¬ l[j].lo ≤ l[j].hi) => (show ¬ MayL l from fun k => h (k _ (List.getElem_mem hjl))))
      have HG : Hid (l[j].lo ≤ l[j].hi → ∀ k (h : k < l.length), k < j + 1 → l[k].lo ≤ l[k].hi) := Lib.hid (fun q k hk h => by
        by_cases e : k = j
        · subst e; exact q
        · exact HP.out k hk (by omega))
      obtain ⟨lo, elo⟩ : ∃ x, l[j].lo = x := ⟨_, rfl⟩
      obtain ⟨hi, ehi⟩ : ∃ x, l[j].hi = x := ⟨_, rfl⟩
      rw [elo] at y0 HB HG
      rw [ehi] at y1 HB HG
      clear elo ehi hjl
      go_wp2_with fail
      refine (may1_any lo hi _).mono ?_
      rintro e w1 ⟨rfl, M1⟩
      by_cases c1 : lo ≤ hi
      · have d1 : decide (hi < lo) = false := decide_eq_false (by omega)
        have HG' := Lib.hid (HG.out c1)
        clear HB HG c1
        rw [d1]
        go_wp2_with fail
        go_roundw
        case rel => exact ⟨j + 1, by omega, by go_num, HG'.out, hM.trans ((Mor.out : Mo wr _).trans M1)⟩
        case measure => simp [intOf]; omega
      · have d1 : decide (hi < lo) = true := decide_eq_true (by omega)
        have HB' := Lib.hid (HB.out (by omega))
        clear HB HG c1
        rw [d1]
        go_wp2_with fail
        go_ret
        exact ⟨⟨j, rfl, by simp [HB'.out]⟩, hM.trans ((Mor.out : Mo wr _).trans M1)⟩
    · obtain rfl : j = N := by omega
      have HY : Hid (MayL l) := Lib.hid (fun x hx => by
        obtain ⟨k, hk, rfl⟩ := List.getElem_of_mem hx
        exact HP.out k hk (by rw [← HN.out]; exact hk))
      go_wp2_with fail
      go_ret
      exact ⟨⟨-1, rfl, by simp [HY.out]⟩, hM.trans Mor.out⟩
set_option maxRecDepth 20000 in
set_option maxHeartbeats 4000000 in
theorem may_any (l : List Iv) (A : Option Addr) (c : Nat) (W : World) (hR : IvRow W A l) (hl : l.length ≤ 65536) :
    Calls Try.prog 61 #[.slice A l.length c] W fun e w' => (∃ b : Bool, e = .returned (.bool b) ∧ (b = true ↔ MayL l)) ∧ Mo W w' := by
  have HI := Lib.hid (fun w (M : Mo W w) => indexF_any l A c w (hR.mo M) hl)
  clear hR
  generalize l.length = N at *
  have HC : Hid (∀ w, Mo W w → Calls Try.prog 74 #[.slice A N c, .func (.func 75) #[] #[]] w fun e w' => (∃ b : Bool, e = .returned (.bool b) ∧ (b = true ↔ ¬ MayL l)) ∧ Mo w w') := by
    refine Lib.hid fun w M => ?_
    go_enter Try.func74, Try.ntmps74
    go_wp2_with fail
    refine (HI.out _ (M.trans Mor.out)).mono ?_
    rintro e w1 ⟨⟨r, rfl, hr⟩, M1⟩
    have H := Lib.hid hr
    clear hr
    obtain ⟨q, hq⟩ : ∃ q, decide (0 ≤ r) = q := ⟨_, rfl⟩
    have HQ := Lib.hid hq
    go_wp2_with fail
    go_ret
    exact ⟨⟨q, rfl, by rw [← HQ.out, decide_eq_true_eq]; exact H.out⟩, (Mor.out : Mo w _).trans M1⟩
  go_enter Try.func61, Try.ntmps61
  go_wp2_with fail
  refine (HC.out _ Mor.out).mono ?_
  rintro e w1 ⟨⟨r, rfl, hr⟩, M1⟩
  have H := Lib.hid hr
  clear hr
  cases r with
  | true =>
    go_wp2_with fail
    go_ret
    exact ⟨⟨false, rfl, by have := H.out.1 (by first | rfl | trivial); simp [this]⟩, (Mor.out : Mo W _).trans M1⟩
  | false =>
    go_wp2_with fail
    go_ret
    exact ⟨⟨true, rfl, by
      simp only [true_iff]
      exact Classical.byContradiction fun k => by have := H.out.2 k; cases this⟩, (Mor.out : Mo W _).trans M1⟩
/-- what truth.Agreed returns -/
def TAgrRet (l : List Iv) (f : Int) (W : World) (e : Ending) (w' : World) : Prop := Mo W w' ∧
  ((0 ≤ f ∧ f < l.length ∧ MayL l ∧ l.length ≤ 512 ∧ ∃ o, IsAgr l (l.length - f.toNat) o ∧ e = .returned (.tuple #[.agg (ivC (ivO o)), .bool o.isSome])) ∨
   (¬ (0 ≤ f ∧ f < l.length ∧ MayL l ∧ l.length ≤ 512) ∧ e = .returned (.tuple #[.agg #[.int .i64 0, .int .i64 0], .bool false])))
end Go.Proofs.Ytdgmcgfkammioaa
