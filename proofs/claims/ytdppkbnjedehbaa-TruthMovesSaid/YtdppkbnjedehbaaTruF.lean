/- law33: truth.may, truth.Agreed, truth.Find. -/
import Derived.Test.YtdppkbnjedehbaaTruM
namespace Go.Proofs.Ytdppkbnjedehbaa
open Go.RowKit

def InIv (l : List Iv) : Prop := ∀ x ∈ l, -9223372036854775808 ≤ x.lo ∧ x.hi ≤ 9223372036854775807
attribute [local go_sem] blk_cell' blk_frozen'
set_option maxRecDepth 20000 in
set_option maxHeartbeats 4000000 in
theorem may1_any (lo hi : Int) (W : World) : Calls Try.prog 30 #[.agg #[.int .i64 lo, .int .i64 hi]] W fun e w' => e = .returned (.bool (decide (hi < lo))) ∧ Mo W w' := by
  go_enter Try.func30, Try.ntmps30
  go_wp2_with fail
  go_ret
  exact ⟨rfl, Mor.out⟩
set_option maxRecDepth 20000 in
set_option maxHeartbeats 4000000 in
theorem indexF_any (l : List Iv) (A : Option Addr) (c : Nat) (W : World) (hR : IvRow W A l) (hl : l.length ≤ 65536) :
    Calls Try.prog 45 #[.slice A l.length c, .func (.func 30) #[] #[]] W fun e w' => (∃ r : Int, e = .returned (.int .i64 r) ∧ (0 ≤ r ↔ ¬ MayL l)) ∧ Mo W w' := by
  have HR := Lib.hid hR
  clear hR
  obtain ⟨N, hN⟩ : ∃ N, l.length = N := ⟨_, rfl⟩
  have HN := Lib.hid hN
  rw [hN] at hl ⊢
  clear hN
  go_enter Try.func45, Try.ntmps45
  go_wp2_with fail
  go_loopw [8] (fun i wr => ∃ j : Nat, j ≤ N ∧ i = .int .i64 j ∧ (∀ k (h : k < l.length), k < j → l[k].lo ≤ l[k].hi) ∧ Mo W wr) (fun i _ => N - (intOf i).toNat)
  case atStart => exact ⟨0, by omega, rfl, fun k _ h => absurd h (by omega), Mo.refl _⟩
  case round =>
    obtain ⟨j, hj, rfl, hp, hM⟩ := hrel
    have HP := Lib.hid hp
    clear hp
    by_cases cj : j < N
    · have hjl : j < l.length := by rw [HN.out]; exact cj
      obtain ⟨g, off, rfl, hc⟩ := (HR.out.mo hM).resolve_left (fun e => by rw [e] at hjl; simp at hjl)
      obtain ⟨y0, y1⟩ := hc j hjl
      clear hc
      have z0 : LtW g wr := LtW.of_cell y0
      have e0 : (0 : Int) ≤ j := by omega
      have e1 : (j : Int) < N := by omega
      have HB := Lib.hid (fun (h : ¬ l[j].lo ≤ l[j].hi) => (show ¬ MayL l from fun k => h (k _ (List.getElem_mem hjl))))
      have HG : Hid (l[j].lo ≤ l[j].hi → ∀ k (h : k < l.length), k < j + 1 → l[k].lo ≤ l[k].hi) := Lib.hid (fun q k hk h => by
        by_cases e : k = j
        · subst e; exact q
        · exact HP.out k hk (by omega))
      obtain ⟨lo, elo⟩ : ∃ x, l[j].lo = x := ⟨_, rfl⟩
      obtain ⟨hi, ehi⟩ : ∃ x, l[j].hi = x := ⟨_, rfl⟩
      rw [elo] at y0 HB HG
      rw [ehi] at y1 HB HG
      clear elo ehi hjl
      go_wp2_with fail
      refine (may1_any lo hi _).mono ?_
      rintro e w1 ⟨rfl, M1⟩
      by_cases c1 : lo ≤ hi
      · have d1 : decide (hi < lo) = false := decide_eq_false (by omega)
        have HG' := Lib.hid (HG.out c1)
        clear HB HG c1
        rw [d1]
        go_wp2_with fail
        go_roundw
        case rel => exact ⟨j + 1, by omega, by go_num, HG'.out, hM.trans ((Mor.out : Mo wr _).trans M1)⟩
        case measure => simp [intOf]; omega
      · have d1 : decide (hi < lo) = true := decide_eq_true (by omega)
        have HB' := Lib.hid (HB.out (by omega))
        clear HB HG c1
        rw [d1]
        go_wp2_with fail
        go_ret
        exact ⟨⟨j, rfl, by simp [HB'.out]⟩, hM.trans ((Mor.out : Mo wr _).trans M1)⟩
    · obtain rfl : j = N := by omega
      have HY : Hid (MayL l) := Lib.hid (fun x hx => by
        obtain ⟨k, hk, rfl⟩ := List.getElem_of_mem hx
        exact HP.out k hk (by rw [← HN.out]; exact hk))
      go_wp2_with fail
      go_ret
      exact ⟨⟨-1, rfl, by simp [HY.out]⟩, hM.trans Mor.out⟩
set_option maxRecDepth 20000 in
set_option maxHeartbeats 4000000 in
theorem may_any (l : List Iv) (A : Option Addr) (c : Nat) (W : World) (hR : IvRow W A l) (hl : l.length ≤ 65536) :
    Calls Try.prog 23 #[.slice A l.length c] W fun e w' => (∃ b : Bool, e = .returned (.bool b) ∧ (b = true ↔ MayL l)) ∧ Mo W w' := by
  have HI := Lib.hid (fun w (M : Mo W w) => indexF_any l A c w (hR.mo M) hl)
  clear hR
  generalize l.length = N at *
  have HC : Hid (∀ w, Mo W w → Calls Try.prog 29 #[.slice A N c, .func (.func 30) #[] #[]] w fun e w' => (∃ b : Bool, e = .returned (.bool b) ∧ (b = true ↔ ¬ MayL l)) ∧ Mo w w') := by
    refine Lib.hid fun w M => ?_
    go_enter Try.func29, Try.ntmps29
    go_wp2_with fail
    refine (HI.out _ (M.trans Mor.out)).mono ?_
    rintro e w1 ⟨⟨r, rfl, hr⟩, M1⟩
    have H := Lib.hid hr
    clear hr
    obtain ⟨q, hq⟩ : ∃ q, decide (0 ≤ r) = q := ⟨_, rfl⟩
    have HQ := Lib.hid hq
    go_wp2_with fail
    go_ret
    exact ⟨⟨q, rfl, by rw [← HQ.out, decide_eq_true_eq]; exact H.out⟩, (Mor.out : Mo w _).trans M1⟩
  go_enter Try.func23, Try.ntmps23
  go_wp2_with fail
  refine (HC.out _ Mor.out).mono ?_
  rintro e w1 ⟨⟨r, rfl, hr⟩, M1⟩
  have H := Lib.hid hr
  clear hr
  cases r with
  | true =>
    go_wp2_with fail
    go_ret
    exact ⟨⟨false, rfl, by have := H.out.1 (by first | rfl | trivial); simp [this]⟩, (Mor.out : Mo W _).trans M1⟩
  | false =>
    go_wp2_with fail
    go_ret
    exact ⟨⟨true, rfl, by
      simp only [true_iff]
      exact Classical.byContradiction fun k => by have := H.out.2 k; cases this⟩, (Mor.out : Mo W _).trans M1⟩
/-- what truth.Agreed returns -/
def TAgrRet (l : List Iv) (f : Int) (W : World) (e : Ending) (w' : World) : Prop := Mo W w' ∧
  ((0 ≤ f ∧ f < l.length ∧ MayL l ∧ l.length ≤ 512 ∧ ∃ o, IsAgr l (l.length - f.toNat) o ∧ e = .returned (.tuple #[.agg (ivC (ivO o)), .bool o.isSome])) ∨
   (¬ (0 ≤ f ∧ f < l.length ∧ MayL l ∧ l.length ≤ 512) ∧ e = .returned (.tuple #[.agg #[.int .i64 0, .int .i64 0], .bool false])))
set_option maxRecDepth 20000 in
set_option maxHeartbeats 8000000 in
theorem agreed_any (l : List Iv) (A : Option Addr) (c : Nat) (f : Int) (W : World) (hR : IvRow W A l) (hl : l.length ≤ 65536) (hb : InIv l) :
    Calls Try.prog 11 #[.slice A l.length c, .int .i64 f] W (TAgrRet l f W) := by
  obtain ⟨PO, hPO⟩ : ∃ P, TAgrRet l f W = P := ⟨_, rfl⟩
  rw [hPO]
  have RR := Lib.hid hPO
  clear hPO
  have HM := Lib.hid (fun w (M : Mo W w) => may_any l A c w (hR.mo M) hl)
  have HC := Lib.hid (fun (h0 : 0 < l.length) m hm hm2 (hy : MayL l) w (M : Mo W w) => cover_any l A c m w (hR.mo M) hl h0 hm hm2 hy hb)
  clear hR hb
  obtain ⟨N, hN⟩ : ∃ N, l.length = N := ⟨_, rfl⟩
  have HN := Lib.hid hN
  rw [hN] at hl HM HC
  rw [hN]
  clear hN
  go_enter Try.func11, Try.ntmps11
  by_cases c1 : f < 0
  · have d1 : decide (f < 0) = true := decide_eq_true c1
    go_wp2_with fail
    refine ret_iv Try.results11 W.heap.size _ #[.int .i64 0, .int .i64 0] rfl rfl inferInstance rfl ?_
    rw [← RR.out]
    exact ⟨Mor.out, .inr ⟨fun h => by omega, rfl⟩⟩
  · have d1 : decide (f < 0) = false := decide_eq_false c1
    by_cases c2 : (N : Int) ≤ f
    · have d2 : decide ((N : Int) ≤ f) = true := decide_eq_true c2
      go_wp2_with fail
      refine ret_iv Try.results11 W.heap.size _ #[.int .i64 0, .int .i64 0] rfl rfl inferInstance rfl ?_
      rw [← RR.out]
      exact ⟨Mor.out, .inr ⟨fun h => by have := HN.out; omega, rfl⟩⟩
    · have d2 : decide ((N : Int) ≤ f) = false := decide_eq_false c2
      go_wp2_with fail
      refine (HM.out _ Mor.out).mono ?_
      rintro e w1 ⟨⟨b, rfl, hbm⟩, M1⟩
      have HBM := Lib.hid hbm
      have B1 := M1.blk (inferInstance : Blk (W.alloc (.cells #[.int .i64 0, .int .i64 0] 27)) W.heap.size 27 #[.int .i64 0, .int .i64 0])
      have N1 := (Mor.out : Mo W _).trans M1
      clear hbm M1
      cases b with
      | false =>
        go_wp2_with fail
        refine ret_iv Try.results11 W.heap.size _ #[.int .i64 0, .int .i64 0] rfl rfl (blk_setCell (blk_setCell B1 0 _) 1 _) rfl ?_
        rw [← RR.out]
        exact ⟨mo_setCell (mo_setCell N1 (Nat.le_refl _) 0 _) (Nat.le_refl _) 1 _, .inr ⟨fun h => by have := HBM.out.2 h.2.2.1; simp at this, rfl⟩⟩
      | true =>
        have HY := Lib.hid (HBM.out.1 (by first | rfl | trivial))
        clear HBM
        by_cases c3 : 512 < N
        · have d3 : decide ((512 : Int) < N) = true := decide_eq_true (by omega)
          go_wp2_with fail
          refine ret_iv Try.results11 W.heap.size _ #[.int .i64 0, .int .i64 0] rfl rfl (blk_setCell (blk_setCell B1 0 _) 1 _) rfl ?_
          rw [← RR.out]
          exact ⟨mo_setCell (mo_setCell N1 (Nat.le_refl _) 0 _) (Nat.le_refl _) 1 _, .inr ⟨fun h => by have := HN.out; omega, rfl⟩⟩
        · have d3 : decide ((512 : Int) < N) = false := decide_eq_false (by omega)
          obtain ⟨g, rfl⟩ : ∃ g : Nat, f = g := ⟨f.toNat, by omega⟩
          have wf : IntKind.i64.wrap ((N : Int) - g) = N - g := by rw [IntKind.wrap_i64]; omega
          have HC' := HC.out (by omega) (N - g) (by omega) (by omega) HY.out
          rw [show (((N - g : Nat)) : Int) = N - g by omega] at HC'
          go_wp2_with fail
          refine (HC' _ N1).mono ?_
          rintro e w2 ⟨⟨o, ho, rfl⟩, M2⟩
          have HO := Lib.hid ho
          have B2 := M2.blk B1
          obtain ⟨⟨xl, xh⟩, hx⟩ : ∃ x, ivO o = x := ⟨_, rfl⟩
          rw [hx]
          clear ho HC'
          go_wp2_with fail
          refine ret_iv Try.results11 W.heap.size _ #[.int .i64 xl, .int .i64 xh] rfl rfl (blk_setCell (blk_setCell B2 0 _) 1 _) rfl ?_
          rw [← RR.out]
          exact ⟨mo_setCell (mo_setCell (N1.trans M2) (Nat.le_refl _) 0 _) (Nat.le_refl _) 1 _, .inl ⟨by omega, by have := HN.out; omega, HY.out, by have := HN.out; omega, o, by rw [HN.out, Int.toNat_natCast]; exact HO.out, by rw [hx]; rfl⟩⟩
end Go.Proofs.Ytdppkbnjedehbaa
