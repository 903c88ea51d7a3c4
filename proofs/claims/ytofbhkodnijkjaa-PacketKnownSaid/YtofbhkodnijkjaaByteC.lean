/- slices.Equal of bytes; ext.same of two fields. -/
import Derived.Test.YtofbhkodnijkjaaByteB
namespace Go.Proofs.Ytofbhkodnijkjaa
open Go.RowKit

set_option maxRecDepth 20000 in
set_option maxHeartbeats 1000000 in
theorem equalB_any (A A' : Option Addr) (n n' cap cap' : Nat) (bs bs' : List Int) (W : World) (hn : bs.length = n) (hn' : bs'.length = n') (h : ByteS W A cap bs) (h' : ByteS W A' cap' bs') :
    Calls Try.prog 46 #[.slice A n cap, .slice A' n' cap'] W fun e w' => e = .returned (.bool (decide (bs = bs'))) ∧ Mo W w' := by
  have hlim := h.lim
  have hlim' := h'.lim
  rw [hn] at hlim
  rw [hn'] at hlim'
  have HN := Lib.hid hn
  have HN' := Lib.hid hn'
  obtain ⟨r, hr⟩ : ∃ r : Bool, decide (bs = bs') = r := ⟨_, rfl⟩
  rw [hr]
  have RR := Lib.hid hr
  clear hr
  by_cases c : n = n'
  · subst c
    clear hn hn'
    have HB := Lib.hid h
    have HB' := Lib.hid h'
    clear h h'
    go_enter Try.func46, Try.ntmps46
    go_wp2_with fail
    go_loopw [13] (fun i wr => ∃ k : Nat, k ≤ n ∧ i = .int .i64 k ∧ (bs.take k = bs'.take k) ∧ Mo W wr) (fun i _ => n - (intOf i).toNat)
    case atStart => exact ⟨0, by omega, rfl, by rw [List.take_zero, List.take_zero], Mor.out⟩
    case round =>
      obtain ⟨k, hk, rfl, ht, hM⟩ := hrel
      have HT := Lib.hid ht
      clear ht
      by_cases ck : k < n
      · obtain ⟨g, off, rfl, LG, hc⟩ := (HB.out.mo hM).get (by rw [HN.out]; omega)
        obtain ⟨g', off', rfl, LG', hc'⟩ := (HB'.out.mo hM).get (by rw [HN'.out]; omega)
        have hk1 : k < bs.length := by rw [HN.out]; exact ck
        have hk2 : k < bs'.length := by rw [HN'.out]; exact ck
        obtain ⟨a1, a2, a3⟩ := hc k hk1
        obtain ⟨b1, b2, b3⟩ := hc' k hk2
        have t1 : bs.take (k + 1) = bs.take k ++ [bs[k]] := by rw [List.take_add_one, List.getElem?_eq_getElem hk1]; rfl
        have t2 : bs'.take (k + 1) = bs'.take k ++ [bs'[k]] := by rw [List.take_add_one, List.getElem?_eq_getElem hk2]; rfl
        have hne : bs[k] ≠ bs'[k] → ¬ bs = bs' := fun hne e => hne (by subst e; rfl)
        have T1 := Lib.hid t1
        have T2 := Lib.hid t2
        have NE := Lib.hid hne
        clear hc hc' t1 t2 hne
        have i0 : (0 : Int) ≤ k := by omega
        have i1 : (k : Int) < n := by omega
        generalize bs[k] = x at *
        generalize bs'[k] = y at *
        by_cases e : x = y
        · subst e
          clear NE
          have d0 : (x != x) = false := by simp
          go_upto_region 6 with (fail)
          go_quiet (fail)
          go_wp2_with fail
          go_roundw
          case rel => exact ⟨k + 1, by omega, by go_num, by rw [T1.out, T2.out, HT.out], hM.trans Mor.out⟩
          case measure => simp [intOf]; omega
        · have ne := NE.out e
          have ND := Lib.hid (decide_eq_false ne)
          clear NE ne
          have d0 : (x != y) = true := by simp [e]
          clear e
          go_upto_region 6 with (fail)
          go_quiet (fail)
          go_wp2_with fail
          go_ret
          exact ⟨by rw [← RR.out, ND.out]; rfl, hM.trans Mor.out⟩
      · have hkn : k = n := by omega
        subst hkn
        have e : bs = bs' := by
          have := HT.out
          rwa [List.take_of_length_le (by rw [HN.out]; omega), List.take_of_length_le (by rw [HN'.out]; omega)] at this
        have ND := Lib.hid (decide_eq_true e)
        clear e
        go_wp2_with fail
        go_ret
        exact ⟨by rw [← RR.out, ND.out]; rfl, hM⟩
  · have ne : ¬ bs = bs' := fun e => c (by rw [← hn, ← hn', e])
    have ND := Lib.hid (decide_eq_false ne)
    clear ne hn hn' h h'
    have d0 : ((n : Int) != n') = true := by simp; omega
    go_enter Try.func46, Try.ntmps46
    go_wp2_with fail
    go_ret
    exact ⟨by rw [← RR.out, ND.out]; rfl, Mor.out⟩
end Go.Proofs.Ytofbhkodnijkjaa
