/- horologelaw21.heavy. -/
import Derived.Test.YtbndcopeaaifdaaExtE
namespace Go.Proofs.Ytbndcopeaaifdaa
open Go.RowKit

def HeavyRet (l : List Fld) (m : Nat) (W : World) (e : Ending) (w' : World) : Prop := ∃ h : Bool, e = .returned (.bool h) ∧ (h = false → l.length ≤ 32 → totM l + m ≤ 80000) ∧ Mo W w'
set_option maxHeartbeats 2000000 in
theorem heavy_any (A A' : Option Addr) (n m cap cap' : Nat) (l : List Fld) (W : World) (hn : l.length = n) (hm : m ≤ 140737488355328) (h : ExtS W A cap l) :
    Calls Try.prog 8 #[.slice A n cap, .slice A' m cap'] W (HeavyRet l m W) := by
  obtain ⟨R, hR⟩ : ∃ R, HeavyRet l m W = R := ⟨_, rfl⟩
  rw [hR]
  have RR := Lib.hid hR
  have hlim := h.lim
  rw [hn] at hlim
  have HN := Lib.hid hn
  have HB := Lib.hid h
  clear hR hn h
  go_enter Try.func8, Try.ntmps8
  go_wp2_with fail
  go_loopw [5, 12] (fun v i wr => ∃ (k : Nat) (z : Int), k ≤ n ∧ i = .int .i64 k ∧ v = .int .i64 z ∧ -9223372036854775808 ≤ z ∧ z ≤ 9223372036854775807 ∧ (k ≤ 32 → z = (m + totM (l.take k) : Nat) ∧ totM (l.take k) ≤ k * 140737488355332) ∧ Mo W wr) (fun _ i _ => n - (intOf i).toNat)
  case atStart => exact ⟨0, m, by omega, rfl, rfl, by omega, by omega, fun _ => ⟨by rw [List.take_zero]; rfl, by rw [List.take_zero]; exact Nat.zero_le _⟩, Mor.out⟩
  case round =>
    obtain ⟨k, z, hk, rfl, rfl, z1, z2, hz, hM⟩ := hrel
    have HZ := Lib.hid hz
    clear hz
    by_cases ck : k < n
    · have hk1 : k < l.length := by rw [HN.out]; exact ck
      obtain ⟨g, off, rfl, LG, hc⟩ := (HB.out.mo hM).get (by omega)
      obtain ⟨xa, xn, xc, a1, a2, a3, a4, a5, a6⟩ := hc k hk1
      have T1 := Lib.hid (totM_get l k hk1)
      have hxn := a6.lim
      rw [a5] at hxn
      clear hc
      have i0 : (0 : Int) ≤ k := by omega
      have i1 : (k : Int) < n := by omega
      generalize l[k] = x at *
      obtain ⟨xk, xv⟩ := x
      simp only at a1 a2 a3 a5
      have A5 := Lib.hid a5
      clear a5 a6
      have w1 : IntKind.i64.wrap (4 + (xn : Int)) = 4 + xn := by rw [IntKind.wrap_i64]; omega
      obtain ⟨z', hz'⟩ : ∃ z', IntKind.i64.wrap (z + (4 + (xn : Int))) = z' := ⟨_, rfl⟩
      have hz2' : wrap64 (z + (4 + (xn : Int))) = z' := by rw [← hz', IntKind.wrap_i64]; unfold wrap64; omega
      have ZB : Hid (-9223372036854775808 ≤ z' ∧ z' ≤ 9223372036854775807) := Lib.hid (by rw [← hz', IntKind.wrap_i64]; omega)
      have ZV : Hid (k + 1 ≤ 32 → z' = (m + totM (l.take (k + 1)) : Nat) ∧ totM (l.take (k + 1)) ≤ (k + 1) * 140737488355332) := Lib.hid (fun hk => by
        obtain ⟨e1, e2⟩ := HZ.out (by omega)
        have e3 := T1.out
        simp only at e3
        rw [A5.out] at e3
        rw [← hz', IntKind.wrap_i64, e3, e1]
        omega)
      go_wp2_with fail
      go_roundw
      case rel => exact ⟨k + 1, z', by omega, by go_num, rfl, ZB.out.1, ZB.out.2, ZV.out, hM.trans Mor.out⟩
      case measure => simp [intOf]; omega
    · have hkn : k = n := by omega
      subst hkn
      have ZF : Hid (l.length ≤ 32 → z = (m + totM l : Nat)) := Lib.hid (fun h => by
        have := (HZ.out (by rw [← HN.out]; exact h)).1
        rwa [List.take_of_length_le (by rw [HN.out]; omega)] at this)
      clear HZ
      by_cases c3 : 80000 < z
      · have c1 : 5000 < z := by omega
        have c2 : ¬ z < 60000 := by omega
        go_wp2_with fail
        rw [← RR.out]
        exact ⟨_, rfl, fun h => (by cases h), hM⟩
      · by_cases c1 : 5000 < z
        · by_cases c2 : z < 60000
          · go_wp2_with fail
            rw [← RR.out]
            exact ⟨_, rfl, fun h => (by cases h), hM⟩
          · go_wp2_with fail
            rw [← RR.out]
            exact ⟨_, rfl, fun _ hl => by have := ZF.out hl; omega, hM⟩
        · go_wp2_with fail
          rw [← RR.out]
          exact ⟨_, rfl, fun _ hl => by have := ZF.out hl; omega, hM⟩
end Go.Proofs.Ytbndcopeaaifdaa
