/- The reference's header: its bytes, and what 48 bytes tell. -/
import Derived.Test.YtofbhkodnijkjaaHeadC
import Derived.Test.YtofbhkodnijkjaaExtL
namespace Go.Proofs.Ytofbhkodnijkjaa
open Go.RowKit

attribute [local go_sem] blk_cell' blk_frozen'
set_option maxRecDepth 20000 in
theorem sign_any (c : Int) (h1 : 0 ≤ c) (h2 : c ≤ 255) (W : World) : Calls Try.prog 35 #[.int .u8 c] W fun e w' => e = .returned (.int .i8 (sgn8 c)) ∧ W = w' := by
  by_cases q : 127 < c
  · have e1 : IntKind.i8.wrap (c - 256) = sgn8 c := by
      unfold sgn8 IntKind.wrap
      simp only [IntKind.signed, IntKind.bits, Bool.true_and, decide_eq_true_eq, ge_iff_le, Int.reducePow, Nat.reduceSub]
      rw [if_pos q, if_pos (by omega)]
      omega
    go_enter Try.func35, Try.ntmps35
    go_wp2_with fail
    go_ret
    exact ⟨rfl, rfl⟩
  · have e1 := wrap_i8s c h1 h2
    go_enter Try.func35, Try.ntmps35
    go_wp2_with fail
    go_ret
    exact ⟨rfl, rfl⟩
set_option maxRecDepth 20000 in
theorem plain_any (n : Int) (h1 : -128 ≤ n) (h2 : n ≤ 127) (W : World) : Calls Try.prog 43 #[.int .i8 n] W fun e w' => e = .returned (.int .u8 (n % 256)) ∧ W = w' := by
  by_cases q : n < 0
  · have e1 : n + 256 = n % 256 := by omega
    have E1 := Lib.hid e1
    clear e1
    go_enter Try.func43, Try.ntmps43
    go_wp2_with fail
    go_ret
    exact ⟨by rw [← E1.out]; rfl, rfl⟩
  · have e2 : n = n % 256 := by omega
    have E2 := Lib.hid e2
    clear e2
    go_enter Try.func43, Try.ntmps43
    go_wp2_with fail
    go_ret
    exact ⟨by rw [← E2.out]; rfl, rfl⟩
set_option maxRecDepth 20000 in
set_option maxHeartbeats 2000000 in
theorem refMay_any (h : Hd) (W : World) : Calls Try.prog 18 #[hdV h] W fun e w' => e = .returned (.bool (mayH h)) ∧ Mo W w' := by
  obtain ⟨r, hr⟩ : ∃ r, mayH h = r := ⟨_, rfl⟩
  rw [hr]
  unfold mayH at hr
  have HR := Lib.hid hr
  clear hr
  have h1 := HR.out
  by_cases a : h.l < 4
  · have a' : h.l ≤ 3 := by omega
    by_cases b : h.v < 8
    · have b' : h.v ≤ 7 := by omega
      by_cases c : h.m < 8
      · have c' : h.m ≤ 7 := by omega
        obtain rfl : r = true := by rw [← h1, decide_eq_true a, decide_eq_true b, decide_eq_true c]; rfl
        clear h1 HR a b c
        go_enter Try.func18, Try.ntmps18
        go_wp2_with fail
        go_ret
        exact ⟨rfl, Mor.out⟩
      · have c' : ¬ h.m ≤ 7 := by omega
        obtain rfl : r = false := by rw [← h1, decide_eq_false c]; simp
        clear h1 HR a b c
        go_enter Try.func18, Try.ntmps18
        go_wp2_with fail
        go_ret
        exact ⟨rfl, Mor.out⟩
    · have b' : ¬ h.v ≤ 7 := by omega
      obtain rfl : r = false := by rw [← h1, decide_eq_false b]; simp
      clear h1 HR a b
      go_enter Try.func18, Try.ntmps18
      go_wp2_with fail
      go_ret
      exact ⟨rfl, Mor.out⟩
  · have a' : ¬ h.l ≤ 3 := by omega
    obtain rfl : r = false := by rw [← h1, decide_eq_false a]; simp
    clear h1 HR a
    go_enter Try.func18, Try.ntmps18
    go_wp2_with fail
    go_ret
    exact ⟨rfl, Mor.out⟩
set_option maxRecDepth 20000 in
set_option maxHeartbeats 2000000 in
theorem of20_any (A : Option Addr) (n cap : Nat) (ts : List Int) (W : World) (hn : ts.length = n) (h : ByteS W A cap ts) (hm : n ≤ 8) :
    Calls Try.prog 36 #[.slice A n cap] W fun e w' => e = .returned (.int .u64 (ofB ts)) ∧ W = w' := by
  have HL := Lib.hid hn
  have HB := Lib.hid h
  clear hn h
  go_enter Try.func36, Try.ntmps36
  go_wp2_with fail
  go_loop [3, 4] (fun s i => ∃ k : Nat, k ≤ n ∧ i = .int .i64 (k : Int) ∧ s = .int .u64 (ofB (ts.take k))) (fun _ i => n - (intOf i).toNat)
  case atStart => exact ⟨0, by omega, rfl, rfl⟩
  case round =>
    obtain ⟨k, hk, rfl, rfl⟩ := hrel
    by_cases ck : k < n
    · obtain ⟨g, off, rfl, LG, hc⟩ := HB.out.get (by rw [HL.out]; omega)
      obtain ⟨y, b1, b2⟩ := hc k (by rw [HL.out]; exact ck)
      have hbd := ofB_bd (ts.take k) fun c hc => HB.out.byte c (List.mem_of_mem_take hc)
      rw [List.length_take, HL.out, Nat.min_eq_left hk] at hbd
      have hp7 := pow_le7 k (by omega)
      have hx1 := hbd.1
      have hx2 : ofB (ts.take k) < 72057594037927936 := by omega
      have T := Lib.hid (take_snoc' ts k (by rw [HL.out]; exact ck))
      have i0 : (0 : Int) ≤ k := by omega
      have i1 : (k : Int) < n := by omega
      have SN := Lib.hid (ofB_snoc (ts.take k) (ts[k]'(by rw [HL.out]; exact ck)))
      clear hbd hp7 hc
      generalize ofB (ts.take k) = s at *
      generalize ts[k]'_ = c at *
      go_wp2_with fail
      go_round
      case rel => exact ⟨k + 1, by omega, by go_num, by rw [T.out, SN.out, Int.mul_comm]⟩
      case measure => simp [intOf]; omega
    · obtain rfl : k = n := by omega
      have T := Lib.hid (List.take_of_length_le (l := ts) (i := k) (by rw [HL.out]; omega))
      generalize ts.take k = u at *
      obtain rfl := T.out
      go_wp2_with fail
      go_ret
      exact ⟨rfl, rfl⟩
end Go.Proofs.Ytofbhkodnijkjaa
