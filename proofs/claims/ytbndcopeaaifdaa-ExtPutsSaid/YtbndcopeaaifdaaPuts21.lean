/- horologelaw21.ExtPuts: the walk. -/
import Derived.Test.YtbndcopeaaifdaaExtW
import Derived.Test.YtbndcopeaaifdaaExtJ
import Derived.Test.YtbndcopeaaifdaaExtK
namespace Go.Proofs.Ytbndcopeaaifdaa
open Go.RowKit

set_option maxRecDepth 20000 in
set_option maxHeartbeats 4000000 in
theorem puts21_any (A A' : Option Addr) (n m cap cap' : Nat) (l : List Fld) (mac : List Int) (W : World) (hn : l.length = n) (hm : mac.length = m) (h : ExtS W A cap l) (h' : ByteS W A' cap' mac) :
    Calls Try.prog 3 #[.slice A n cap, .slice A' m cap'] W fun e w' => e = .returned (.bool true) ∧ Mo W w' := by
  have hlim := h.lim
  have hlim' := h'.lim
  rw [hn] at hlim
  rw [hm] at hlim'
  have HV := Lib.hid (fun w (k : Mo W w) => heavy_any A A' n m cap cap' l w hn hlim' (h.mo k))
  have WK := Lib.hid works_any
  have PL := Lib.hid (fun (hp : n ≤ 32 → totM l + m ≤ 80000) w (k : Mo W w) => show Calls Try.prog 10 #[.slice A n cap, .slice A' m cap'] w (PutRet (putM l mac) w) from (by
    by_cases c : n ≤ 32
    · exact put_any A A' n m cap cap' l mac w hn hm (h.mo k) (h'.mo k) c (by have := hp c; omega)
    · exact put_long A A' n m cap cap' l mac w hn (by omega) hlim))
  have RL := Lib.hid (fun (hp : n ≤ 32 → totM l + m ≤ 80000) w (k : Mo W w) => show Calls Try.prog 11 #[.slice A n cap, .slice A' m cap'] w (PutRet (putM l mac) w) from (by
    rw [← refPut_eq l mac h.ok h'.byte]
    by_cases c : n ≤ 32
    · exact refPut_any A A' n m cap cap' l mac w hn hm (h.mo k) (h'.mo k) c (by have := hp c; omega)
    · exact refPut_long A A' n m cap cap' l mac w hn (by omega) hlim))
  have HN := Lib.hid hn
  clear h h' hn hm
  generalize putM l mac = r at *
  obtain ⟨rb, rc⟩ := r
  go_enter Try.func3, Try.ntmps3
  go_wp2_with fail
  refine (HV.out _ (Mo.refl _)).mono ?_
  rintro e w1 ⟨b, rfl, hb, M1⟩
  cases b
  · have hp : n ≤ 32 → totM l + m ≤ 80000 := fun c => hb rfl (by rw [HN.out]; exact c)
    have HP := Lib.hid hp
    clear hb hp
    go_wp2_with fail
    refine (PL.out HP.out _ M1).mono ?_
    rintro e w2 ⟨v1, rfl, ⟨A1, c1, rfl, h1⟩, M2⟩
    have M2' := M1.trans M2
    go_wp2_with fail
    refine (RL.out HP.out _ M2').mono ?_
    rintro e w3 ⟨v2, rfl, ⟨A2, c2, rfl, h2⟩, M3⟩
    have M3' := M2'.trans M3
    have s1 := str_conv (h1.mo M3) rfl
    have s2 := str_conv h2 rfl
    have L1 := h1.lim
    have s3 : ((strOfNums rb).toList == (strOfNums rb).toList) = true := by simp
    simp only at s1 s2 L1 ⊢
    clear h1 h2 PL RL HV
    generalize rb.length = q at *
    generalize strOfNums rb = sb at *
    go_wp2_with fail
    refine (WK.out _).mono ?_
    rintro e w4 ⟨rfl, M4⟩
    go_wp2_with fail
    go_ret
    exact ⟨rfl, M3'.trans M4⟩
  · clear hb PL RL HV
    go_wp2_with fail
    refine (WK.out _).mono ?_
    rintro e w4 ⟨rfl, M4⟩
    go_wp2_with fail
    go_ret
    exact ⟨rfl, M1.trans M4⟩
end Go.Proofs.Ytbndcopeaaifdaa
