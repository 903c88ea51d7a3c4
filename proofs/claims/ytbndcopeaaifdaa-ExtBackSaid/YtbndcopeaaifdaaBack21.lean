/- horologelaw21.ExtBack: the walk (printed by gen/genback21.py). -/
import Derived.Test.YtbndcopeaaifdaaExtW
import Derived.Test.YtbndcopeaaifdaaExtJ
import Derived.Test.YtbndcopeaaifdaaExtK
import Derived.Test.YtbndcopeaaifdaaExtM
namespace Go.Proofs.Ytbndcopeaaifdaa
open Go.RowKit

set_option maxRecDepth 20000 in
set_option maxHeartbeats 8000000 in
theorem back21_any (A A' A2 : Option Addr) (n m k cap cap' cap2 : Nat) (l : List Fld) (mac b : List Int) (W : World) (hn : l.length = n) (hm : mac.length = m) (hk : b.length = k) (h : ExtS W A cap l) (h' : ByteS W A' cap' mac) (h2 : ByteS W A2 cap2 b) :
    Calls Try.prog 5 #[.slice A n cap, .slice A' m cap', .slice A2 k cap2] W fun e w' => e = .returned (.bool true) ∧ Mo W w' := by
  have hlim := h.lim
  have hlim' := h'.lim
  have hlim2 := h2.lim
  rw [hn] at hlim
  rw [hm] at hlim'
  rw [hk] at hlim2
  have HV := Lib.hid (fun w (k : Mo W w) => heavy_any A A' n m cap cap' l w hn hlim' (h.mo k))
  have WK := Lib.hid works_any
  have PL := Lib.hid (fun (hp : n ≤ 32 → totM l + m ≤ 80000) w (k : Mo W w) => show Calls Try.prog 10 #[.slice A n cap, .slice A' m cap'] w (PutRet (putM l mac) w) from (by
    by_cases c : n ≤ 32
    · exact put_any A A' n m cap cap' l mac w hn hm (h.mo k) (h'.mo k) c (by have := hp c; omega)
    · exact put_long A A' n m cap cap' l mac w hn (by omega) hlim))
  have TB := Lib.hid (fun w (q : Mo W w) => take_any A2 cap2 k b w hk (h2.mo q))
  have PT := Lib.hid (fun bs => put_take (bs := bs) h.ok h'.byte)
  have HN := Lib.hid hn
  have HM := Lib.hid hm
  have HK := Lib.hid hk
  have H0 := Lib.hid h
  have H1 := Lib.hid h'
  have H2 := Lib.hid h2
  clear h h' h2 hn hm hk
  go_enter Try.func5, Try.ntmps5
  go_wp2_with fail
  refine (HV.out _ (Mo.refl _)).mono ?_
  rintro e w1 ⟨hv, rfl, hb, M1⟩
  cases hv
  · have hp : n ≤ 32 → totM l + m ≤ 80000 := fun c => hb rfl (by rw [HN.out]; exact c)
    have HP := Lib.hid hp
    clear hb hp
    by_cases ck : 5000 < k
    · clear PL HV TB PT
      go_wp2_with fail
      refine (WK.out _).mono ?_
      rintro e w9 ⟨rfl, M9⟩
      go_wp2_with fail
      go_ret
      exact ⟨rfl, M1.trans M9⟩

    · go_wp2_with fail
      refine (PL.out HP.out _ M1).mono ?_
      rintro e w2 ⟨v1, rfl, ⟨A1, c1, rfl, h1⟩, M2⟩
      have M2' := M1.trans M2
      obtain ⟨r, hr⟩ : ∃ r, putM l mac = r := ⟨_, rfl⟩
      rw [hr] at h1
      rw [hr]
      obtain ⟨rb, rc⟩ := r
      simp only at h1 ⊢
      have L1 := h1.lim
      have HR := Lib.hid hr
      have HS := Lib.hid h1
      clear hr h1 PL HV
      by_cases cr : rc = 0
      · subst cr
        have TK := Lib.hid (show Calls Try.prog 13 #[.slice A1 rb.length c1] w2 (TakeRet (l, mac, 0) w2) from by
          rw [← PT.out _ HR.out]
          exact take_any A1 c1 _ rb w2 rfl HS.out)
        generalize rb.length = q1 at *
        go_wp2_with fail
        refine TK.out.mono ?_
        rintro e w3 ⟨v1, v2, rfl, ⟨A3, c3, rfl, h3⟩, ⟨A4, c4, rfl, h4⟩, M3⟩
        have M3' := M2'.trans M3
        simp only at h3 h4 ⊢
        have sm0 := refSame_any A A3 n _ cap c3 l l w3 HN.out rfl (H0.out.mo M3') h3
        rw [decide_eq_true rfl] at sm0
        have SM := Lib.hid sm0
        clear sm0
        have HF := Lib.hid (fun w (q : Mo w3 w) => str_conv (h4.mo q) rfl)
        rw [HN.out] at SM ⊢
        rw [HM.out] at HF ⊢
        clear h3 h4 TK
        go_wp2_with fail
        refine SM.out.mono ?_
        rintro e w4 ⟨rfl, M4⟩
        have M4' := M3'.trans M4
        have s1 := HF.out _ M4
        have s2 := str_conv (H1.out.mo M4') HM.out
        have s3 : (!(strOfNums mac).toList == (strOfNums mac).toList) = false := by simp
        clear SM HF
        generalize strOfNums mac = sm at *
        go_wp2_with fail
        refine (TB.out _ M4').mono ?_
        rintro e w5 ⟨v3, v4, rfl, ⟨A5, c5, rfl, h5⟩, ⟨A6, c6, rfl, h6⟩, M5⟩
        have M5' := Mo.trans M4' M5
        obtain ⟨tr, ht⟩ : ∃ t, takeM b = t := ⟨_, rfl⟩
        rw [ht] at h5 h6
        rw [ht]
        obtain ⟨tl, tm, tc⟩ := tr
        simp only at h5 h6 ⊢
        have L5 := h5.lim
        have L6 := h6.lim
        have HT := Lib.hid ht
        have H5 := Lib.hid h5
        have H6 := Lib.hid h6
        clear ht h5 h6 TB
        by_cases ct : tc = 0
        · subst ct
          have TP := Lib.hid (take_put H2.out.byte (by rw [HK.out]; omega) HT.out)
          have P2 := Lib.hid (show Calls Try.prog 10 #[.slice A5 tl.length c5, .slice A6 tm.length c6] w5 (PutRet (b, 0) w5) from by
            rw [← TP.out.1]
            exact put_any A5 A6 _ _ c5 c6 tl tm w5 rfl rfl H5.out H6.out TP.out.2.1 (by have := TP.out.2.2; have := HK.out; omega))
          generalize tl.length = q5 at *
          generalize tm.length = q6 at *
          go_wp2_with fail
          refine P2.out.mono ?_
          rintro e w6 ⟨v5, rfl, ⟨A7, c7, rfl, h7⟩, M6⟩
          have M6' := Mo.trans M5' M6
          have s1 := str_conv h7 rfl
          have s2 := str_conv (H2.out.mo M6') HK.out
          simp only at s1 ⊢
          rw [HK.out] at s1 ⊢
          have s3 : (!(strOfNums b).toList == (strOfNums b).toList) = false := by simp
          clear h7 P2
          generalize strOfNums b = sb at *
          go_wp2_with fail
          refine (WK.out _).mono ?_
          rintro e w9 ⟨rfl, M9⟩
          go_wp2_with fail
          go_ret
          exact ⟨rfl, M6'.trans M9⟩

        · have ct' : (tc == 0) = false := by simp [ct]
          clear ct
          generalize tl.length = q5 at *
          generalize tm.length = q6 at *
          go_wp2_with fail
          refine (WK.out _).mono ?_
          rintro e w9 ⟨rfl, M9⟩
          go_wp2_with fail
          go_ret
          exact ⟨rfl, M5'.trans M9⟩


      · have cr' : (rc == 0) = false := by simp [cr]
        generalize rb.length = q1 at *
        clear cr
        go_wp2_with fail
        refine (TB.out _ M2').mono ?_
        rintro e w5 ⟨v3, v4, rfl, ⟨A5, c5, rfl, h5⟩, ⟨A6, c6, rfl, h6⟩, M5⟩
        have M5' := Mo.trans M2' M5
        obtain ⟨tr, ht⟩ : ∃ t, takeM b = t := ⟨_, rfl⟩
        rw [ht] at h5 h6
        rw [ht]
        obtain ⟨tl, tm, tc⟩ := tr
        simp only at h5 h6 ⊢
        have L5 := h5.lim
        have L6 := h6.lim
        have HT := Lib.hid ht
        have H5 := Lib.hid h5
        have H6 := Lib.hid h6
        clear ht h5 h6 TB
        by_cases ct : tc = 0
        · subst ct
          have TP := Lib.hid (take_put H2.out.byte (by rw [HK.out]; omega) HT.out)
          have P2 := Lib.hid (show Calls Try.prog 10 #[.slice A5 tl.length c5, .slice A6 tm.length c6] w5 (PutRet (b, 0) w5) from by
            rw [← TP.out.1]
            exact put_any A5 A6 _ _ c5 c6 tl tm w5 rfl rfl H5.out H6.out TP.out.2.1 (by have := TP.out.2.2; have := HK.out; omega))
          generalize tl.length = q5 at *
          generalize tm.length = q6 at *
          go_wp2_with fail
          refine P2.out.mono ?_
          rintro e w6 ⟨v5, rfl, ⟨A7, c7, rfl, h7⟩, M6⟩
          have M6' := Mo.trans M5' M6
          have s1 := str_conv h7 rfl
          have s2 := str_conv (H2.out.mo M6') HK.out
          simp only at s1 ⊢
          rw [HK.out] at s1 ⊢
          have s3 : (!(strOfNums b).toList == (strOfNums b).toList) = false := by simp
          clear h7 P2
          generalize strOfNums b = sb at *
          go_wp2_with fail
          refine (WK.out _).mono ?_
          rintro e w9 ⟨rfl, M9⟩
          go_wp2_with fail
          go_ret
          exact ⟨rfl, M6'.trans M9⟩

        · have ct' : (tc == 0) = false := by simp [ct]
          clear ct
          generalize tl.length = q5 at *
          generalize tm.length = q6 at *
          go_wp2_with fail
          refine (WK.out _).mono ?_
          rintro e w9 ⟨rfl, M9⟩
          go_wp2_with fail
          go_ret
          exact ⟨rfl, M5'.trans M9⟩


  · clear hb PL HV TB PT
    go_wp2_with fail
    refine (WK.out _).mono ?_
    rintro e w9 ⟨rfl, M9⟩
    go_wp2_with fail
    go_ret
    exact ⟨rfl, M1.trans M9⟩

end Go.Proofs.Ytbndcopeaaifdaa
