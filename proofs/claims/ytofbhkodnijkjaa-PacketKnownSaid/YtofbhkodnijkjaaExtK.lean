/- horologeref21.Put: the reference's Put. -/
import Derived.Test.YtofbhkodnijkjaaExtF
import Derived.Test.YtofbhkodnijkjaaExtH
import Derived.Test.YtofbhkodnijkjaaExtI
namespace Go.Proofs.Ytofbhkodnijkjaa
open Go.RowKit

set_option maxRecDepth 20000 in
set_option maxHeartbeats 1000000 in
theorem refPut_long (A A' : Option Addr) (n m cap cap' : Nat) (l : List Fld) (mac : List Int) (W : World) (hn : l.length = n) (hl : 32 < n) (hlim : n ≤ 4398046511104) :
    Calls Try.prog 29 #[.slice A n cap, .slice A' m cap'] W (PutRet (refPutM l mac) W) := by
  have hp : refPutM l mac = ([], 3) := by unfold refPutM; rw [if_pos (by omega)]
  rw [hp]
  clear hp hn
  go_enter Try.func29, Try.ntmps29
  go_wp2_with fail
  go_ret2
  exact ⟨_, rfl, byteV_nil W, Mor.out⟩
set_option maxRecDepth 20000 in
set_option maxHeartbeats 4000000 in
theorem refPut_any (A A' : Option Addr) (n m cap cap' : Nat) (l : List Fld) (mac : List Int) (W : World) (hn : l.length = n) (hm : mac.length = m) (h : ExtS W A cap l) (h' : ByteS W A' cap' mac) (hl : n ≤ 32) (ht : totM l + m ≤ 100000) :
    Calls Try.prog 29 #[.slice A n cap, .slice A' m cap'] W (PutRet (refPutM l mac) W) := by
  obtain ⟨r, hr⟩ : ∃ r, refPutM l mac = r := ⟨_, rfl⟩
  rw [hr]
  unfold refPutM at hr
  rw [if_neg (by omega)] at hr
  have RR := Lib.hid hr
  have BY := Lib.hid (bytes_any A A' n m cap cap' l mac W hn hm h h' hl ht)
  have HN := Lib.hid hn
  have HM := Lib.hid hm
  have HB := Lib.hid h
  have HC := Lib.hid h'
  have hlen := encM_len l
  have HE := Lib.hid hlen
  clear hr hn hm h h' hlen
  go_enter Try.func29, Try.ntmps29
  go_wp2_with fail
  refine BY.out.mono ?_
  rintro e w1 ⟨v, rfl, hv, M1⟩
  obtain ⟨A1, c1, rfl, hb1⟩ := hv
  by_cases cb : l.any big = true
  · have hr := RR.out
    rw [if_pos cb] at hr
    subst hr
    rw [cb, if_pos rfl]
    clear RR BY hb1
    go_wp2_with fail
    go_ret2
    exact ⟨_, rfl, byteV_nil _, M1⟩
  · have hr := RR.out
    rw [if_neg cb] at hr
    have cb' : l.any big = false := by simpa using cb
    rw [cb', if_neg (by decide)]
    rw [if_neg cb] at hb1
    have RR2 := Lib.hid hr
    have hlm : (encM l ++ mac).length = totM l + m := by rw [List.length_append, HE.out, HM.out]
    rw [hlm]
    obtain ⟨b, hb⟩ : ∃ b, encM l ++ mac = b := ⟨_, rfl⟩
    rw [hb] at hlm hb1
    have HBB := Lib.hid hb1
    have HLM := Lib.hid hlm
    have HBE := Lib.hid hb
    have RD := Lib.hid (fun w (k : Mo w1 w) => read_any A1 c1 (totM l + m) b w hlm (hb1.mo k) (by omega))
    clear hr RR BY hb1 hlm cb cb' hb
    go_wp2_with fail
    refine (RD.out _ (Mo.refl _)).mono ?_
    rintro e w2 ⟨D1, d1, D2, d2, D3, d3, q3, rfl, x1, x2, x3, M2⟩
    obtain ⟨A4, c4, e4, hb4⟩ := x1
    obtain ⟨A5, c5, e5, hb5⟩ := x3
    have hm : (if (nextM (tailOf b)).1 = 1 then tailOf b else []) = macM b := rfl
    rw [hm] at e5 hb5
    have ht : (nextM (b.drop (endF b 0))).1 = (nextM (tailOf b)).1 := rfl
    have hr := RR2.out
    rw [HBE.out, ht] at hr
    have RR3 := Lib.hid hr
    clear hr RR2 RD x2 hm ht
    have hlp : ((parse b 0).map fldOf).length = (parse b 0).length := List.length_map ..
    generalize macM b = tm at *
    generalize (parse b 0).map fldOf = tl at *
    generalize (parse b 0).length = n4 at *
    generalize (nextM (tailOf b)).1 = tc at *
    obtain ⟨rfl, rfl⟩ : D1 = A4 ∧ d1 = c4 := by simp at e4; exact ⟨e4.1, e4.2.2⟩
    obtain ⟨rfl, rfl, hq⟩ : D3 = A5 ∧ d3 = c5 ∧ tm.length = q3 := by simp at e5; exact ⟨e5.1, e5.2.2, e5.2.1.symm⟩
    have L4 := hb4.lim
    have L5 := hb5.lim
    rw [hlp] at L4
    rw [hq] at L5
    have hQ := Lib.hid hq
    have H4 := Lib.hid hlp
    have M1' := Lib.hid M1
    have hv0 : ByteV w2 (.slice A1 (totM l + m) c1) b := ⟨A1, c1, by rw [HLM.out], HBB.out.mo M2⟩
    have HV := Lib.hid hv0
    clear hv0
    have EQ := Lib.hid (fun w (q : Mo w2 w) => refSame_any D1 A n4 n d1 cap tl l w H4.out HN.out (hb4.mo q) ((HB.out.mo (M1.trans M2)).mo q))
    have S1 := Lib.hid (fun w (q : Mo w2 w) => str_conv (hb5.mo q) hQ.out)
    have S2 := Lib.hid (fun w (q : Mo w2 w) => str_conv ((HC.out.mo (M1.trans M2)).mo q) HM.out)
    have SE := Lib.hid (strOf_eq hb5.byte HC.out.byte)
    clear e4 e5 hb4 hb5 hq hlp
    by_cases c1 : tc = 3
    · have hr := RR3.out
      rw [if_pos (.inl c1)] at hr
      subst hr
      have c1' : decide (tc = 3) = true := decide_eq_true c1
      rw [c1']
      clear RR3 EQ S1 S2 SE c1 c1'
      go_wp2_with fail
      go_ret2
      exact ⟨_, rfl, byteV_nil _, M1.trans (M2.trans Mor.out)⟩
    · have c1' : decide (tc = 3) = false := decide_eq_false c1
      rw [c1']
      have hr := RR3.out
      have N1 := Lib.hid c1
      clear c1 c1'
      go_wp2_with fail
      refine (EQ.out _ Mor.out).mono ?_
      rintro e w3 ⟨rfl, M3⟩
      have hM3 := Mo.trans (Mor.out : Mo w2 _) M3
      by_cases c2 : tl = l
      · rw [decide_eq_true c2]
        have k3 : w3.cell? ⟨w2.heap.size, 2, none⟩ = some (.slice D3 q3 d3) := by rw [M3.cell]; simp [go_sem]
        have s1 := S1.out _ hM3
        have s2 := S2.out _ hM3
        have s3 := SE.out
        clear S1 S2 SE M3
        by_cases c3 : tm = mac
        · rw [decide_eq_true c3] at s3
          rw [if_neg (fun h => h.elim N1.out (fun h => h.elim (fun h => h c2) (fun h => h c3)))] at hr
          subst hr
          have s4 : (!(strOfNums tm).toList == (strOfNums mac).toList) = false := by rw [s3]; rfl
          clear c2 c3 EQ RR3 HB HC s3
          go_wp2_with fail
          go_ret2
          exact ⟨_, rfl, HV.out.mo hM3, M1.trans (M2.trans hM3)⟩
        · rw [decide_eq_false c3] at s3
          rw [if_pos (.inr (.inr c3))] at hr
          subst hr
          have s4 : (!(strOfNums tm).toList == (strOfNums mac).toList) = true := by rw [s3]; rfl
          clear c2 c3 EQ RR3 HB HC s3
          go_wp2_with fail
          go_ret2
          exact ⟨_, rfl, byteV_nil _, M1.trans (M2.trans hM3)⟩
      · rw [if_pos (.inr (.inl c2))] at hr
        subst hr
        rw [decide_eq_false c2]
        clear c2 S1 S2 SE EQ RR3 HB HC
        go_wp2_with fail
        go_ret2
        exact ⟨_, rfl, byteV_nil _, M1.trans (M2.trans hM3)⟩
end Go.Proofs.Ytofbhkodnijkjaa
