/- horologelaw23.PacketBack: the walk (printed by gen/genback23.py). -/
import Derived.Test.YtofbhkodnijkjaaLaw23
namespace Go.Proofs.Ytofbhkodnijkjaa
open Go.RowKit

attribute [local go_sem] blk_cell' blk_frozen'
attribute [local go_sem ↓] loadF_pk storeAt_pk
attribute [local go_sem] run_loadF0 run_storePk
set_option maxRecDepth 20000 in
set_option maxHeartbeats 16000000 in
theorem back23_any (p : Pk) (v : Value) (A2 : Option Addr) (k cap2 : Nat) (b : List Int) (W : World) (hv : PkV W p v) (ok : PkOk p) (hk : b.length = k) (h2 : ByteS W A2 cap2 b) :
    Calls Try.prog 6 #[v, .slice A2 k cap2] W fun e w' => e = .returned (.bool true) ∧ Mo W w' := by
  have hlim2 := h2.lim
  rw [hk] at hlim2
  have HV := Lib.hid (fun w (q : Mo W w) => heavy23_any p v A2 k cap2 w hlim2 (hv.mo q))
  have WK := Lib.hid works23_any
  have PL := Lib.hid (fun (hp : p.e.length ≤ 32 → totM p.e + p.m.length + k ≤ 5000) w (q : Mo W w) => pput_any p v w (hv.mo q) ok.h (fun c => by have := hp c; omega))
  have TB := Lib.hid (fun w (q : Mo W w) => ptake_any k cap2 A2 b w hk (h2.mo q))
  have PT := Lib.hid (fun bs => putP_take (bs := bs) ok)
  have OK := Lib.hid ok.h
  have HV0 := Lib.hid hv
  have OQ := Lib.hid (takeP_ok b h2.byte)
  have PB := Lib.hid (fun (hc : (takeP b).2 = 0) w u (V : PkV w (takeP b).1 u) => show Calls Try.prog 19 #[u] w (PutRet (b, 0) w) from by
    have e : takeP b = ((takeP b).1, 0) := by rw [← hc]
    obtain ⟨e1, e2⟩ := takeP_put h2.byte e
    rw [← e1]
    exact pput_any _ u w V OQ.out e2)
  have HK := Lib.hid hk
  have H2 := Lib.hid h2
  obtain ⟨a1, c1, a2, c2, rfl, -, -⟩ := hv
  clear ok h2 hk
  obtain ⟨tp, htp⟩ : ∃ tp, takeP b = tp := ⟨_, rfl⟩
  rw [htp] at TB OQ PB
  clear htp
  obtain ⟨tq, qc⟩ := tp
  simp only at TB OQ PB
  go_enter Try.func6, Try.ntmps6
  go_wp2_with fail
  refine (HV.out _ Mor.out).mono ?_
  rintro e w1 ⟨hv, rfl, hb, M1⟩
  have M1' := (Mor.out : Mo W _).trans M1
  have B1 : Blk w1 W.heap.size 42 (pkL p.h (.slice a1 p.e.length c1) (.slice a2 p.m.length c2)).toArray := M1.blk inferInstance
  clear M1
  cases hv
  · have HP := Lib.hid (hb rfl)
    clear hb HV
    go_wp2_with fail
    refine (PL.out HP.out _ (M1'.trans Mor.out)).mono ?_
    rintro e w2 ⟨v1, rfl, ⟨A1, d1, rfl, h1⟩, M2⟩
    have N2 := (Mor.out : Mo w1 _).trans M2
    have B2 : Blk w2 W.heap.size 42 (pkL p.h (.slice a1 p.e.length c1) (.slice a2 p.m.length c2)).toArray := N2.blk B1
    have M2' := M1'.trans N2
    clear M2 N2 B1 M1' PL HP
    obtain ⟨r, hr⟩ : ∃ r, putP p = r := ⟨_, rfl⟩
    rw [hr] at h1
    rw [hr]
    obtain ⟨rb, rc⟩ := r
    simp only at h1 ⊢
    have L1 := h1.lim
    have HR := Lib.hid hr
    have HS := Lib.hid h1
    clear hr h1
    by_cases cr : rc = 0
    · subst cr
      have TK := Lib.hid (fun w (q : Mo w2 w) => show Calls Try.prog 10 #[.slice A1 rb.length d1] w (PTakeRet (p, 0) w) from by
        rw [← PT.out _ HR.out]
        exact ptake_any _ d1 A1 rb w rfl (HS.out.mo q))
      go_wp2_with fail
      refine (TK.out _ Mor.out).mono ?_
      rintro e w3 ⟨u, rfl, X, M3⟩
      have N3 := (Mor.out : Mo w2 _).trans M3
      obtain ⟨b1, e1, b2, e2, rfl, X1, X2⟩ := X.at
      have V3 : Hid (PkV w3 p _) := Lib.hid ⟨b1, e1, b2, e2, rfl, X1, X2⟩
      have B3 : Blk w3 W.heap.size 42 (pkL p.h (.slice a1 p.e.length c1) (.slice a2 p.m.length c2)).toArray := N3.blk B2
      have M3' := M2'.trans N3
      clear X X1 X2 M3 N3 B2 TK HS M2'
      go_upto_region 6 with (fail)
      refine wp_name ?_
      intro w4 hw4
      have l3 := B3.lt
      have B4 : Blk w4 W.heap.size 42 (pkL p.h (.slice a1 p.e.length c1) (.slice a2 p.m.length c2)).toArray := by rw [hw4]; infer_instance
      have P4 : Blk w4 w3.heap.size 42 (pkL p.h (.slice b1 p.e.length e1) (.slice b2 p.m.length e2)).toArray := by rw [hw4]; infer_instance
      have N4 : Mo w3 w4 := by rw [hw4]; exact Mor.out
      have M4' := M3'.trans N4
      have V4 := Lib.hid (V3.out.mo N4)
      have SM := Lib.hid (fun w (q : Mo w4 w) => same_self p _ _ w (HV0.out.mo (M4'.trans q)) (V4.out.mo q) OK.out)
      clear hw4 N4 V3 B3 M3' V4
      go_wp2_with fail
      refine (SM.out _ Mor.out).mono ?_
      rintro e w5 ⟨rfl, M5⟩
      have M5' := M4'.trans (Mo.trans Mor.out M5)
      clear SM M5 B4 P4 M4'
      go_wp2_with fail
      refine (TB.out _ (M5'.trans Mor.out)).mono ?_
      rintro e wX ⟨u, rfl, X, MX⟩
      have NX := (Mor.out : Mo w5 _).trans MX
      obtain ⟨x1, y1, x2, y2, rfl, X1, X2⟩ := X.at
      have VX : Hid (PkV wX tq _) := Lib.hid ⟨x1, y1, x2, y2, rfl, X1, X2⟩
      have MX' := M5'.trans NX
      clear X X1 X2 MX NX TB
      go_upto_region 9 with (fail)
      refine wp_name ?_
      intro wY hwY
      have PY : Blk wY wX.heap.size 42 (pkL tq.h (.slice x1 tq.e.length y1) (.slice x2 tq.m.length y2)).toArray := by rw [hwY]; infer_instance
      have NY : Mo wX wY := by rw [hwY]; exact Mor.out
      have MY := MX'.trans NY
      have VY := Lib.hid (VX.out.mo NY)
      clear hwY NY VX MX'
      by_cases ct : qc = 0
      · subst ct
        have P2 := Lib.hid (PB.out rfl)
        go_wp2_with fail
        refine (P2.out _ _ (VY.out.mo Mor.out)).mono ?_
        rintro e w6 ⟨v5, rfl, ⟨A7, c7, rfl, h7⟩, M6⟩
        have M6' := MY.trans (Mo.trans Mor.out M6)
        simp only at h7 ⊢
        have HF := Lib.hid (fun w (k : Mo w6 w) => str_conv (h7.mo k) rfl)
        have HG := Lib.hid (fun w (k : Mo w6 w) => str_conv (H2.out.mo (M6'.trans k)) HK.out)
        have L7 := h7.lim
        rw [HK.out] at HF L7 ⊢
        have s1 := HF.out _ (Mo.refl _)
        have s2 := HG.out _ (Mo.refl _)
        have s3 : (!(strOfNums b).toList == (strOfNums b).toList) = false := by simp
        clear h7 P2 HF HG
        generalize strOfNums b = sb at *
        go_wp2_with fail
        refine (WK.out _).mono ?_
        rintro e w9 ⟨rfl, M9⟩
        go_wp2_with fail
        go_ret
        exact ⟨rfl, M6'.trans (Mo.trans Mor.out M9)⟩
      · have ct' : (qc == 0) = false := by simp [ct]
        clear ct
        go_wp2_with fail
        refine (WK.out _).mono ?_
        rintro e w9 ⟨rfl, M9⟩
        go_wp2_with fail
        go_ret
        exact ⟨rfl, MY.trans (Mo.trans Mor.out M9)⟩
    · have cr' : (rc == 0) = false := by simp [cr]
      clear cr
      go_wp2_with fail
      refine (TB.out _ (M2'.trans Mor.out)).mono ?_
      rintro e wX ⟨u, rfl, X, MX⟩
      have NX := (Mor.out : Mo w2 _).trans MX
      obtain ⟨x1, y1, x2, y2, rfl, X1, X2⟩ := X.at
      have VX : Hid (PkV wX tq _) := Lib.hid ⟨x1, y1, x2, y2, rfl, X1, X2⟩
      have MX' := M2'.trans NX
      clear X X1 X2 MX NX TB
      go_upto_region 9 with (fail)
      refine wp_name ?_
      intro wY hwY
      have PY : Blk wY wX.heap.size 42 (pkL tq.h (.slice x1 tq.e.length y1) (.slice x2 tq.m.length y2)).toArray := by rw [hwY]; infer_instance
      have NY : Mo wX wY := by rw [hwY]; exact Mor.out
      have MY := MX'.trans NY
      have VY := Lib.hid (VX.out.mo NY)
      clear hwY NY VX MX'
      by_cases ct : qc = 0
      · subst ct
        have P2 := Lib.hid (PB.out rfl)
        go_wp2_with fail
        refine (P2.out _ _ (VY.out.mo Mor.out)).mono ?_
        rintro e w6 ⟨v5, rfl, ⟨A7, c7, rfl, h7⟩, M6⟩
        have M6' := MY.trans (Mo.trans Mor.out M6)
        simp only at h7 ⊢
        have HF := Lib.hid (fun w (k : Mo w6 w) => str_conv (h7.mo k) rfl)
        have HG := Lib.hid (fun w (k : Mo w6 w) => str_conv (H2.out.mo (M6'.trans k)) HK.out)
        have L7 := h7.lim
        rw [HK.out] at HF L7 ⊢
        have s1 := HF.out _ (Mo.refl _)
        have s2 := HG.out _ (Mo.refl _)
        have s3 : (!(strOfNums b).toList == (strOfNums b).toList) = false := by simp
        clear h7 P2 HF HG
        generalize strOfNums b = sb at *
        go_wp2_with fail
        refine (WK.out _).mono ?_
        rintro e w9 ⟨rfl, M9⟩
        go_wp2_with fail
        go_ret
        exact ⟨rfl, M6'.trans (Mo.trans Mor.out M9)⟩
      · have ct' : (qc == 0) = false := by simp [ct]
        clear ct
        go_wp2_with fail
        refine (WK.out _).mono ?_
        rintro e w9 ⟨rfl, M9⟩
        go_wp2_with fail
        go_ret
        exact ⟨rfl, MY.trans (Mo.trans Mor.out M9)⟩
  · clear hb PL HV TB PT PB
    go_wp2_with fail
    refine (WK.out _).mono ?_
    rintro e w9 ⟨rfl, M9⟩
    go_wp2_with fail
    go_ret
    exact ⟨rfl, M1'.trans (Mo.trans Mor.out M9)⟩
end Go.Proofs.Ytofbhkodnijkjaa
