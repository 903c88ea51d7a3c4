/- horologelaw23.PacketAnswers: the walk (printed by gen/genans23.py). -/
import Derived.Test.YtofbhkodnijkjaaLaw23
namespace Go.Proofs.Ytofbhkodnijkjaa
open Go.RowKit

set_option maxRecDepth 20000 in
theorem ans_class {h : Hd} (ok : HdOk h) (m3 : h.m = 3) (may : mayH h = true) {recv xmit : Int} (h1 : 0 ≤ recv ∧ recv ≤ 18446744073709551615) (h2 : 0 ≤ xmit ∧ xmit ≤ 18446744073709551615) :
    classP (hdB (ansH h recv xmit)) = (⟨ansH h recv xmit, [], []⟩, if h.x = 0 then 3 else 4) := by
  have e := hdOf_put (ansH h recv xmit) (ansH_ok ok h1 h2) (by rw [ansH_may m3]; exact may) []
  rw [List.append_nil] at e
  have t : takeP (hdB (ansH h recv xmit)) = (⟨ansH h recv xmit, [], []⟩, 0) := by
    unfold takeP
    rw [if_neg (by rw [hdB_len]; omega), List.drop_eq_nil_of_le (by rw [hdB_len]; omega), take_nil, if_pos rfl, e]
  unfold classP
  rw [t, if_pos rfl]
  have k : kindP (ansH h recv xmit) = if h.x = 0 then 3 else 4 := by
    show (if ((4 : Int) = 3 ∧ xmit = 0) ∨ ((4 : Int) = 4 ∧ h.x = 0) then (3 : Int) else if (4 : Int) = 3 then 1 else if (4 : Int) = 4 then 4 else 8) = _
    by_cases c : h.x = 0
    · rw [if_pos (.inr ⟨rfl, c⟩), if_pos c]
    · rw [if_neg (fun q => by rcases q with ⟨q, -⟩ | ⟨-, q⟩; exact absurd q (by decide); exact c q), if_neg (by decide), if_pos rfl, if_neg c]
  simp only [k]
set_option maxRecDepth 20000 in
theorem ans_key {d : Dg} {h : Hd} (m3 : h.m = 3) (recv xmit : Int) (bs : List Int) : keyC ⟨d.at_, d.dst, d.src, bs⟩ (ansH h recv xmit) = keyC d h := by
  unfold keyC
  rw [if_pos m3]
  show (if (4 : Int) = 3 then _ else if (4 : Int) = 4 then kyC d.src d.dst h.x else _) = _
  rw [if_neg (by decide), if_pos rfl]
set_option maxRecDepth 20000 in
theorem loadF_w (v : Value) : Instr.loadAt 24 v = loadF 24 v := rfl
set_option maxRecDepth 20000 in
theorem buildF_ends (l : Array (Nat × Value)) : Instr.build 30 l = buildF 30 l := rfl
set_option maxRecDepth 20000 in
theorem run_build_ends0 (w : World) : (buildF 30 #[]).run Try.prog w = .ok (.agg en0) w := run_build w _ _ _ (by kernel_rfl)
set_option maxRecDepth 20000 in
theorem run_eql_en0 (w : World) : (eqlF 30 (.agg en0) (.agg en0)).run Try.prog w = .ok (.bool true) w := run_eqlF_self fl_ends w fits_en0
attribute [local go_sem] blk_cell' blk_frozen' dg_at dg_src dg_dst dg_b
attribute [local go_sem ↓] loadF_pk storeAt_pk loadF_dg storeF_dg storeF_key loadF_key eqlF_key loadF_ends buildF_ends eqlF_ends loadF_w eqlF_wide
attribute [local go_sem] run_loadF0 run_storePk run_storeF0 run_loadFo run_loadFz run_build_ends0 run_eql_en0
set_option maxRecDepth 20000 in
set_option maxHeartbeats 16000000 in
theorem answers23_any (d : Dg) (p : Pk) (v u : Value) (recv xmit : Int) (W : World) (hv : DgV W d v) (kd : DgOk d) (hu : PkV W p u) (ok : PkOk p) (h1 : 0 ≤ recv ∧ recv ≤ 18446744073709551615) (h2 : 0 ≤ xmit ∧ xmit ≤ 18446744073709551615) :
    Calls Try.prog 4 #[v, u, .int .u64 recv, .int .u64 xmit] W fun e w' => e = .returned (.bool true) ∧ Mo W w' := by
  have HU := Lib.hid hu
  have HD := Lib.hid hv
  have KD := Lib.hid kd
  obtain ⟨A, cap, rfl, hb⟩ := hv
  obtain ⟨a1, c1, a2, c2, rfl, -, -⟩ := hu
  have za := sz_wide kd.at_
  have zs := sz_ends kd.src
  have zt := sz_ends kd.dst
  have oa := one_of_fits kd.at_
  have os := one_of_fits kd.src
  have ot := one_of_fits kd.dst
  have hlim := hb.lim
  have HV := Lib.hid (fun w (k : Mo W w) => heavy23_any p _ A d.bs.length cap w hlim (HU.out.mo k))
  have WK := Lib.hid works23_any
  have AN := Lib.hid (fun w (k : Mo W w) => answer_any d p _ _ recv xmit w (HD.out.mo k) kd (HU.out.mo k) ok.h h1 h2)
  have KY := Lib.hid (fun w (k : Mo W w) => key_any d p _ _ w (HD.out.mo k) kd (HU.out.mo k))
  have MY := Lib.hid (refMay_any p.h)
  have OK := Lib.hid ok.h
  have H1 := Lib.hid h1
  have H2 := Lib.hid h2
  clear hb kd ok h1 h2
  generalize d.bs.length = n at *
  go_enter Try.func4, Try.ntmps4
  go_wp2_with fail
  refine (HV.out _ Mor.out).mono ?_
  rintro e w1 ⟨b, rfl, -, M1⟩
  have M1' := (Mor.out : Mo W _).trans M1
  have B1 : Blk w1 W.heap.size 33 (dgC d.at_ d.src d.dst (.slice A n cap)) := M1.blk inferInstance
  have P1 : Blk w1 (W.heap.size + 1) 42 (pkL p.h (.slice a1 p.e.length c1) (.slice a2 p.m.length c2)).toArray := M1.blk inferInstance
  clear M1 HV
  cases b
  · by_cases m3 : p.h.m = 3
    · have d3 : (p.h.m != 3) = false := by simp [m3]
      by_cases may : mayH p.h = true
      · rw [show ansD d p.h recv xmit = (⟨d.at_, d.dst, d.src, hdB (ansH p.h recv xmit)⟩, 0) from if_pos ⟨m3, may⟩] at AN
        have KE := ans_key (d := d) m3 recv xmit (hdB (ansH p.h recv xmit))
        have CE := ans_class OK.out m3 may H1.out H2.out
        have kd' : DgOk ⟨d.at_, d.dst, d.src, hdB (ansH p.h recv xmit)⟩ := ⟨KD.out.at_, KD.out.dst, KD.out.src⟩
        have CL := Lib.hid (fun w v (hv : DgV w ⟨d.at_, d.dst, d.src, hdB (ansH p.h recv xmit)⟩ v) => class_any _ v w hv kd')
        have KA := Lib.hid (fun w v u (hv : DgV w ⟨d.at_, d.dst, d.src, hdB (ansH p.h recv xmit)⟩ v) (hu : PkV w ⟨ansH p.h recv xmit, [], []⟩ u) => key_any _ _ v u w hv kd' hu)
        have FK := fits_key KD.out OK.out
        have kb : keyB p.h = true := by unfold keyB; rw [decide_eq_true m3]; rfl
        have kb' : keyB (ansH p.h recv xmit) = true := by rfl
        rw [CE] at CL
        rw [KE, kb'] at KA
        rw [kb] at KY
        have LB := hdB_len (ansH p.h recv xmit)
        have t1 : ((ansH p.h recv xmit).r == recv) = true := by simp [ansH]
        have t2 : ((ansH p.h recv xmit).x == xmit) = true := by simp [ansH]
        have t3 : ((ansH p.h recv xmit).m == 4) = true := by simp [ansH]
        have t4 : ((ansH p.h recv xmit).v == p.h.v) = true := by simp [ansH]
        have MAY := Lib.hid may
        rw [may] at MY
        clear KE CE kb kb' kd' may m3
        generalize hdB (ansH p.h recv xmit) = hb at *
        generalize ansH p.h recv xmit = ah at *
        generalize keyC d p.h = ky at *
        have fk := run_eqlF_self fl_key (hx := FK)
        have fa := run_eqlF_self fl_wide (hx := KD.out.at_)
        have szk : SzA ky 37 := ⟨fits_size fl_key FK⟩
        have onk : OneA ky := one_of_fits FK
        clear FK
        go_wp2_with fail
        refine (AN.out _ (M1'.trans Mor.out)).mono ?_
        rintro e w2 ⟨x, rfl, ⟨A2, k2, rfl, hb2⟩, M2⟩
        have N2 := (Mor.out : Mo w1 _).trans M2
        simp only at hb2 ⊢
        rw [LB]
        have HB : Hid (DgV w2 ⟨d.at_, d.dst, d.src, hb⟩ (.agg (dgC d.at_ d.dst d.src (.slice A2 48 k2)))) := Lib.hid ⟨A2, k2, by rw [LB], hb2⟩
        have B2 : Blk w2 W.heap.size 33 (dgC d.at_ d.src d.dst (.slice A n cap)) := N2.blk B1
        have P2 : Blk w2 (W.heap.size + 1) 42 (pkL p.h (.slice a1 p.e.length c1) (.slice a2 p.m.length c2)).toArray := N2.blk P1
        have M2' := M1'.trans N2
        clear M2 N2 B1 P1 M1' AN hb2
        go_upto_region 4 with (fail)
        refine wp_name ?_
        intro w3 hw3
        have B3 : Blk w3 W.heap.size 33 (dgC d.at_ d.src d.dst (.slice A n cap)) := by rw [hw3]; infer_instance
        have P3 : Blk w3 (W.heap.size + 1) 42 (pkL p.h (.slice a1 p.e.length c1) (.slice a2 p.m.length c2)).toArray := by rw [hw3]; infer_instance
        have E3 : Blk w3 w2.heap.size 33 (dgC d.at_ d.dst d.src (.slice A2 48 k2)) := by rw [hw3]; infer_instance
        have N3 : Mo w2 w3 := by rw [hw3]; exact Mor.out
        have M3' := M2'.trans N3
        have HB3 := Lib.hid (HB.out.mo N3)
        clear hw3 N3 B2 P2 M2' HB
        go_wp2_with fail
        refine (MY.out _).mono ?_
        rintro e w4 ⟨rfl, M4⟩
        have N4 := (Mor.out : Mo w3 _).trans M4
        have B4 : Blk w4 W.heap.size 33 (dgC d.at_ d.src d.dst (.slice A n cap)) := N4.blk B3
        have P4 : Blk w4 (W.heap.size + 1) 42 (pkL p.h (.slice a1 p.e.length c1) (.slice a2 p.m.length c2)).toArray := N4.blk P3
        have E4 : Blk w4 w2.heap.size 33 (dgC d.at_ d.dst d.src (.slice A2 48 k2)) := N4.blk E3
        have M4' := M3'.trans N4
        have HB4 := Lib.hid (HB3.out.mo N4)
        clear M4 N4 B3 P3 E3 M3' HB3 MY
        go_wp2_with fail
        refine (CL.out _ _ (HB4.out.mo Mor.out)).mono ?_
        rintro e w5 ⟨x, rfl, X, M5⟩
        have N5 := (Mor.out : Mo w4 _).trans M5
        obtain ⟨b1, e1, b2, e2, rfl, X1, X2⟩ := X.at
        have V5 : Hid (PkV w5 ⟨ah, [], []⟩ _) := Lib.hid ⟨b1, e1, b2, e2, rfl, X1, X2⟩
        simp only [List.length_nil] at V5 ⊢
        have B5 : Blk w5 W.heap.size 33 (dgC d.at_ d.src d.dst (.slice A n cap)) := N5.blk B4
        have P5 : Blk w5 (W.heap.size + 1) 42 (pkL p.h (.slice a1 p.e.length c1) (.slice a2 p.m.length c2)).toArray := N5.blk P4
        have E5 : Blk w5 w2.heap.size 33 (dgC d.at_ d.dst d.src (.slice A2 48 k2)) := N5.blk E4
        have M5' := M4'.trans N5
        have HB5 := Lib.hid (HB4.out.mo N5)
        clear M5 N5 B4 P4 E4 M4' HB4 CL X X1 X2
        generalize hkc : (if p.h.x = 0 then (3 : Int) else 4) = kc
        go_upto_region 7 with (fail)
        refine wp_name ?_
        intro w6 hw6
        have B6 : Blk w6 W.heap.size 33 (dgC d.at_ d.src d.dst (.slice A n cap)) := by rw [hw6]; infer_instance
        have P6 : Blk w6 (W.heap.size + 1) 42 (pkL p.h (.slice a1 p.e.length c1) (.slice a2 p.m.length c2)).toArray := by rw [hw6]; infer_instance
        have E6 : Blk w6 w2.heap.size 33 (dgC d.at_ d.dst d.src (.slice A2 48 k2)) := by rw [hw6]; infer_instance
        have Q6 : Blk w6 w5.heap.size 42 (pkL ah (.slice b1 0 e1) (.slice b2 0 e2)).toArray := by rw [hw6]; infer_instance
        have N6 : Mo w5 w6 := by rw [hw6]; exact Mor.out
        have M6' := M5'.trans N6
        have HB6 := Lib.hid (HB5.out.mo N6)
        have V6 := Lib.hid (V5.out.mo N6)
        clear hw6 N6 B5 P5 E5 M5' HB5 V5
        go_wp2_with fail
        refine (KY.out _ (M6'.trans Mor.out)).mono ?_
        rintro e w7 ⟨rfl, M7⟩
        have N7 := (Mor.out : Mo w6 _).trans M7
        have B7 : Blk w7 W.heap.size 33 (dgC d.at_ d.src d.dst (.slice A n cap)) := N7.blk B6
        have P7 : Blk w7 (W.heap.size + 1) 42 (pkL p.h (.slice a1 p.e.length c1) (.slice a2 p.m.length c2)).toArray := N7.blk P6
        have E7 : Blk w7 w2.heap.size 33 (dgC d.at_ d.dst d.src (.slice A2 48 k2)) := N7.blk E6
        have Q7 : Blk w7 w5.heap.size 42 (pkL ah (.slice b1 0 e1) (.slice b2 0 e2)).toArray := N7.blk Q6
        have M7' := M6'.trans N7
        have HB7 := Lib.hid (HB6.out.mo N7)
        have V7 := Lib.hid (V6.out.mo N7)
        clear M7 N7 B6 P6 E6 Q6 M6' HB6 V6 KY
        go_upto_region 8 with (fail)
        refine wp_name ?_
        intro w8 hw8
        have B8 : Blk w8 W.heap.size 33 (dgC d.at_ d.src d.dst (.slice A n cap)) := by rw [hw8]; infer_instance
        have P8 : Blk w8 (W.heap.size + 1) 42 (pkL p.h (.slice a1 p.e.length c1) (.slice a2 p.m.length c2)).toArray := by rw [hw8]; infer_instance
        have E8 : Blk w8 w2.heap.size 33 (dgC d.at_ d.dst d.src (.slice A2 48 k2)) := by rw [hw8]; infer_instance
        have Q8 : Blk w8 w5.heap.size 42 (pkL ah (.slice b1 0 e1) (.slice b2 0 e2)).toArray := by rw [hw8]; infer_instance
        have K8 : Blk w8 w7.heap.size 55 ky := by rw [hw8]; infer_instance
        have N8 : Mo w7 w8 := by rw [hw8]; exact Mor.out
        have M8' := M7'.trans N8
        have HB8 := Lib.hid (HB7.out.mo N8)
        have V8 := Lib.hid (V7.out.mo N8)
        clear hw8 N8 B7 P7 E7 Q7 M7' HB7 V7
        go_wp2_with fail
        refine (KA.out _ _ _ (HB8.out.mo Mor.out) (V8.out.mo Mor.out)).mono ?_
        rintro e wB ⟨rfl, MB⟩
        have NB := (Mor.out : Mo w8 _).trans MB
        have BB : Blk wB W.heap.size 33 (dgC d.at_ d.src d.dst (.slice A n cap)) := NB.blk B8
        have PB : Blk wB (W.heap.size + 1) 42 (pkL p.h (.slice a1 p.e.length c1) (.slice a2 p.m.length c2)).toArray := NB.blk P8
        have EB : Blk wB w2.heap.size 33 (dgC d.at_ d.dst d.src (.slice A2 48 k2)) := NB.blk E8
        have QB : Blk wB w5.heap.size 42 (pkL ah (.slice b1 0 e1) (.slice b2 0 e2)).toArray := NB.blk Q8
        have KB : Blk wB w7.heap.size 55 ky := NB.blk K8
        have MB' := M8'.trans NB
        clear MB NB B8 P8 E8 Q8 K8 M8' HB8 V8 KA
        go_upto_region 9 with (fail)
        refine wp_name ?_
        intro wC hwC
        have BC : Blk wC W.heap.size 33 (dgC d.at_ d.src d.dst (.slice A n cap)) := by rw [hwC]; infer_instance
        have PC : Blk wC (W.heap.size + 1) 42 (pkL p.h (.slice a1 p.e.length c1) (.slice a2 p.m.length c2)).toArray := by rw [hwC]; infer_instance
        have EC : Blk wC w2.heap.size 33 (dgC d.at_ d.dst d.src (.slice A2 48 k2)) := by rw [hwC]; infer_instance
        have QC : Blk wC w5.heap.size 42 (pkL ah (.slice b1 0 e1) (.slice b2 0 e2)).toArray := by rw [hwC]; infer_instance
        have KC : Blk wC w7.heap.size 55 ky := by rw [hwC]; infer_instance
        have LC : Blk wC wB.heap.size 55 ky := by rw [hwC]; infer_instance
        have MC' : Mo W wC := by rw [hwC]; exact MB'.trans Mor.out
        clear hwC BB PB EB QB KB MB'
        by_cases x0 : p.h.x = 0
        · have d0 : (p.h.x == 0) = true := by simp [x0]
          rw [if_pos x0] at hkc
          subst hkc
          clear x0
          go_wp2_with fail
          refine (WK.out _).mono ?_
          rintro e w9 ⟨rfl, M9⟩
          go_wp2_with fail
          go_ret
          exact ⟨rfl, MC'.trans (Mo.trans Mor.out M9)⟩
        · have d0 : (p.h.x == 0) = false := by simp [x0]
          rw [if_neg x0] at hkc
          subst hkc
          clear x0
          go_wp2_with fail
          refine (WK.out _).mono ?_
          rintro e w9 ⟨rfl, M9⟩
          go_wp2_with fail
          go_ret
          exact ⟨rfl, MC'.trans (Mo.trans Mor.out M9)⟩
      · have mf : mayH p.h = false := by simpa using may
        rw [mf] at MY
        rw [show ansD d p.h recv xmit = (⟨wd0, en0, en0, []⟩, 2) from if_neg (fun h => may h.2)] at AN
        clear m3 may
        go_wp2_with fail
        refine (AN.out _ (M1'.trans Mor.out)).mono ?_
        rintro e w2 ⟨x, rfl, ⟨A2, k2, rfl, -⟩, M2⟩
        have N2 := (Mor.out : Mo w1 _).trans M2
        have P2 : Blk w2 (W.heap.size + 1) 42 (pkL p.h (.slice a1 p.e.length c1) (.slice a2 p.m.length c2)).toArray := N2.blk P1
        have M2' := M1'.trans N2
        clear M2 N2 B1 P1 M1' AN
        simp only [List.length_nil]
        go_upto_region 4 with (fail)
        refine wp_name ?_
        intro w3 hw3
        have P3 : Blk w3 (W.heap.size + 1) 42 (pkL p.h (.slice a1 p.e.length c1) (.slice a2 p.m.length c2)).toArray := by rw [hw3]; infer_instance
        have E3 : Blk w3 w2.heap.size 33 (dgC wd0 en0 en0 (.slice A2 0 k2)) := by rw [hw3]; infer_instance
        have M3' : Mo W w3 := by rw [hw3]; exact M2'.trans Mor.out
        clear hw3 P2 M2'

        clear mf
        go_wp2_with fail
        refine (MY.out _).mono ?_
        rintro e w4 ⟨rfl, M4⟩
        have N4 := (Mor.out : Mo w3 _).trans M4
        have E4 : Blk w4 w2.heap.size 33 (dgC wd0 en0 en0 (.slice A2 0 k2)) := N4.blk E3
        have M4' := M3'.trans N4
        clear M4 N4 P3 E3 M3' MY
        go_wp2_with fail
        refine (WK.out _).mono ?_
        rintro e w9 ⟨rfl, M9⟩
        go_wp2_with fail
        go_ret
        exact ⟨rfl, M4'.trans (Mo.trans Mor.out M9)⟩
    · have d3 : (p.h.m != 3) = true := by simp [m3]
      rw [show ansD d p.h recv xmit = (⟨wd0, en0, en0, []⟩, 2) from if_neg (fun h => m3 h.1)] at AN
      clear m3
      go_wp2_with fail
      refine (AN.out _ (M1'.trans Mor.out)).mono ?_
      rintro e w2 ⟨x, rfl, ⟨A2, k2, rfl, -⟩, M2⟩
      have N2 := (Mor.out : Mo w1 _).trans M2
      have P2 : Blk w2 (W.heap.size + 1) 42 (pkL p.h (.slice a1 p.e.length c1) (.slice a2 p.m.length c2)).toArray := N2.blk P1
      have M2' := M1'.trans N2
      clear M2 N2 B1 P1 M1' AN
      simp only [List.length_nil]
      go_upto_region 4 with (fail)
      refine wp_name ?_
      intro w3 hw3
      have P3 : Blk w3 (W.heap.size + 1) 42 (pkL p.h (.slice a1 p.e.length c1) (.slice a2 p.m.length c2)).toArray := by rw [hw3]; infer_instance
      have E3 : Blk w3 w2.heap.size 33 (dgC wd0 en0 en0 (.slice A2 0 k2)) := by rw [hw3]; infer_instance
      have M3' : Mo W w3 := by rw [hw3]; exact M2'.trans Mor.out
      clear hw3 P2 M2'

      go_wp2_with fail
      refine (WK.out _).mono ?_
      rintro e w9 ⟨rfl, M9⟩
      go_wp2_with fail
      go_ret
      exact ⟨rfl, M3'.trans (Mo.trans Mor.out M9)⟩
  · go_wp2_with fail
    refine (WK.out _).mono ?_
    rintro e w9 ⟨rfl, M9⟩
    go_wp2_with fail
    go_ret
    exact ⟨rfl, M1'.trans (Mo.trans Mor.out M9)⟩
end Go.Proofs.Ytofbhkodnijkjaa
