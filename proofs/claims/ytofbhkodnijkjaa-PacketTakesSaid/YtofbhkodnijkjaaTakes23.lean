/- horologelaw23.PacketTakes: the walk. -/
import Derived.Test.YtofbhkodnijkjaaLaw23
namespace Go.Proofs.Ytofbhkodnijkjaa
open Go.RowKit

attribute [local go_sem] blk_cell' blk_frozen' dg_b
attribute [local go_sem ↓] loadF_pk buildF_pk storeAt_pk loadF_dg storeF_key loadF_key eqlF_key
attribute [local go_sem] run_loadF0 run_build_pk0 run_storePk run_storeF0
set_option maxRecDepth 20000 in
set_option maxHeartbeats 8000000 in
theorem takes23_any (d : Dg) (v : Value) (W : World) (hv : DgV W d v) (kd : DgOk d) :
    Calls Try.prog 3 #[v] W fun e w' => e = .returned (.bool true) ∧ Mo W w' := by
  have HD := Lib.hid hv
  have KD := Lib.hid kd
  obtain ⟨A, cap, rfl, hb⟩ := hv
  have za := sz_wide kd.at_
  have zs := sz_ends kd.src
  have zt := sz_ends kd.dst
  have oa := one_of_fits kd.at_
  have os := one_of_fits kd.src
  have ot := one_of_fits kd.dst
  have ok := takeP_ok d.bs hb.byte
  have FK := Lib.hid (fits_key kd ok)
  have OK := Lib.hid ok
  have hlim := hb.lim
  have HV := Lib.hid (fun w => heavy23_any pk0 _ A d.bs.length cap w hlim (pkv0 w))
  have WK := Lib.hid works23_any
  have TK := Lib.hid (fun w (k : Mo W w) => ptake_any d.bs.length cap A d.bs w rfl (hb.mo k))
  have RK := Lib.hid (fun (hl : d.bs.length ≤ 200000) w (k : Mo W w) => rtake_any d.bs.length cap A d.bs W w k rfl hb hl)
  have CL := Lib.hid (fun w (k : Mo W w) => class_any d _ w (HD.out.mo k) kd)
  have RC := Lib.hid (fun (hl : d.bs.length ≤ 200000) w (k : Mo W w) => rclass_any d _ w (HD.out.mo k) kd hl)
  have KY := Lib.hid (fun p u w (k : Mo W w) (hu : PkV w p u) => key_any d p _ u w (HD.out.mo k) kd hu)
  have RY := Lib.hid (fun p u w (k : Mo W w) (hu : PkV w p u) => rkey_any d p _ u w (HD.out.mo k) kd hu)
  have CE := Lib.hid (classP_fst d.bs)
  clear hb kd ok
  obtain ⟨tp, htp⟩ : ∃ tp, takeP d.bs = tp := ⟨_, rfl⟩
  obtain ⟨cp, hcp⟩ : ∃ cp, classP d.bs = cp := ⟨_, rfl⟩
  rw [htp] at TK RK OK FK CE
  rw [hcp] at CL RC CE
  clear htp hcp
  obtain ⟨tq, cc⟩ := cp
  obtain ⟨tz, tc⟩ := tp
  simp only at TK RK OK FK CE CL RC
  obtain rfl := CE.out
  clear CE
  obtain ⟨ky, hky⟩ : ∃ ky, keyC d tq.h = ky := ⟨_, rfl⟩
  obtain ⟨kb, hkb⟩ : ∃ kb, keyB tq.h = kb := ⟨_, rfl⟩
  replace KY := Lib.hid (fun u w (k : Mo W w) (hu : PkV w tq u) => KY.out tq u w k hu)
  replace RY := Lib.hid (fun u w (k : Mo W w) (hu : PkV w tq u) => RY.out tq u w k hu)
  rw [hky] at FK KY RY
  rw [hkb] at KY RY
  clear hky hkb
  have fk := run_eqlF_self fl_key (hx := FK.out)
  have szk : SzA ky 37 := ⟨fits_size fl_key FK.out⟩
  have onk : OneA ky := one_of_fits FK.out
  clear FK
  generalize d.bs.length = n at *
  go_enter Try.func3, Try.ntmps3
  go_wp2_with fail
  refine (HV.out _).mono ?_
  rintro e w1 ⟨b, rfl, hb, M1⟩
  have M1' := (Mor.out : Mo W _).trans M1
  have B1 : Blk w1 W.heap.size 33 (dgC d.at_ d.src d.dst (.slice A n cap)) := M1.blk inferInstance
  clear M1
  cases b
  · have hl : n ≤ 200000 := by
      have := hb rfl (by decide)
      omega
    have HL := Lib.hid hl
    clear hb hl HV
    have RK2 := Lib.hid (RK.out HL.out)
    have RC2 := Lib.hid (RC.out HL.out)
    clear RK RC HL
    go_wp2_with fail
    refine (TK.out _ (M1'.trans Mor.out)).mono ?_
    rintro e w2 ⟨u, rfl, X, M2⟩
    have N2 := (Mor.out : Mo w1 _).trans M2
    obtain ⟨a1, c1, a2, c2, rfl, X1, X2⟩ := X.at
    have V2 : Hid (PkV w2 tq _) := Lib.hid ⟨a1, c1, a2, c2, rfl, X1, X2⟩
    have B2 : Blk w2 W.heap.size 33 (dgC d.at_ d.src d.dst (.slice A n cap)) := N2.blk B1
    have M2' := M1'.trans N2
    clear X X1 X2 M2 N2 B1 M1' TK
    go_upto_region 4 with (fail)
    refine wp_name ?_
    intro w3 hw3
    have l2 := B2.lt
    have B3 : Blk w3 W.heap.size 33 (dgC d.at_ d.src d.dst (.slice A n cap)) := by rw [hw3]; infer_instance
    have P3 : Blk w3 w2.heap.size 42 (pkL tq.h (.slice a1 tq.e.length c1) (.slice a2 tq.m.length c2)).toArray := by rw [hw3]; infer_instance
    have N3 : Mo w2 w3 := by rw [hw3]; exact Mor.out
    have M3' := M2'.trans N3
    have V3 := Lib.hid (V2.out.mo N3)
    clear hw3 N3 V2 B2 M2'
    go_wp2_with fail
    refine (RK2.out _ (M3'.trans Mor.out)).mono ?_
    rintro e w4 ⟨u, rfl, X, M4⟩
    have N4 := (Mor.out : Mo w3 _).trans M4
    obtain ⟨b1, d1, b2, d2, rfl, X1, X2⟩ := X.at (M3'.trans N4)
    have U4 : Hid (PkV w4 tq _) := Lib.hid ⟨b1, d1, b2, d2, rfl, X1, X2⟩
    have B4 : Blk w4 W.heap.size 33 (dgC d.at_ d.src d.dst (.slice A n cap)) := N4.blk B3
    have P4 : Blk w4 w2.heap.size 42 (pkL tq.h (.slice a1 tq.e.length c1) (.slice a2 tq.m.length c2)).toArray := N4.blk P3
    have V4 := Lib.hid (V3.out.mo N4)
    have M4' := M3'.trans N4
    clear X X1 X2 M4 N4 B3 M3' RK2 P3 V3
    go_upto_region 5 with (fail)
    refine wp_name ?_
    intro w5 hw5
    have l4 := B4.lt
    have l4' := P4.lt
    have B5 : Blk w5 W.heap.size 33 (dgC d.at_ d.src d.dst (.slice A n cap)) := by rw [hw5]; infer_instance
    have P5 : Blk w5 w2.heap.size 42 (pkL tq.h (.slice a1 tq.e.length c1) (.slice a2 tq.m.length c2)).toArray := by rw [hw5]; infer_instance
    have Q5 : Blk w5 w4.heap.size 42 (pkL tq.h (.slice b1 tq.e.length d1) (.slice b2 tq.m.length d2)).toArray := by rw [hw5]; infer_instance
    have N5 : Mo w4 w5 := by rw [hw5]; exact Mor.out
    have M5' := M4'.trans N5
    have V5 := Lib.hid (V4.out.mo N5)
    have U5 := Lib.hid (U4.out.mo N5)
    clear hw5 N5 V4 U4 B4 M4' P4
    have SM5 := Lib.hid (fun w (k : Mo w5 w) => same_self tq _ _ w (V5.out.mo k) (U5.out.mo k) OK.out)
    have t5 : (tc != tc) = false := by simp
    go_wp2_with fail
    refine (SM5.out _ Mor.out).mono ?_
    rintro e w6 ⟨rfl, M6⟩
    have N6 := (Mor.out : Mo w5 _).trans M6
    have B6 : Blk w6 W.heap.size 33 (dgC d.at_ d.src d.dst (.slice A n cap)) := N6.blk B5
    have P6 : Blk w6 w2.heap.size 42 (pkL tq.h (.slice a1 tq.e.length c1) (.slice a2 tq.m.length c2)).toArray := N6.blk P5
    have Q6 : Blk w6 w4.heap.size 42 (pkL tq.h (.slice b1 tq.e.length d1) (.slice b2 tq.m.length d2)).toArray := N6.blk Q5
    have M6' := M5'.trans N6
    have V6 := Lib.hid (V5.out.mo N6)
    have U6 := Lib.hid (U5.out.mo N6)
    clear M6 N6 B5 P5 Q5 M5' V5 U5 SM5
    go_wp2_with fail
    refine (CL.out _ (M6'.trans Mor.out)).mono ?_
    rintro e w7 ⟨u, rfl, X, M7⟩
    have N7 := (Mor.out : Mo w6 _).trans M7
    obtain ⟨x1, y1, x2, y2, rfl, X1, X2⟩ := X.at
    have T7 : Hid (PkV w7 tq _) := Lib.hid ⟨x1, y1, x2, y2, rfl, X1, X2⟩
    have B7 : Blk w7 W.heap.size 33 (dgC d.at_ d.src d.dst (.slice A n cap)) := N7.blk B6
    have P7 : Blk w7 w2.heap.size 42 (pkL tq.h (.slice a1 tq.e.length c1) (.slice a2 tq.m.length c2)).toArray := N7.blk P6
    have Q7 : Blk w7 w4.heap.size 42 (pkL tq.h (.slice b1 tq.e.length d1) (.slice b2 tq.m.length d2)).toArray := N7.blk Q6
    have M7' := M6'.trans N7
    have V7 := Lib.hid (V6.out.mo N7)
    have U7 := Lib.hid (U6.out.mo N7)
    clear X X1 X2 M7 N7 B6 P6 Q6 M6' V6 U6 CL
    go_upto_region 8 with (fail)
    refine wp_name ?_
    intro w8 hw8
    have B8 : Blk w8 W.heap.size 33 (dgC d.at_ d.src d.dst (.slice A n cap)) := by rw [hw8]; infer_instance
    have P8 : Blk w8 w2.heap.size 42 (pkL tq.h (.slice a1 tq.e.length c1) (.slice a2 tq.m.length c2)).toArray := by rw [hw8]; infer_instance
    have Q8 : Blk w8 w4.heap.size 42 (pkL tq.h (.slice b1 tq.e.length d1) (.slice b2 tq.m.length d2)).toArray := by rw [hw8]; infer_instance
    have R8 : Blk w8 w7.heap.size 42 (pkL tq.h (.slice x1 tq.e.length y1) (.slice x2 tq.m.length y2)).toArray := by rw [hw8]; infer_instance
    have N8 : Mo w7 w8 := by rw [hw8]; exact Mor.out
    have M8' := M7'.trans N8
    have V8 := Lib.hid (V7.out.mo N8)
    have U8 := Lib.hid (U7.out.mo N8)
    have T8 := Lib.hid (T7.out.mo N8)
    clear hw8 N8 B7 P7 Q7 M7' V7 U7 T7
    go_wp2_with fail
    refine (KY.out _ _ (M8'.trans Mor.out) (V8.out.mo Mor.out)).mono ?_
    rintro e w9 ⟨rfl, M9⟩
    have N9 := (Mor.out : Mo w8 _).trans M9
    have B9 : Blk w9 W.heap.size 33 (dgC d.at_ d.src d.dst (.slice A n cap)) := N9.blk B8
    have P9 : Blk w9 w2.heap.size 42 (pkL tq.h (.slice a1 tq.e.length c1) (.slice a2 tq.m.length c2)).toArray := N9.blk P8
    have Q9 : Blk w9 w4.heap.size 42 (pkL tq.h (.slice b1 tq.e.length d1) (.slice b2 tq.m.length d2)).toArray := N9.blk Q8
    have R9 : Blk w9 w7.heap.size 42 (pkL tq.h (.slice x1 tq.e.length y1) (.slice x2 tq.m.length y2)).toArray := N9.blk R8
    have M9' := M8'.trans N9
    have V9 := Lib.hid (V8.out.mo N9)
    have U9 := Lib.hid (U8.out.mo N9)
    have T9 := Lib.hid (T8.out.mo N9)
    clear M9 N9 B8 P8 Q8 R8 M8' V8 U8 T8 KY
    go_upto_region 9 with (fail)
    refine wp_name ?_
    intro wA hwA
    have BA : Blk wA W.heap.size 33 (dgC d.at_ d.src d.dst (.slice A n cap)) := by rw [hwA]; infer_instance
    have PA : Blk wA w2.heap.size 42 (pkL tq.h (.slice a1 tq.e.length c1) (.slice a2 tq.m.length c2)).toArray := by rw [hwA]; infer_instance
    have QA : Blk wA w4.heap.size 42 (pkL tq.h (.slice b1 tq.e.length d1) (.slice b2 tq.m.length d2)).toArray := by rw [hwA]; infer_instance
    have RA : Blk wA w7.heap.size 42 (pkL tq.h (.slice x1 tq.e.length y1) (.slice x2 tq.m.length y2)).toArray := by rw [hwA]; infer_instance
    have KA : Blk wA w9.heap.size 55 ky := by rw [hwA]; infer_instance
    have NA : Mo w9 wA := by rw [hwA]; exact Mor.out
    have MA' := M9'.trans NA
    have VA := Lib.hid (V9.out.mo NA)
    have UA := Lib.hid (U9.out.mo NA)
    have TA := Lib.hid (T9.out.mo NA)
    clear hwA NA B9 P9 Q9 R9 M9' V9 U9 T9
    go_wp2_with fail
    refine (RY.out _ _ (MA'.trans Mor.out) (UA.out.mo Mor.out)).mono ?_
    rintro e wB ⟨rfl, MB⟩
    have NB := (Mor.out : Mo wA _).trans MB
    have BB : Blk wB W.heap.size 33 (dgC d.at_ d.src d.dst (.slice A n cap)) := NB.blk BA
    have QB : Blk wB w4.heap.size 42 (pkL tq.h (.slice b1 tq.e.length d1) (.slice b2 tq.m.length d2)).toArray := NB.blk QA
    have RB : Blk wB w7.heap.size 42 (pkL tq.h (.slice x1 tq.e.length y1) (.slice x2 tq.m.length y2)).toArray := NB.blk RA
    have KB : Blk wB w9.heap.size 55 ky := NB.blk KA
    have MB' := MA'.trans NB
    have UB := Lib.hid (UA.out.mo NB)
    have TB := Lib.hid (TA.out.mo NB)
    clear MB NB BA PA QA RA KA MA' VA UA TA RY
    go_upto_region 10 with (fail)
    refine wp_name ?_
    intro wC hwC
    have BC : Blk wC W.heap.size 33 (dgC d.at_ d.src d.dst (.slice A n cap)) := by rw [hwC]; infer_instance
    have QC : Blk wC w4.heap.size 42 (pkL tq.h (.slice b1 tq.e.length d1) (.slice b2 tq.m.length d2)).toArray := by rw [hwC]; infer_instance
    have RC : Blk wC w7.heap.size 42 (pkL tq.h (.slice x1 tq.e.length y1) (.slice x2 tq.m.length y2)).toArray := by rw [hwC]; infer_instance
    have KC : Blk wC w9.heap.size 55 ky := by rw [hwC]; infer_instance
    have LC : Blk wC wB.heap.size 55 ky := by rw [hwC]; infer_instance
    have NC : Mo wB wC := by rw [hwC]; exact Mor.out
    have MC' := MB'.trans NC
    have UC := Lib.hid (UB.out.mo NC)
    have TC := Lib.hid (TB.out.mo NC)
    clear hwC NC BB QB RB KB MB' UB TB
    have SMC := Lib.hid (fun w (k : Mo wC w) => same_self tq _ _ w (TC.out.mo k) (UC.out.mo k) OK.out)
    have RCC := Lib.hid (fun w (k : Mo wC w) => RC2.out w (MC'.trans k))
    clear UC TC RC2 OK
    have t6 : (cc == cc) = true := by simp
    have t7 : (kb == kb) = true := by simp
    go_wp2_with fail
    refine (RCC.out _ Mor.out).mono ?_
    rintro e wD ⟨rfl, MD⟩
    have ND := (Mor.out : Mo wC _).trans MD
    have QD : Blk wD w4.heap.size 42 (pkL tq.h (.slice b1 tq.e.length d1) (.slice b2 tq.m.length d2)).toArray := ND.blk QC
    have RD : Blk wD w7.heap.size 42 (pkL tq.h (.slice x1 tq.e.length y1) (.slice x2 tq.m.length y2)).toArray := ND.blk RC
    have KD : Blk wD w9.heap.size 55 ky := ND.blk KC
    have LD : Blk wD wB.heap.size 55 ky := ND.blk LC
    have MD' := MC'.trans ND
    have SMD := Lib.hid (fun w (k : Mo wD w) => SMC.out w (ND.trans k))
    clear MD ND BC QC RC KC LC MC' SMC RCC
    go_wp2_with fail
    refine (SMD.out _ Mor.out).mono ?_
    rintro e wE ⟨rfl, ME⟩
    have NE := (Mor.out : Mo wD _).trans ME
    have KE : Blk wE w9.heap.size 55 ky := NE.blk KD
    have LE : Blk wE wB.heap.size 55 ky := NE.blk LD
    have ME' := MD'.trans NE
    clear ME NE QD RD KD LD MD' SMD
    go_wp2_with fail
    refine (WK.out _).mono ?_
    rintro e wF ⟨rfl, MF⟩
    go_wp2_with fail
    go_ret
    exact ⟨rfl, ME'.trans (Mo.trans Mor.out MF)⟩
  · clear hb
    go_wp2_with fail
    refine (WK.out _).mono ?_
    rintro e w4 ⟨rfl, M4⟩
    go_wp2_with fail
    go_ret
    exact ⟨rfl, M1'.trans (Mo.trans Mor.out M4)⟩
end Go.Proofs.Ytofbhkodnijkjaa
