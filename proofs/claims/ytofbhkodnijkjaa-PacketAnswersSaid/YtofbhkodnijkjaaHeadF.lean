/- The reference's header: its bytes. -/
import Derived.Test.YtofbhkodnijkjaaHeadE
import Derived.Test.YtofbhkodnijkjaaExtF
namespace Go.Proofs.Ytofbhkodnijkjaa
open Go.RowKit

set_option maxRecDepth 20000 in
theorem blk_grown {w w' : World} {v : Value} {k : Nat} {t : TypeId} {cs : Array Value} (h : Blk w k t cs) (g : w.grownBy w' v.ownBlock) (ne : v.ownBlock ≠ some k) : Blk w' k t cs := ⟨(g.block k h.lt (fun e => ne e.symm)).trans h.out⟩
set_option maxRecDepth 20000 in
theorem number4_any (x : Int) (W : World) (hx : 0 ≤ x ∧ x ≤ 18446744073709551615) :
    Calls Try.prog 44 #[.int .u64 x, .int .i64 4] W fun e w' => e = .returned (.slice (some ⟨W.heap.size, 0, none⟩) 4 4) ∧ Blk w' W.heap.size 5 (byteL (be 4 x)).toArray ∧ Mo W w' := number_any x 4 W hx (by omega)
set_option maxRecDepth 20000 in
theorem number8_any (x : Int) (W : World) (hx : 0 ≤ x ∧ x ≤ 18446744073709551615) :
    Calls Try.prog 44 #[.int .u64 x, .int .i64 8] W fun e w' => e = .returned (.slice (some ⟨W.heap.size, 0, none⟩) 8 8) ∧ Blk w' W.heap.size 5 (byteL (be 8 x)).toArray ∧ Mo W w' := number_any x 8 W hx (by omega)
attribute [local go_sem] blk_cell' blk_frozen'
attribute [local go_sem ↓] app_fold
set_option maxRecDepth 20000 in
set_option maxHeartbeats 8000000 in
theorem refPut20_any (h : Hd) (ok : HdOk h) (may : mayH h = true) (W : World) :
    Calls Try.prog 30 #[hdV h] W fun e w' => ∃ v, e = .returned v ∧ w'.ownsRow W.heap.size 5 1 v 48 (byteL (hdB h)) ∧ Mo W w' := by
  have OK := Lib.hid ok
  have MAY := Lib.hid may
  clear ok may
  go_enter Try.func30, Try.ntmps30
  go_upto_region 1 with (fail)
  have k1 := OK.out.l
  have k2 := OK.out.v
  have k3 := OK.out.m
  have k4 := OK.out.po
  have k5 := OK.out.pr
  have mm := MAY.out
  unfold mayH at mm
  simp only [Bool.and_eq_true, decide_eq_true_eq] at mm
  obtain ⟨⟨m1, m2⟩, m3⟩ := mm
  have s1 : IntKind.u8.wrap (64 * h.l) = 64 * h.l := by rw [IntKind.wrap_u8]; omega
  have s2 : IntKind.u8.wrap (8 * h.v) = 8 * h.v := by rw [IntKind.wrap_u8]; omega
  have s3 : IntKind.u8.wrap (64 * h.l + 8 * h.v) = 64 * h.l + 8 * h.v := by rw [IntKind.wrap_u8]; omega
  have s4 : IntKind.u8.wrap (64 * h.l + 8 * h.v + h.m) = 64 * h.l + 8 * h.v + h.m := by rw [IntKind.wrap_u8]; omega
  refine wp_name ?_
  intro V hV
  have MV : Mo W V := by rw [hV]; exact Mor.out
  have BV : Blk V W.heap.size 39 (hdC h) := by rw [hV]; infer_instance
  have y0 : V.cell? ⟨W.heap.size, 0, none⟩ = some (.int .u8 h.l) := by rw [blk_cell BV]; rfl
  have y1 : V.cell? ⟨W.heap.size, 1, none⟩ = some (.int .u8 h.v) := by rw [blk_cell BV]; rfl
  have y2 : V.cell? ⟨W.heap.size, 2, none⟩ = some (.int .u8 h.m) := by rw [blk_cell BV]; rfl
  have y3 : V.cell? ⟨W.heap.size, 3, none⟩ = some (.int .u8 h.s) := by rw [blk_cell BV]; rfl
  have y4 : V.cell? ⟨W.heap.size, 4, none⟩ = some (.int .i8 h.po) := by rw [blk_cell BV]; rfl
  have y5 : V.cell? ⟨W.heap.size, 5, none⟩ = some (.int .i8 h.pr) := by rw [blk_cell BV]; rfl
  clear hV
  have PL1 := Lib.hid (fun w => plain_any h.po k4.1 k4.2 w)
  have PL2 := Lib.hid (fun w => plain_any h.pr k5.1 k5.2 w)
  go_region_held3 (fun w' => w'.cell? ⟨W.heap.size, 0, none⟩ = some (.int .u8 h.l) ∧ w'.cell? ⟨W.heap.size, 1, none⟩ = some (.int .u8 h.v) ∧ w'.cell? ⟨W.heap.size, 2, none⟩ = some (.int .u8 h.m) ∧ w'.cell? ⟨W.heap.size, 3, none⟩ = some (.int .u8 h.s) ∧ w'.cell? ⟨W.heap.size, 4, none⟩ = some (.int .i8 h.po) ∧ w'.cell? ⟨W.heap.size, 5, none⟩ = some (.int .i8 h.pr)) (simp [go_sem, y0, y1, y2, y3, y4, y5])
    (first | ((with_reducible refine (PL1.out _).mono ?_); rintro e w' ⟨rfl, rfl⟩) | ((with_reducible refine (PL2.out _).mono ?_); rintro e w' ⟨rfl, rfl⟩))
  -- BEHIND
  rename_i hHeld
  clear hHeld y0 y1 y2 y3 y4 y5 s1 s2 s3 s4 PL1 PL2
  have MP := MV.trans (Mor.out : Mo V ((V.alloc (.cells #[.int .u8 (64 * h.l + 8 * h.v + h.m), .int .u8 h.s, .int .u8 (h.po % 256), .int .u8 (h.pr % 256)] 5)).drew))
  have OP : ((V.alloc (.cells #[.int .u8 (64 * h.l + 8 * h.v + h.m), .int .u8 h.s, .int .u8 (h.po % 256), .int .u8 (h.pr % 256)] 5)).drew).ownsRow W.heap.size 5 1 (.slice (some ⟨V.heap.size, 0, none⟩) 4 4) 4 (byteL [h.l * 64 + h.v * 8 + h.m, h.s, h.po % 256, h.pr % 256]) := by
    rw [show h.l * 64 + h.v * 8 + h.m = 64 * h.l + 8 * h.v + h.m by omega]
    exact owns_of_blk (g := V.heap.size) inferInstance rfl MV.size (by omega)
  have BP : Blk ((V.alloc (.cells #[.int .u8 (64 * h.l + 8 * h.v + h.m), .int .u8 h.s, .int .u8 (h.po % 256), .int .u8 (h.pr % 256)] 5)).drew) W.heap.size 39 (hdC h) := inferInstance
  generalize ((V.alloc (.cells #[.int .u8 (64 * h.l + 8 * h.v + h.m), .int .u8 h.s, .int .u8 (h.po % 256), .int .u8 (h.pr % 256)] 5)).drew) = V1 at *
  generalize (Value.slice (some ⟨V.heap.size, 0, none⟩) 4 4) = v1 at *
  clear BV MV
  have r2a : IntKind.u64.wrap h.rd = h.rd := by rw [IntKind.wrap_u64]; have := OK.out.rd; omega
  have r2b : IntKind.u64.wrap h.rp = h.rp := by rw [IntKind.wrap_u64]; have := OK.out.rp; omega
  have N1 := Lib.hid (fun w => number4_any h.rd w ⟨OK.out.rd.1, Int.le_trans OK.out.rd.2 (by decide)⟩)
  have N2 := Lib.hid (fun w => number4_any h.rp w ⟨OK.out.rp.1, Int.le_trans OK.out.rp.2 (by decide)⟩)
  have OW := Lib.hid OP
  have y0 : V1.cell? ⟨W.heap.size, 6, none⟩ = some (.int .u32 h.rd) := by rw [blk_cell BP]; rfl
  have y1 : V1.cell? ⟨W.heap.size, 7, none⟩ = some (.int .u32 h.rp) := by rw [blk_cell BP]; rfl
  clear OP
  go_upto_region 2 with (fail)
  go_cut [3] (fun sx wx => wx.ownsRow W.heap.size 5 1 sx 12 (byteL ([h.l * 64 + h.v * 8 + h.m, h.s, h.po % 256, h.pr % 256] ++ be 4 h.rd ++ be 4 h.rp)) ∧ Mo W wx ∧ Blk wx W.heap.size 39 (hdC h))
  case first =>
    obtain ⟨tb, hib, hb0, hb1, hb2⟩ := info_parts infoB
    go_region_held3 (fun w' => w'.cell? ⟨W.heap.size, 6, none⟩ = some (.int .u32 h.rd) ∧ w'.cell? ⟨W.heap.size, 7, none⟩ = some (.int .u32 h.rp)) (first | (simp [go_sem, y0, y1]; done) | (simp [go_sem, zA0, zA1]; done) | (simp [go_sem, zB0, zB1]; done) | (simp [go_sem, zC0, zC1]; done) | (simp [go_sem, zD0, zD1]; done))
      (first
        | ((with_reducible refine (N1.out _).mono ?_)
           rintro e wa ⟨rfl, Ba, Ma⟩
           have Ma' := Mo.trans (Mor.out : Mo V1 _) Ma
           have MA := MP.trans Ma'
           have OA := owns_mo OW.out Ma'
           have HA := Ma'.blk BP
           have zA0 : wa.cell? ⟨W.heap.size, 6, none⟩ = some (.int .u32 h.rd) := by rw [blk_cell HA]; rfl
           have zA1 : wa.cell? ⟨W.heap.size, 7, none⟩ = some (.int .u32 h.rp) := by rw [blk_cell HA]; rfl)
        | ((with_reducible refine (N2.out _).mono ?_)
           rintro e wb ⟨rfl, Bb, Mb⟩
           first
             | (have MB := MC.trans Mb
                have OB := owns_mo OC Mb
                have HB := Mb.blk HC)
             | (have MB := MA.trans Mb
                have OB := owns_mo OA Mb
                have HB := Mb.blk HA
                have Ba2 := Mb.blk Ba)
           have zB0 : wb.cell? ⟨W.heap.size, 6, none⟩ = some (.int .u32 h.rd) := by rw [blk_cell HB]; rfl
           have zB1 : wb.cell? ⟨W.heap.size, 7, none⟩ = some (.int .u32 h.rp) := by rw [blk_cell HB]; rfl)
        | (refine step_own (by rfl) (.tmp 23) (.tmp 27) 31 (by rfl) W.heap.size 5 tb (.int .u8 0) 1 1 Try.underlying31 hib hb0 hb1 hb2 rfl (by decide) _ _ _ (by rfl) (by first | exact OB | exact OA) _ 4 4 (byteL (be 4 h.rd)) (by rfl) (by simp [be_len]) (by first | exact news_of_blk Ba2 _ rfl | exact news_of_blk Ba _ rfl) (byteL_one _) (by unfold maxLen; omega) (by omega) (by first | exact MB.size | exact MA.size) ?_
           intro vc wc OC GC
           first
             | (have MC := mo_grown MB GC (fun j e => (OB.lt j e).1)
                have HC := blk_grown HB GC (fun e => (owns_ne_blk OB HB (by decide)) _ e rfl)
                have Bb2 := blk_grown Bb GC (fun e => by have h1 := (OW.out.lt _ e).2; have h2 := Ma'.size; omega))
             | (have MC := mo_grown MA GC (fun j e => (OA.lt j e).1)
                have HC := blk_grown HA GC (fun e => (owns_ne_blk OA HA (by decide)) _ e rfl)))
        | (refine step_own (by rfl) (.tmp 28) (.tmp 32) 31 (by rfl) W.heap.size 5 tb (.int .u8 0) 1 1 Try.underlying31 hib hb0 hb1 hb2 rfl (by decide) _ _ _ (by rfl) (by first | exact OB | exact OC) _ 4 4 (byteL (be 4 h.rp)) (by rfl) (by simp [be_len]) (by first | exact news_of_blk Bb2 _ rfl | exact news_of_blk Bb _ rfl) (byteL_one _) (by unfold maxLen; omega) (by omega) (by first | exact MB.size | exact MC.size) ?_
           intro vd wd OD GD
           first
             | (have MD := mo_grown MB GD (fun j e => (OB.lt j e).1)
                have HD := blk_grown HB GD (fun e => (owns_ne_blk OB HB (by decide)) _ e rfl))
             | (have MD := mo_grown MC GD (fun j e => (OC.lt j e).1)
                have HD := blk_grown HC GD (fun e => (owns_ne_blk OC HC (by decide)) _ e rfl)))
        | fail)
    all_goals
      go_wp2_with fail
      go_meet
      refine ⟨?_, MD, HD⟩
      unfold byteL
      rw [List.map_append, List.map_append]
      exact OD
  obtain ⟨OPx, MPx, BPx⟩ := hcut
  clear N1 N2 OW y0 y1 r2a r2b MP BP
  generalize wc = V2 at *
  have OW3 := Lib.hid OPx
  clear OPx
  have okA := OK.out.a
  have okB := OK.out.b
  have okC := OK.out.c
  have okD := OK.out.d
  have hO := Lib.hid (owns_mo OW3.out (Mor.out : Mo V2 (V2.alloc (.cells #[.int .u8 h.a, .int .u8 h.b, .int .u8 h.c, .int .u8 h.d] 5))))
  have hS := Lib.hid (byteS_blk (w := V2.alloc (.cells #[.int .u8 h.a, .int .u8 h.b, .int .u8 h.c, .int .u8 h.d] 5)) (g := V2.heap.size) inferInstance [h.a, h.b, h.c, h.d] rfl (by intro c hc; simp only [List.mem_cons, List.not_mem_nil, or_false] at hc; rcases hc with rfl | rfl | rfl | rfl <;> omega) (by simp))
  have hZ := MPx.size
  go_wp2_with (at_builtin
               refine wpList_append_bytes rfl (.tmp 34) (.tmp 47) rfl W.heap.size u3 12 _ rfl hO.out (some ⟨V2.heap.size, 0, none⟩) 4 4 [h.a, h.b, h.c, h.d] rfl rfl hS.out (by omega) (by simp; omega) ?_
               intro v3 V3 O3 G3)
  have M3 : Mo W V3 := mo_grown (MPx.trans (Mor.out : Mo V2 (V2.alloc (.cells #[.int .u8 h.a, .int .u8 h.b, .int .u8 h.c, .int .u8 h.d] 5)))) G3 (fun j e => (OW3.out.lt j e).1)
  have B3 : Blk V3 W.heap.size 39 (hdC h) := blk_grown (v := u3) (w := V2.alloc (.cells #[.int .u8 h.a, .int .u8 h.b, .int .u8 h.c, .int .u8 h.d] 5)) inferInstance G3 (fun e => owns_ne_blk OW3.out BPx (by decide) _ e rfl)
  have O3p : V3.ownsRow W.heap.size 5 1 v3 16 (byteL ([h.l * 64 + h.v * 8 + h.m, h.s, h.po % 256, h.pr % 256] ++ be 4 h.rd ++ be 4 h.rp ++ [h.a, h.b, h.c, h.d])) := by
    unfold byteL at O3 ⊢
    rw [List.map_append (l₂ := [h.a, h.b, h.c, h.d])]
    exact O3
  clear O3 G3 OW3 MPx BPx
  have r4a : IntKind.u64.wrap h.f = h.f := by rw [IntKind.wrap_u64]; have := OK.out.f; omega
  have r4b : IntKind.u64.wrap h.o = h.o := by rw [IntKind.wrap_u64]; have := OK.out.o; omega
  have N1 := Lib.hid (fun w => number8_any h.f w ⟨OK.out.f.1, Int.le_trans OK.out.f.2 (by decide)⟩)
  have N2 := Lib.hid (fun w => number8_any h.o w ⟨OK.out.o.1, Int.le_trans OK.out.o.2 (by decide)⟩)
  have OW := Lib.hid O3p
  have y0 : V3.cell? ⟨W.heap.size, 12, none⟩ = some (.int .u64 h.f) := by rw [blk_cell B3]; rfl
  have y1 : V3.cell? ⟨W.heap.size, 13, none⟩ = some (.int .u64 h.o) := by rw [blk_cell B3]; rfl
  clear O3p
  go_upto_region 4 with (fail)
  go_cut [3] (fun sx wx => wx.ownsRow W.heap.size 5 1 sx 32 (byteL ([h.l * 64 + h.v * 8 + h.m, h.s, h.po % 256, h.pr % 256] ++ be 4 h.rd ++ be 4 h.rp ++ [h.a, h.b, h.c, h.d] ++ be 8 h.f ++ be 8 h.o)) ∧ Mo W wx ∧ Blk wx W.heap.size 39 (hdC h))
  case first =>
    obtain ⟨tb, hib, hb0, hb1, hb2⟩ := info_parts infoB
    go_region_held3 (fun w' => w'.cell? ⟨W.heap.size, 12, none⟩ = some (.int .u64 h.f) ∧ w'.cell? ⟨W.heap.size, 13, none⟩ = some (.int .u64 h.o)) (first | (simp [go_sem, y0, y1]; done) | (simp [go_sem, zA0, zA1]; done) | (simp [go_sem, zB0, zB1]; done) | (simp [go_sem, zC0, zC1]; done) | (simp [go_sem, zD0, zD1]; done))
      (first
        | ((with_reducible refine (N1.out _).mono ?_)
           rintro e wa ⟨rfl, Ba, Ma⟩
           have Ma' := Mo.trans (Mor.out : Mo V3 _) Ma
           have MA := M3.trans Ma'
           have OA := owns_mo OW.out Ma'
           have HA := Ma'.blk B3
           have zA0 : wa.cell? ⟨W.heap.size, 12, none⟩ = some (.int .u64 h.f) := by rw [blk_cell HA]; rfl
           have zA1 : wa.cell? ⟨W.heap.size, 13, none⟩ = some (.int .u64 h.o) := by rw [blk_cell HA]; rfl)
        | ((with_reducible refine (N2.out _).mono ?_)
           rintro e wb ⟨rfl, Bb, Mb⟩
           first
             | (have MB := MC.trans Mb
                have OB := owns_mo OC Mb
                have HB := Mb.blk HC)
             | (have MB := MA.trans Mb
                have OB := owns_mo OA Mb
                have HB := Mb.blk HA
                have Ba2 := Mb.blk Ba)
           have zB0 : wb.cell? ⟨W.heap.size, 12, none⟩ = some (.int .u64 h.f) := by rw [blk_cell HB]; rfl
           have zB1 : wb.cell? ⟨W.heap.size, 13, none⟩ = some (.int .u64 h.o) := by rw [blk_cell HB]; rfl)
        | (refine step_own (by rfl) (.tmp 49) (.tmp 52) 31 (by rfl) W.heap.size 5 tb (.int .u8 0) 1 1 Try.underlying31 hib hb0 hb1 hb2 rfl (by decide) _ _ _ (by rfl) (by first | exact OB | exact OA) _ 8 8 (byteL (be 8 h.f)) (by rfl) (by simp [be_len]) (by first | exact news_of_blk Ba2 _ rfl | exact news_of_blk Ba _ rfl) (byteL_one _) (by unfold maxLen; omega) (by omega) (by first | exact MB.size | exact MA.size) ?_
           intro vc wc OC GC
           first
             | (have MC := mo_grown MB GC (fun j e => (OB.lt j e).1)
                have HC := blk_grown HB GC (fun e => (owns_ne_blk OB HB (by decide)) _ e rfl)
                have Bb2 := blk_grown Bb GC (fun e => by have h1 := (OW.out.lt _ e).2; have h2 := Ma'.size; omega))
             | (have MC := mo_grown MA GC (fun j e => (OA.lt j e).1)
                have HC := blk_grown HA GC (fun e => (owns_ne_blk OA HA (by decide)) _ e rfl)))
        | (refine step_own (by rfl) (.tmp 53) (.tmp 56) 31 (by rfl) W.heap.size 5 tb (.int .u8 0) 1 1 Try.underlying31 hib hb0 hb1 hb2 rfl (by decide) _ _ _ (by rfl) (by first | exact OB | exact OC) _ 8 8 (byteL (be 8 h.o)) (by rfl) (by simp [be_len]) (by first | exact news_of_blk Bb2 _ rfl | exact news_of_blk Bb _ rfl) (byteL_one _) (by unfold maxLen; omega) (by omega) (by first | exact MB.size | exact MC.size) ?_
           intro vd wd OD GD
           first
             | (have MD := mo_grown MB GD (fun j e => (OB.lt j e).1)
                have HD := blk_grown HB GD (fun e => (owns_ne_blk OB HB (by decide)) _ e rfl))
             | (have MD := mo_grown MC GD (fun j e => (OC.lt j e).1)
                have HD := blk_grown HC GD (fun e => (owns_ne_blk OC HC (by decide)) _ e rfl)))
        | fail)
    all_goals
      go_wp2_with fail
      go_meet
      refine ⟨?_, MD, HD⟩
      unfold byteL
      rw [List.map_append, List.map_append]
      exact OD
  obtain ⟨O3px, M3x, B3x⟩ := hcut
  clear N1 N2 OW y0 y1 r4a r4b M3 B3
  generalize wc = V4 at *
  have r5a : IntKind.u64.wrap h.r = h.r := by rw [IntKind.wrap_u64]; have := OK.out.r; omega
  have r5b : IntKind.u64.wrap h.x = h.x := by rw [IntKind.wrap_u64]; have := OK.out.x; omega
  have N1 := Lib.hid (fun w => number8_any h.r w ⟨OK.out.r.1, Int.le_trans OK.out.r.2 (by decide)⟩)
  have N2 := Lib.hid (fun w => number8_any h.x w ⟨OK.out.x.1, Int.le_trans OK.out.x.2 (by decide)⟩)
  have OW := Lib.hid O3px
  have y0 : V4.cell? ⟨W.heap.size, 14, none⟩ = some (.int .u64 h.r) := by rw [blk_cell B3x]; rfl
  have y1 : V4.cell? ⟨W.heap.size, 15, none⟩ = some (.int .u64 h.x) := by rw [blk_cell B3x]; rfl
  clear O3px
  go_upto_region 5 with (fail)
  go_cut [2] (fun sx wx => wx.ownsRow W.heap.size 5 1 sx 48 (byteL ([h.l * 64 + h.v * 8 + h.m, h.s, h.po % 256, h.pr % 256] ++ be 4 h.rd ++ be 4 h.rp ++ [h.a, h.b, h.c, h.d] ++ be 8 h.f ++ be 8 h.o ++ be 8 h.r ++ be 8 h.x)) ∧ Mo W wx ∧ Blk wx W.heap.size 39 (hdC h))
  case first =>
    obtain ⟨tb, hib, hb0, hb1, hb2⟩ := info_parts infoB
    go_region_held3 (fun w' => w'.cell? ⟨W.heap.size, 14, none⟩ = some (.int .u64 h.r) ∧ w'.cell? ⟨W.heap.size, 15, none⟩ = some (.int .u64 h.x)) (first | (simp [go_sem, y0, y1]; done) | (simp [go_sem, zA0, zA1]; done) | (simp [go_sem, zB0, zB1]; done) | (simp [go_sem, zC0, zC1]; done) | (simp [go_sem, zD0, zD1]; done))
      (first
        | ((with_reducible refine (N1.out _).mono ?_)
           rintro e wa ⟨rfl, Ba, Ma⟩
           have Ma' := Mo.trans (Mor.out : Mo V4 _) Ma
           have MA := M3x.trans Ma'
           have OA := owns_mo OW.out Ma'
           have HA := Ma'.blk B3x
           have zA0 : wa.cell? ⟨W.heap.size, 14, none⟩ = some (.int .u64 h.r) := by rw [blk_cell HA]; rfl
           have zA1 : wa.cell? ⟨W.heap.size, 15, none⟩ = some (.int .u64 h.x) := by rw [blk_cell HA]; rfl)
        | ((with_reducible refine (N2.out _).mono ?_)
           rintro e wb ⟨rfl, Bb, Mb⟩
           first
             | (have MB := MC.trans Mb
                have OB := owns_mo OC Mb
                have HB := Mb.blk HC)
             | (have MB := MA.trans Mb
                have OB := owns_mo OA Mb
                have HB := Mb.blk HA
                have Ba2 := Mb.blk Ba)
           have zB0 : wb.cell? ⟨W.heap.size, 14, none⟩ = some (.int .u64 h.r) := by rw [blk_cell HB]; rfl
           have zB1 : wb.cell? ⟨W.heap.size, 15, none⟩ = some (.int .u64 h.x) := by rw [blk_cell HB]; rfl)
        | (refine step_own (by rfl) (.tmp 58) (.tmp 61) 31 (by rfl) W.heap.size 5 tb (.int .u8 0) 1 1 Try.underlying31 hib hb0 hb1 hb2 rfl (by decide) _ _ _ (by rfl) (by first | exact OB | exact OA) _ 8 8 (byteL (be 8 h.r)) (by rfl) (by simp [be_len]) (by first | exact news_of_blk Ba2 _ rfl | exact news_of_blk Ba _ rfl) (byteL_one _) (by unfold maxLen; omega) (by omega) (by first | exact MB.size | exact MA.size) ?_
           intro vc wc OC GC
           first
             | (have MC := mo_grown MB GC (fun j e => (OB.lt j e).1)
                have HC := blk_grown HB GC (fun e => (owns_ne_blk OB HB (by decide)) _ e rfl)
                have Bb2 := blk_grown Bb GC (fun e => by have h1 := (OW.out.lt _ e).2; have h2 := Ma'.size; omega))
             | (have MC := mo_grown MA GC (fun j e => (OA.lt j e).1)
                have HC := blk_grown HA GC (fun e => (owns_ne_blk OA HA (by decide)) _ e rfl)))
        | (refine step_own (by rfl) (.tmp 62) (.tmp 65) 31 (by rfl) W.heap.size 5 tb (.int .u8 0) 1 1 Try.underlying31 hib hb0 hb1 hb2 rfl (by decide) _ _ _ (by rfl) (by first | exact OB | exact OC) _ 8 8 (byteL (be 8 h.x)) (by rfl) (by simp [be_len]) (by first | exact news_of_blk Bb2 _ rfl | exact news_of_blk Bb _ rfl) (byteL_one _) (by unfold maxLen; omega) (by omega) (by first | exact MB.size | exact MC.size) ?_
           intro vd wd OD GD
           first
             | (have MD := mo_grown MB GD (fun j e => (OB.lt j e).1)
                have HD := blk_grown HB GD (fun e => (owns_ne_blk OB HB (by decide)) _ e rfl))
             | (have MD := mo_grown MC GD (fun j e => (OC.lt j e).1)
                have HD := blk_grown HC GD (fun e => (owns_ne_blk OC HC (by decide)) _ e rfl)))
        | fail)
    all_goals
      go_wp2_with fail
      go_meet
      refine ⟨?_, MD, HD⟩
      unfold byteL
      rw [List.map_append, List.map_append]
      exact OD
  obtain ⟨O3pxx, M3xx, B3xx⟩ := hcut
  clear N1 N2 OW y0 y1 r5a r5b M3x B3x
  generalize wc = V5 at *
  have OF := Lib.hid O3pxx
  clear O3pxx
  go_wp2_with fail
  go_ret
  exact ⟨_, rfl, OF.out, M3xx⟩
end Go.Proofs.Ytofbhkodnijkjaa
