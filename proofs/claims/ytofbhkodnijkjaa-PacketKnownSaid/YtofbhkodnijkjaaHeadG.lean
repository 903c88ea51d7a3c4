/- The reference's header: what 48 bytes tell. -/
import Derived.Test.YtofbhkodnijkjaaHeadD
namespace Go.Proofs.Ytofbhkodnijkjaa
open Go.RowKit

attribute [local go_sem] blk_cell' blk_frozen'
attribute [local go_sem ↓] storeAt_hd
attribute [local go_sem] run_storeHdAt
set_option maxRecDepth 20000 in
set_option maxHeartbeats 8000000 in
theorem refTake20_any (n cap : Nat) (A : Option Addr) (bs : List Int) (W : World) (hn : bs.length = n) (h : ByteS W A cap bs) (hl : 48 ≤ n) :
    Calls Try.prog 24 #[.slice A n cap] W fun e w' => e = .returned (hdV (hdOf bs)) ∧ Mo W w' := by
  have hlim := h.lim
  have hle := h.le
  have HN := Lib.hid hn
  rw [hn] at hlim hle
  have HB := Lib.hid h
  clear hn h
  obtain ⟨g, off, rfl, LG, hc⟩ := HB.out.get (by rw [HN.out]; omega)
  have c0 := hc 0 (by rw [HN.out]; omega)
  have c1 := hc 1 (by rw [HN.out]; omega)
  have c2 := hc 2 (by rw [HN.out]; omega)
  have c3 := hc 3 (by rw [HN.out]; omega)
  have c12 := (hc 12 (by rw [HN.out]; omega)).1
  have c13 := (hc 13 (by rw [HN.out]; omega)).1
  have c14 := (hc 14 (by rw [HN.out]; omega)).1
  have c15 := (hc 15 (by rw [HN.out]; omega)).1
  rw [get_at] at c0 c1 c2 c3 c12 c13 c14 c15
  obtain ⟨y0, l0, u0⟩ := c0
  obtain ⟨y1, l1, u1⟩ := c1
  obtain ⟨y2, l2, u2⟩ := c2
  obtain ⟨y3, l3, u3⟩ := c3
  have y0 : W.cell? ⟨g, off, none⟩ = some (.int .u8 (bs.getD 0 0)) := by simpa using y0
  clear hc
  have i0 : 0 < n := by omega
  have i1 : (1 : Int) < n := by omega
  have i2 : (2 : Int) < n := by omega
  have i3 : (3 : Int) < n := by omega
  have i12 : (12 : Int) < n := by omega
  have i13 : (13 : Int) < n := by omega
  have i14 : (14 : Int) < n := by omega
  have i15 : (15 : Int) < n := by omega
  obtain ⟨b0, hb0⟩ : ∃ b, bs.getD 0 0 = b := ⟨_, rfl⟩
  obtain ⟨b1, hb1⟩ : ∃ b, bs.getD 1 0 = b := ⟨_, rfl⟩
  obtain ⟨b2, hb2⟩ : ∃ b, bs.getD 2 0 = b := ⟨_, rfl⟩
  obtain ⟨b3, hb3⟩ : ∃ b, bs.getD 3 0 = b := ⟨_, rfl⟩
  obtain ⟨e12, he12⟩ : ∃ b, bs.getD 12 0 = b := ⟨_, rfl⟩
  obtain ⟨e13, he13⟩ : ∃ b, bs.getD 13 0 = b := ⟨_, rfl⟩
  obtain ⟨e14, he14⟩ : ∃ b, bs.getD 14 0 = b := ⟨_, rfl⟩
  obtain ⟨e15, he15⟩ : ∃ b, bs.getD 15 0 = b := ⟨_, rfl⟩
  rw [hb0] at y0 l0 u0
  rw [hb1] at y1 l1 u1
  rw [hb2] at y2 l2 u2
  rw [hb3] at y3 l3 u3
  rw [he12] at c12
  rw [he13] at c13
  rw [he14] at c14
  rw [he15] at c15
  have H0 := Lib.hid hb0
  have H1 := Lib.hid hb1
  have H2 := Lib.hid hb2
  have H3 := Lib.hid hb3
  have E12 := Lib.hid he12
  have E13 := Lib.hid he13
  have E14 := Lib.hid he14
  have E15 := Lib.hid he15
  clear hb0 hb1 hb2 hb3 he12 he13 he14 he15
  have q1 : b0.tdiv 64 = b0 / 64 := Int.tdiv_eq_ediv_of_nonneg l0
  have q2 : b0.tdiv 8 = b0 / 8 := Int.tdiv_eq_ediv_of_nonneg l0
  have q3 : (b0 / 8).tmod 8 = b0 / 8 % 8 := Int.tmod_eq_emod_of_nonneg (by omega)
  have q4 : b0.tmod 8 = b0 % 8 := Int.tmod_eq_emod_of_nonneg l0
  have q5 : IntKind.u8.wrap (b0 / 64) = b0 / 64 := by rw [IntKind.wrap_u8]; omega
  have q6 : IntKind.u8.wrap (b0 / 8) = b0 / 8 := by rw [IntKind.wrap_u8]; omega
  have q7 : IntKind.u8.wrap (b0 / 8 % 8) = b0 / 8 % 8 := by rw [IntKind.wrap_u8]; omega
  have q8 : IntKind.u8.wrap (b0 % 8) = b0 % 8 := by rw [IntKind.wrap_u8]; omega
  have SG1 := Lib.hid (fun w => sign_any b2 l2 u2 w)
  have SG2 := Lib.hid (fun w => sign_any b3 l3 u3 w)
  go_enter Try.func24, Try.ntmps24
  -- BEHIND
  go_upto_region 1 with (fail)
  go_cut [3] (fun sx wx => sx = .pointer (some ⟨W.heap.size + 1, 0, none⟩) ∧ Mo W wx ∧ Blk wx W.heap.size 39 (hdC hd0) ∧ Blk wx (W.heap.size + 1) 39 (hdC ⟨b0 / 64, b0 / 8 % 8, b0 % 8, b1, sgn8 b2, sgn8 b3, 0, 0, 0, 0, 0, 0, 0, 0, 0, 0⟩))
  case first =>
    go_region_held3 (fun w' => w'.cell? ⟨g, off, none⟩ = some (.int .u8 b0) ∧ w'.cell? ⟨g, off + 1, none⟩ = some (.int .u8 b1) ∧ w'.cell? ⟨g, off + 2, none⟩ = some (.int .u8 b2) ∧ w'.cell? ⟨g, off + 3, none⟩ = some (.int .u8 b3)) (simp [go_sem, y0, y1, y2, y3])
      (first | ((with_reducible refine (SG1.out _).mono ?_); rintro e w' ⟨rfl, rfl⟩) | ((with_reducible refine (SG2.out _).mono ?_); rintro e w' ⟨rfl, rfl⟩))
    all_goals
      go_wp2_with fail
      go_meet
      exact ⟨rfl, Mor.out, inferInstance, inferInstance⟩
  obtain ⟨rfl, MV, Br, Bh⟩ := hcut
  clear y0 y1 y2 y3 q1 q2 q3 q4 q5 q6 q7 q8 SG1 SG2
  have QB : ∀ k m, k + m ≤ n → 0 ≤ ofB ((bs.drop k).take m) ∧ ofB ((bs.drop k).take m) < 256 ^ m := fun k m h => by
    have := ofB_bd ((bs.drop k).take m) fun c hc => HB.out.byte c (List.mem_of_mem_drop (List.mem_of_mem_take hc))
    have e : ((bs.drop k).take m).length = m := by rw [List.length_take, List.length_drop, HN.out]; omega
    rwa [e] at this
  obtain ⟨A4, P4, s4, -⟩ := HB.out.part 4 8 (by omega) (by rw [HN.out]; omega)
  rw [HN.out] at s4
  have s4 : ∀ w : World, (Instr.slice 31 (.slice (some ⟨g, off, none⟩) n cap) (some (.int .i64 4)) (some (.int .i64 8)) none).run Try.prog w = .ok (.slice A4 4 (cap - 4)) w := s4
  have p4 := QB 4 4 (by omega)
  rw [pow4] at p4
  obtain ⟨p4a, p4b⟩ := p4
  have T4 := Lib.hid (fun w (k : Mo W w) => of20_any A4 4 (cap - 4) ((bs.drop 4).take 4) w (by rw [List.length_take, List.length_drop, HN.out]; omega) (P4.mo k) (by omega))
  obtain ⟨z4, hz4⟩ : ∃ z, ofB ((bs.drop 4).take 4) = z := ⟨_, rfl⟩
  rw [hz4] at p4a p4b T4
  have Z4 := Lib.hid hz4
  clear hz4 P4
  obtain ⟨A8, P8, s8, -⟩ := HB.out.part 8 12 (by omega) (by rw [HN.out]; omega)
  rw [HN.out] at s8
  have s8 : ∀ w : World, (Instr.slice 31 (.slice (some ⟨g, off, none⟩) n cap) (some (.int .i64 8)) (some (.int .i64 12)) none).run Try.prog w = .ok (.slice A8 4 (cap - 8)) w := s8
  have p8 := QB 8 4 (by omega)
  rw [pow4] at p8
  obtain ⟨p8a, p8b⟩ := p8
  have T8 := Lib.hid (fun w (k : Mo W w) => of20_any A8 4 (cap - 8) ((bs.drop 8).take 4) w (by rw [List.length_take, List.length_drop, HN.out]; omega) (P8.mo k) (by omega))
  obtain ⟨z8, hz8⟩ : ∃ z, ofB ((bs.drop 8).take 4) = z := ⟨_, rfl⟩
  rw [hz8] at p8a p8b T8
  have Z8 := Lib.hid hz8
  clear hz8 P8
  obtain ⟨A16, P16, s16, -⟩ := HB.out.part 16 24 (by omega) (by rw [HN.out]; omega)
  rw [HN.out] at s16
  have s16 : ∀ w : World, (Instr.slice 31 (.slice (some ⟨g, off, none⟩) n cap) (some (.int .i64 16)) (some (.int .i64 24)) none).run Try.prog w = .ok (.slice A16 8 (cap - 16)) w := s16
  have p16 := QB 16 8 (by omega)
  rw [pow8] at p16
  obtain ⟨p16a, p16b⟩ := p16
  have T16 := Lib.hid (fun w (k : Mo W w) => of20_any A16 8 (cap - 16) ((bs.drop 16).take 8) w (by rw [List.length_take, List.length_drop, HN.out]; omega) (P16.mo k) (by omega))
  obtain ⟨z16, hz16⟩ : ∃ z, ofB ((bs.drop 16).take 8) = z := ⟨_, rfl⟩
  rw [hz16] at p16a p16b T16
  have Z16 := Lib.hid hz16
  clear hz16 P16
  obtain ⟨A24, P24, s24, -⟩ := HB.out.part 24 32 (by omega) (by rw [HN.out]; omega)
  rw [HN.out] at s24
  have s24 : ∀ w : World, (Instr.slice 31 (.slice (some ⟨g, off, none⟩) n cap) (some (.int .i64 24)) (some (.int .i64 32)) none).run Try.prog w = .ok (.slice A24 8 (cap - 24)) w := s24
  have p24 := QB 24 8 (by omega)
  rw [pow8] at p24
  obtain ⟨p24a, p24b⟩ := p24
  have T24 := Lib.hid (fun w (k : Mo W w) => of20_any A24 8 (cap - 24) ((bs.drop 24).take 8) w (by rw [List.length_take, List.length_drop, HN.out]; omega) (P24.mo k) (by omega))
  obtain ⟨z24, hz24⟩ : ∃ z, ofB ((bs.drop 24).take 8) = z := ⟨_, rfl⟩
  rw [hz24] at p24a p24b T24
  have Z24 := Lib.hid hz24
  clear hz24 P24
  obtain ⟨A32, P32, s32, -⟩ := HB.out.part 32 40 (by omega) (by rw [HN.out]; omega)
  rw [HN.out] at s32
  have s32 : ∀ w : World, (Instr.slice 31 (.slice (some ⟨g, off, none⟩) n cap) (some (.int .i64 32)) (some (.int .i64 40)) none).run Try.prog w = .ok (.slice A32 8 (cap - 32)) w := s32
  have p32 := QB 32 8 (by omega)
  rw [pow8] at p32
  obtain ⟨p32a, p32b⟩ := p32
  have T32 := Lib.hid (fun w (k : Mo W w) => of20_any A32 8 (cap - 32) ((bs.drop 32).take 8) w (by rw [List.length_take, List.length_drop, HN.out]; omega) (P32.mo k) (by omega))
  obtain ⟨z32, hz32⟩ : ∃ z, ofB ((bs.drop 32).take 8) = z := ⟨_, rfl⟩
  rw [hz32] at p32a p32b T32
  have Z32 := Lib.hid hz32
  clear hz32 P32
  obtain ⟨A40, P40, s40, -⟩ := HB.out.part 40 48 (by omega) (by rw [HN.out]; omega)
  rw [HN.out] at s40
  have s40 : ∀ w : World, (Instr.slice 31 (.slice (some ⟨g, off, none⟩) n cap) (some (.int .i64 40)) (some (.int .i64 48)) none).run Try.prog w = .ok (.slice A40 8 (cap - 40)) w := s40
  have p40 := QB 40 8 (by omega)
  rw [pow8] at p40
  obtain ⟨p40a, p40b⟩ := p40
  have T40 := Lib.hid (fun w (k : Mo W w) => of20_any A40 8 (cap - 40) ((bs.drop 40).take 8) w (by rw [List.length_take, List.length_drop, HN.out]; omega) (P40.mo k) (by omega))
  obtain ⟨z40, hz40⟩ : ∃ z, ofB ((bs.drop 40).take 8) = z := ⟨_, rfl⟩
  rw [hz40] at p40a p40b T40
  have Z40 := Lib.hid hz40
  clear hz40 P40
  clear QB
  generalize wc = V0 at *
  go_wp2_with fail
  refine (T4.out _ MV).mono ?_
  rintro e w' ⟨rfl, rfl⟩
  go_wp2_with fail
  refine (T8.out _ (mo_setCell MV (g := W.heap.size + 1) (by omega) _ _)).mono ?_
  rintro e w' ⟨rfl, rfl⟩
  go_upto_region 4 with (fail)
  refine wp_name ?_
  intro V1 hV1
  have M1 : Mo W V1 := by rw [hV1]; exact mo_setCell (mo_setCell MV (g := W.heap.size + 1) (by omega) _ _) (g := W.heap.size + 1) (by omega) _ _
  have Br1 : Blk V1 W.heap.size 39 (hdC hd0) := by rw [hV1]; exact blk_setCell_ne (blk_setCell_ne Br (g := W.heap.size + 1) (by omega) _ _) (g := W.heap.size + 1) (by omega) _ _
  have Bh1 : Blk V1 (W.heap.size + 1) 39 (hdC ⟨b0 / 64, b0 / 8 % 8, b0 % 8, b1, sgn8 b2, sgn8 b3, z4, z8, 0, 0, 0, 0, 0, 0, 0, 0⟩) := by rw [hV1]; exact blk_setCell (blk_setCell Bh 6 _) 7 _
  clear hV1 Br Bh MV
  have d12 : V1.cell? ⟨g, off + 12, none⟩ = some (.int .u8 e12) := by rw [M1.cell]; exact c12
  have d13 : V1.cell? ⟨g, off + 13, none⟩ = some (.int .u8 e13) := by rw [M1.cell]; exact c13
  have d14 : V1.cell? ⟨g, off + 14, none⟩ = some (.int .u8 e14) := by rw [M1.cell]; exact c14
  have d15 : V1.cell? ⟨g, off + 15, none⟩ = some (.int .u8 e15) := by rw [M1.cell]; exact c15
  go_cut [3] (fun sx wx => sx = .pointer (some ⟨W.heap.size + 1, 0, none⟩) ∧ Mo W wx ∧ Blk wx W.heap.size 39 (hdC hd0) ∧ Blk wx (W.heap.size + 1) 39 (hdC ⟨b0 / 64, b0 / 8 % 8, b0 % 8, b1, sgn8 b2, sgn8 b3, z4, z8, e12, e13, e14, e15, 0, 0, 0, 0⟩))
  case first =>
    go_region_held3 (fun w' => w'.cell? ⟨g, off + 12, none⟩ = some (.int .u8 e12) ∧ w'.cell? ⟨g, off + 13, none⟩ = some (.int .u8 e13) ∧ w'.cell? ⟨g, off + 14, none⟩ = some (.int .u8 e14) ∧ w'.cell? ⟨g, off + 15, none⟩ = some (.int .u8 e15)) (simp [go_sem, d12, d13, d14, d15]) (fail)
    all_goals
      go_wp2_with fail
      go_meet
      refine ⟨rfl, ?_, ?_, ?_⟩
      · exact (mo_setCell (mo_setCell (mo_setCell (mo_setCell M1 (g := W.heap.size + 1) (by omega) 8 (.int .u8 e12)) (g := W.heap.size + 1) (by omega) 9 (.int .u8 e13)) (g := W.heap.size + 1) (by omega) 10 (.int .u8 e14)) (g := W.heap.size + 1) (by omega) 11 (.int .u8 e15)).trans Mor.out
      · exact ⟨(blk_setCell_ne (blk_setCell_ne (blk_setCell_ne (blk_setCell_ne Br1 (g := W.heap.size + 1) (by omega) 8 (.int .u8 e12)) (g := W.heap.size + 1) (by omega) 9 (.int .u8 e13)) (g := W.heap.size + 1) (by omega) 10 (.int .u8 e14)) (g := W.heap.size + 1) (by omega) 11 (.int .u8 e15)).out⟩
      · exact ⟨(blk_setCell (blk_setCell (blk_setCell (blk_setCell Bh1 8 (.int .u8 e12)) 9 (.int .u8 e13)) 10 (.int .u8 e14)) 11 (.int .u8 e15)).out⟩
  obtain ⟨rfl, M2, Br2, Bh2⟩ := hcut
  clear M1 Br1 Bh1 d12 d13 d14 d15 c12 c13 c14 c15
  generalize wc = V2 at *
  as_aux_lemma =>
    go_wp2_with fail
    refine (T16.out _ M2).mono ?_
    rintro e w' ⟨rfl, rfl⟩
    go_wp2_with fail
    refine (T24.out _ (mo_setCell M2 (g := W.heap.size + 1) (by omega) _ _)).mono ?_
    rintro e w' ⟨rfl, rfl⟩
    go_wp2_with fail
    refine (T32.out _ (mo_setCell (mo_setCell M2 (g := W.heap.size + 1) (by omega) _ _) (g := W.heap.size + 1) (by omega) _ _)).mono ?_
    rintro e w' ⟨rfl, rfl⟩
    go_wp2_with fail
    refine (T40.out _ (mo_setCell (mo_setCell (mo_setCell M2 (g := W.heap.size + 1) (by omega) _ _) (g := W.heap.size + 1) (by omega) _ _) (g := W.heap.size + 1) (by omega) _ _)).mono ?_
    rintro e w' ⟨rfl, rfl⟩
    go_upto_region 9 with (fail)
    refine wp_name ?_
    intro V3 hV3
    have M3 : Mo W V3 := by rw [hV3]; exact mo_setCell (mo_setCell (mo_setCell (mo_setCell M2 (g := W.heap.size + 1) (by omega) _ _) (g := W.heap.size + 1) (by omega) _ _) (g := W.heap.size + 1) (by omega) _ _) (g := W.heap.size + 1) (by omega) _ _
    have Br3 : Blk V3 W.heap.size 39 (hdC hd0) := by rw [hV3]; exact blk_setCell_ne (blk_setCell_ne (blk_setCell_ne (blk_setCell_ne Br2 (g := W.heap.size + 1) (by omega) _ _) (g := W.heap.size + 1) (by omega) _ _) (g := W.heap.size + 1) (by omega) _ _) (g := W.heap.size + 1) (by omega) _ _
    have Bh3 : Blk V3 (W.heap.size + 1) 39 (hdC ⟨b0 / 64, b0 / 8 % 8, b0 % 8, b1, sgn8 b2, sgn8 b3, z4, z8, e12, e13, e14, e15, z16, z24, z32, z40⟩) := by rw [hV3]; exact blk_setCell (blk_setCell (blk_setCell (blk_setCell Bh2 12 _) 13 _) 14 _) 15 _
    clear hV3 M2 Br2 Bh2 T4 T8 T16 T24 T32 T40
    as_aux_lemma =>
      obtain ⟨V4, hV4⟩ : ∃ V4, V3.setRow W.heap.size (hdC ⟨b0 / 64, b0 / 8 % 8, b0 % 8, b1, sgn8 b2, sgn8 b3, z4, z8, e12, e13, e14, e15, z16, z24, z32, z40⟩) = V4 := ⟨_, rfl⟩
      have M4 : Mo W V4 := by rw [← hV4]; exact mo_setRow M3 (Nat.le_refl _) _
      have Br4 : Blk V4 W.heap.size 39 (hdC ⟨b0 / 64, b0 / 8 % 8, b0 % 8, b1, sgn8 b2, sgn8 b3, z4, z8, e12, e13, e14, e15, z16, z24, z32, z40⟩) := by rw [← hV4]; exact blk_setRow Br3
      go_wp2_with fail
      refine bodyPost_ret (v := hdV ⟨b0 / 64, b0 / 8 % 8, b0 % 8, b1, sgn8 b2, sgn8 b3, z4, z8, e12, e13, e14, e15, z16, z24, z32, z40⟩) (by simp [results, Try.results24, go_sem]) rfl ?_
      refine ⟨?_, M4⟩
      unfold hdOf
      rw [H0.out, H1.out, H2.out, H3.out, Z4.out, Z8.out, Z16.out, Z24.out, Z32.out, Z40.out, E12.out, E13.out, E14.out, E15.out]
end Go.Proofs.Ytofbhkodnijkjaa
