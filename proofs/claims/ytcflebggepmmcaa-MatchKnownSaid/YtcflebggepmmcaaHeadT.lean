/- Written by gen/bundle30.py: HeadD, HeadE, HeadG, HeadF, ExtK in one text. -/
import Derived.Test.YtcflebggepmmcaaHeadS
import Derived.Test.YtcflebggepmmcaaExtV
import Derived.Test.YtcflebggepmmcaaExtF
/- The reference's header: its bytes, and what 48 bytes tell. -/
namespace Go.Proofs.Ytcflebggepmmcaa
open Go.RowKit

attribute [local go_sem] blk_cell' blk_frozen'
set_option maxRecDepth 20000 in
theorem sign_any (c : Int) (h1 : 0 ≤ c) (h2 : c ≤ 255) (W : World) : Calls Try.prog 114 #[.int .u8 c] W fun e w' => e = .returned (.int .i8 (sgn8 c)) ∧ W = w' := by
  by_cases q : 127 < c
  · have e1 : IntKind.i8.wrap (c - 256) = sgn8 c := by
      unfold sgn8 IntKind.wrap
      simp only [IntKind.signed, IntKind.bits, Bool.true_and, decide_eq_true_eq, ge_iff_le, Int.reducePow, Nat.reduceSub]
      rw [if_pos q, if_pos (by omega)]
      omega
    go_enter Try.func114, Try.ntmps114
    go_wp2_with fail
    go_ret
    exact ⟨rfl, rfl⟩
  · have e1 := wrap_i8s c h1 h2
    go_enter Try.func114, Try.ntmps114
    go_wp2_with fail
    go_ret
    exact ⟨rfl, rfl⟩
set_option maxRecDepth 20000 in
theorem plain_any (n : Int) (h1 : -128 ≤ n) (h2 : n ≤ 127) (W : World) : Calls Try.prog 79 #[.int .i8 n] W fun e w' => e = .returned (.int .u8 (n % 256)) ∧ W = w' := by
  by_cases q : n < 0
  · have e1 : n + 256 = n % 256 := by omega
    have E1 := Lib.hid e1
    clear e1
    go_enter Try.func79, Try.ntmps79
    go_wp2_with fail
    go_ret
    exact ⟨by rw [← E1.out]; rfl, rfl⟩
  · have e2 : n = n % 256 := by omega
    have E2 := Lib.hid e2
    clear e2
    go_enter Try.func79, Try.ntmps79
    go_wp2_with fail
    go_ret
    exact ⟨by rw [← E2.out]; rfl, rfl⟩
set_option maxRecDepth 20000 in
set_option maxHeartbeats 2000000 in
theorem refMay_any (h : Hd) (W : World) : Calls Try.prog 45 #[hdV h] W fun e w' => e = .returned (.bool (mayH h)) ∧ Mo W w' := by
  obtain ⟨r, hr⟩ : ∃ r, mayH h = r := ⟨_, rfl⟩
  rw [hr]
  unfold mayH at hr
  have HR := Lib.hid hr
  clear hr
  have h1 := HR.out
  by_cases a : h.l < 4
  · have a' : h.l ≤ 3 := by omega
    by_cases b : h.v < 8
    · have b' : h.v ≤ 7 := by omega
      by_cases c : h.m < 8
      · have c' : h.m ≤ 7 := by omega
        obtain rfl : r = true := by rw [← h1, decide_eq_true a, decide_eq_true b, decide_eq_true c]; rfl
        clear h1 HR a b c
        go_enter Try.func45, Try.ntmps45
        go_wp2_with fail
        go_ret
        exact ⟨rfl, Mor.out⟩
      · have c' : ¬ h.m ≤ 7 := by omega
        obtain rfl : r = false := by rw [← h1, decide_eq_false c]; simp
        clear h1 HR a b c
        go_enter Try.func45, Try.ntmps45
        go_wp2_with fail
        go_ret
        exact ⟨rfl, Mor.out⟩
    · have b' : ¬ h.v ≤ 7 := by omega
      obtain rfl : r = false := by rw [← h1, decide_eq_false b]; simp
      clear h1 HR a b
      go_enter Try.func45, Try.ntmps45
      go_wp2_with fail
      go_ret
      exact ⟨rfl, Mor.out⟩
  · have a' : ¬ h.l ≤ 3 := by omega
    obtain rfl : r = false := by rw [← h1, decide_eq_false a]; simp
    clear h1 HR a
    go_enter Try.func45, Try.ntmps45
    go_wp2_with fail
    go_ret
    exact ⟨rfl, Mor.out⟩
set_option maxRecDepth 20000 in
set_option maxHeartbeats 2000000 in
theorem of20_any (A : Option Addr) (n cap : Nat) (ts : List Int) (W : World) (hn : ts.length = n) (h : ByteS W A cap ts) (hm : n ≤ 8) :
    Calls Try.prog 115 #[.slice A n cap] W fun e w' => e = .returned (.int .u64 (ofB ts)) ∧ W = w' := by
  have HL := Lib.hid hn
  have HB := Lib.hid h
  clear hn h
  go_enter Try.func115, Try.ntmps115
  go_wp2_with fail
  go_loop [3, 4] (fun s i => ∃ k : Nat, k ≤ n ∧ i = .int .i64 (k : Int) ∧ s = .int .u64 (ofB (ts.take k))) (fun _ i => n - (intOf i).toNat)
  case atStart => exact ⟨0, by omega, rfl, rfl⟩
  case round =>
    obtain ⟨k, hk, rfl, rfl⟩ := hrel
    by_cases ck : k < n
    · obtain ⟨g, off, rfl, LG, hc⟩ := HB.out.get (by rw [HL.out]; omega)
      obtain ⟨y, b1, b2⟩ := hc k (by rw [HL.out]; exact ck)
      have hbd := ofB_bd (ts.take k) fun c hc => HB.out.byte c (List.mem_of_mem_take hc)
      rw [List.length_take, HL.out, Nat.min_eq_left hk] at hbd
      have hp7 := pow_le7 k (by omega)
      have hx1 := hbd.1
      have hx2 : ofB (ts.take k) < 72057594037927936 := by omega
      have T := Lib.hid (take_snoc' ts k (by rw [HL.out]; exact ck))
      have i0 : (0 : Int) ≤ k := by omega
      have i1 : (k : Int) < n := by omega
      have SN := Lib.hid (ofB_snoc (ts.take k) (ts[k]'(by rw [HL.out]; exact ck)))
      clear hbd hp7 hc
      generalize ofB (ts.take k) = s at *
      generalize ts[k]'_ = c at *
      go_wp2_with fail
      go_round
      case rel => exact ⟨k + 1, by omega, by go_num, by rw [T.out, SN.out, Int.mul_comm]⟩
      case measure => simp [intOf]; omega
    · obtain rfl : k = n := by omega
      have T := Lib.hid (List.take_of_length_le (l := ts) (i := k) (by rw [HL.out]; omega))
      generalize ts.take k = u at *
      obtain rfl := T.out
      go_wp2_with fail
      go_ret
      exact ⟨rfl, rfl⟩
end Go.Proofs.Ytcflebggepmmcaa
/- The reference's header: the bytes of a number. -/
namespace Go.Proofs.Ytcflebggepmmcaa
open Go.RowKit

attribute [local go_sem] blk_cell' blk_frozen'
set_option maxRecDepth 20000 in
theorem set_mid (l t : List Value) (a b : Value) : (l ++ a :: t).set l.length b = l ++ b :: t := by
  induction l with
  | nil => rfl
  | cons x xs ih => simp [ih]
set_option maxRecDepth 20000 in
theorem byte_set (k : Nat) (t : List Int) (c : Int) : (byteL (zeros (k + 1) ++ t)).toArray.setIfInBounds k (.int .u8 c) = (byteL (zeros k ++ c :: t)).toArray := by
  rw [List.setIfInBounds_toArray]
  congr 1
  have e : byteL (zeros (k + 1) ++ t) = byteL (zeros k) ++ .int .u8 0 :: byteL t := by
    unfold byteL zeros
    rw [List.replicate_succ']
    simp
  have h : (byteL (zeros k)).length = k := by simp
  have := set_mid (byteL (zeros k)) (byteL t) (.int .u8 0) (.int .u8 c)
  rw [h] at this
  rw [e, this]
  simp
set_option maxRecDepth 20000 in
theorem byte_get (k : Nat) (t : List Int) : (byteL (zeros (k + 1) ++ t)).toArray[k]? = some (.int .u8 0) := by
  simp [List.getElem?_append]
set_option maxRecDepth 20000 in
theorem make_byteN (n : Nat) (hn : n ≤ 100000) (w : World) : (Instr.makeSlice 39 (.int .i64 (n : Int)) (.int .i64 (n : Int))).run Try.prog w = .ok (.slice (some ⟨w.heap.size, 0, none⟩) n n) (w.alloc (.cells (byteL (zeros n)).toArray 5)) := by
  obtain ⟨i0, hi, hz0, hz1, hz2⟩ := info_parts infoB
  have := run_make w 39 5 i0 _ Try.underlying39 hi hz0 .i64 .i64 (n : Int) (n : Int) (by omega) (Int.le_refl _) (by rw [hz2]; omega) (by omega)
  rw [hz1, show ((n : Int)).toNat = n by omega] at this
  rw [this, show madeCells (Value.int .u8 0).cells (n * 1) = (byteL (zeros n)).toArray from Array.toList_inj.1 (by
    rw [Nat.mul_one]
    show (madeCells #[Value.int .u8 0] n).toList = _
    rw [toList_madeCells_one]
    simp)]
set_option maxRecDepth 20000 in
set_option maxHeartbeats 2000000 in
theorem number_any (x : Int) (many : Nat) (W : World) (hx : 0 ≤ x ∧ x ≤ 18446744073709551615) (hm : many ≤ 8) :
    Calls Try.prog 80 #[.int .u64 x, .int .i64 (many : Int)] W fun e w' => e = .returned (.slice (some ⟨W.heap.size, 0, none⟩) many many) ∧ Blk w' W.heap.size 5 (byteL (be many x)).toArray ∧ Mo W w' := by
  have mk := make_byteN many (by omega)
  obtain ⟨hx1, hx2⟩ := hx
  go_enter Try.func80, Try.ntmps80
  go_wp2_with fail
  go_loopw [0, 6] (fun y i wr => ∃ j m : Nat, j + m = many ∧ i = .int .i64 ((j : Int) - 1) ∧ y = .int .u64 (x / 256 ^ m) ∧ Blk wr W.heap.size 5 (byteL (zeros j ++ be m x)).toArray ∧ Mo W wr) (fun _ i _ => (intOf i + 1).toNat)
  case atStart => exact ⟨many, 0, by omega, by go_num, by simp, by rw [show (byteL (zeros many ++ be 0 x)).toArray = Array.replicate many (Value.int .u8 0) by simp [be]]; infer_instance, Mor.out⟩
  case round =>
    obtain ⟨j, m, hjm, rfl, rfl, hB, hM⟩ := hrel
    cases j with
    | zero =>
      obtain rfl : m = many := by omega
      have HB := Lib.hid hB
      clear hB mk
      go_wp2_with fail
      go_ret
      refine ⟨rfl, ?_, hM⟩
      have := HB.out
      rwa [show zeros 0 ++ be m x = be m x from rfl] at this
    | succ k =>
      have ek : (((k + 1 : Nat) : Int) - 1) = k := by omega
      rw [ek]
      clear ek
      have y0 : wr.cell? ⟨W.heap.size, k, none⟩ = some (.int .u8 0) := by rw [blk_cell hB, byte_get]
      have z0 := blk_frozen hB k
      have hb := blk_setCell hB k (.int .u8 (x / 256 ^ m % 256))
      rw [byte_set] at hb
      have HB := Lib.hid hb
      have hMs := mo_setCell hM (g := W.heap.size) (Nat.le_refl _) k (.int .u8 (x / 256 ^ m % 256))
      have HMs := Lib.hid hMs
      have i0 : (0 : Int) ≤ k := by omega
      have i1 : (k : Int) < many := by omega
      have hq0 : 0 ≤ x / 256 ^ m := Int.ediv_nonneg hx1 (Int.le_of_lt (Int.pow_pos (by omega)))
      have hq1 : x / 256 ^ m ≤ 18446744073709551615 := Int.le_trans (Int.ediv_le_self _ hx1) hx2
      have SQ := Lib.hid (show x / 256 ^ m / 256 = x / 256 ^ (m + 1) by rw [Int.pow_succ, Int.ediv_ediv_of_nonneg (Int.le_of_lt (Int.pow_pos (by omega)))])
      have BE := Lib.hid (show be (m + 1) x = x / 256 ^ m % 256 :: be m x from rfl)
      clear hB hb hMs mk
      generalize x / 256 ^ m = q at *
      go_wp2_with fail
      go_roundw
      case rel => exact ⟨k, m + 1, by omega, rfl, by rw [← SQ.out], by rw [BE.out]; exact HB.out, HMs.out⟩
      case measure => simp [intOf]
end Go.Proofs.Ytcflebggepmmcaa
/- The reference's header: what 48 bytes tell. -/
namespace Go.Proofs.Ytcflebggepmmcaa
open Go.RowKit

attribute [local go_sem] blk_cell' blk_frozen'
attribute [local go_sem ↓] storeAt_hd
attribute [local go_sem] run_storeHdAt
set_option maxRecDepth 20000 in
set_option maxHeartbeats 8000000 in
theorem refTake20_any (n cap : Nat) (A : Option Addr) (bs : List Int) (W : World) (hn : bs.length = n) (h : ByteS W A cap bs) (hl : 48 ≤ n) :
    Calls Try.prog 97 #[.slice A n cap] W fun e w' => e = .returned (hdV (hdOf bs)) ∧ Mo W w' := by
  have hlim := h.lim
  have hle := h.le
  have HN := Lib.hid hn
  rw [hn] at hlim hle
  have HB := Lib.hid h
  clear hn h
  obtain ⟨g, off, rfl, LG, hc⟩ := HB.out.get (by rw [HN.out]; omega)
  have c0 := hc 0 (by rw [HN.out]; omega)
  have c1 := hc 1 (by rw [HN.out]; omega)
  have c2 := hc 2 (by rw [HN.out]; omega)
  have c3 := hc 3 (by rw [HN.out]; omega)
  have c12 := (hc 12 (by rw [HN.out]; omega)).1
  have c13 := (hc 13 (by rw [HN.out]; omega)).1
  have c14 := (hc 14 (by rw [HN.out]; omega)).1
  have c15 := (hc 15 (by rw [HN.out]; omega)).1
  rw [get_at] at c0 c1 c2 c3 c12 c13 c14 c15
  obtain ⟨y0, l0, u0⟩ := c0
  obtain ⟨y1, l1, u1⟩ := c1
  obtain ⟨y2, l2, u2⟩ := c2
  obtain ⟨y3, l3, u3⟩ := c3
  have y0 : W.cell? ⟨g, off, none⟩ = some (.int .u8 (bs.getD 0 0)) := by simpa using y0
  clear hc
  have i0 : 0 < n := by omega
  have i1 : (1 : Int) < n := by omega
  have i2 : (2 : Int) < n := by omega
  have i3 : (3 : Int) < n := by omega
  have i12 : (12 : Int) < n := by omega
  have i13 : (13 : Int) < n := by omega
  have i14 : (14 : Int) < n := by omega
  have i15 : (15 : Int) < n := by omega
  obtain ⟨b0, hb0⟩ : ∃ b, bs.getD 0 0 = b := ⟨_, rfl⟩
  obtain ⟨b1, hb1⟩ : ∃ b, bs.getD 1 0 = b := ⟨_, rfl⟩
  obtain ⟨b2, hb2⟩ : ∃ b, bs.getD 2 0 = b := ⟨_, rfl⟩
  obtain ⟨b3, hb3⟩ : ∃ b, bs.getD 3 0 = b := ⟨_, rfl⟩
  obtain ⟨e12, he12⟩ : ∃ b, bs.getD 12 0 = b := ⟨_, rfl⟩
  obtain ⟨e13, he13⟩ : ∃ b, bs.getD 13 0 = b := ⟨_, rfl⟩
  obtain ⟨e14, he14⟩ : ∃ b, bs.getD 14 0 = b := ⟨_, rfl⟩
  obtain ⟨e15, he15⟩ : ∃ b, bs.getD 15 0 = b := ⟨_, rfl⟩
  rw [hb0] at y0 l0 u0
  rw [hb1] at y1 l1 u1
  rw [hb2] at y2 l2 u2
  rw [hb3] at y3 l3 u3
  rw [he12] at c12
  rw [he13] at c13
  rw [he14] at c14
  rw [he15] at c15
  have H0 := Lib.hid hb0
  have H1 := Lib.hid hb1
  have H2 := Lib.hid hb2
  have H3 := Lib.hid hb3
  have E12 := Lib.hid he12
  have E13 := Lib.hid he13
  have E14 := Lib.hid he14
  have E15 := Lib.hid he15
  clear hb0 hb1 hb2 hb3 he12 he13 he14 he15
  have q1 : b0.tdiv 64 = b0 / 64 := Int.tdiv_eq_ediv_of_nonneg l0
  have q2 : b0.tdiv 8 = b0 / 8 := Int.tdiv_eq_ediv_of_nonneg l0
  have q3 : (b0 / 8).tmod 8 = b0 / 8 % 8 := Int.tmod_eq_emod_of_nonneg (by omega)
  have q4 : b0.tmod 8 = b0 % 8 := Int.tmod_eq_emod_of_nonneg l0
  have q5 : IntKind.u8.wrap (b0 / 64) = b0 / 64 := by rw [IntKind.wrap_u8]; omega
  have q6 : IntKind.u8.wrap (b0 / 8) = b0 / 8 := by rw [IntKind.wrap_u8]; omega
  have q7 : IntKind.u8.wrap (b0 / 8 % 8) = b0 / 8 % 8 := by rw [IntKind.wrap_u8]; omega
  have q8 : IntKind.u8.wrap (b0 % 8) = b0 % 8 := by rw [IntKind.wrap_u8]; omega
  have SG1 := Lib.hid (fun w => sign_any b2 l2 u2 w)
  have SG2 := Lib.hid (fun w => sign_any b3 l3 u3 w)
  go_enter Try.func97, Try.ntmps97
  -- BEHIND
  go_upto_region 1 with (fail)
  go_cut [3] (fun sx wx => sx = .pointer (some ⟨W.heap.size + 1, 0, none⟩) ∧ Mo W wx ∧ Blk wx W.heap.size 63 (hdC hd0) ∧ Blk wx (W.heap.size + 1) 63 (hdC ⟨b0 / 64, b0 / 8 % 8, b0 % 8, b1, sgn8 b2, sgn8 b3, 0, 0, 0, 0, 0, 0, 0, 0, 0, 0⟩))
  case first =>
    go_region_held3 (fun w' => w'.cell? ⟨g, off, none⟩ = some (.int .u8 b0) ∧ w'.cell? ⟨g, off + 1, none⟩ = some (.int .u8 b1) ∧ w'.cell? ⟨g, off + 2, none⟩ = some (.int .u8 b2) ∧ w'.cell? ⟨g, off + 3, none⟩ = some (.int .u8 b3)) (simp [go_sem, y0, y1, y2, y3])
      (first | ((with_reducible refine (SG1.out _).mono ?_); rintro e w' ⟨rfl, rfl⟩) | ((with_reducible refine (SG2.out _).mono ?_); rintro e w' ⟨rfl, rfl⟩))
    all_goals
      go_wp2_with fail
      go_meet
      exact ⟨rfl, Mor.out, inferInstance, inferInstance⟩
  obtain ⟨rfl, MV, Br, Bh⟩ := hcut
  clear y0 y1 y2 y3 q1 q2 q3 q4 q5 q6 q7 q8 SG1 SG2
  have QB : ∀ k m, k + m ≤ n → 0 ≤ ofB ((bs.drop k).take m) ∧ ofB ((bs.drop k).take m) < 256 ^ m := fun k m h => by
    have := ofB_bd ((bs.drop k).take m) fun c hc => HB.out.byte c (List.mem_of_mem_drop (List.mem_of_mem_take hc))
    have e : ((bs.drop k).take m).length = m := by rw [List.length_take, List.length_drop, HN.out]; omega
    rwa [e] at this
  obtain ⟨A4, P4, s4, -⟩ := HB.out.part 4 8 (by omega) (by rw [HN.out]; omega)
  rw [HN.out] at s4
  have s4 : ∀ w : World, (Instr.slice 39 (.slice (some ⟨g, off, none⟩) n cap) (some (.int .i64 4)) (some (.int .i64 8)) none).run Try.prog w = .ok (.slice A4 4 (cap - 4)) w := s4
  have p4 := QB 4 4 (by omega)
  rw [pow4] at p4
  obtain ⟨p4a, p4b⟩ := p4
  have T4 := Lib.hid (fun w (k : Mo W w) => of20_any A4 4 (cap - 4) ((bs.drop 4).take 4) w (by rw [List.length_take, List.length_drop, HN.out]; omega) (P4.mo k) (by omega))
  obtain ⟨z4, hz4⟩ : ∃ z, ofB ((bs.drop 4).take 4) = z := ⟨_, rfl⟩
  rw [hz4] at p4a p4b T4
  have Z4 := Lib.hid hz4
  clear hz4 P4
  obtain ⟨A8, P8, s8, -⟩ := HB.out.part 8 12 (by omega) (by rw [HN.out]; omega)
  rw [HN.out] at s8
  have s8 : ∀ w : World, (Instr.slice 39 (.slice (some ⟨g, off, none⟩) n cap) (some (.int .i64 8)) (some (.int .i64 12)) none).run Try.prog w = .ok (.slice A8 4 (cap - 8)) w := s8
  have p8 := QB 8 4 (by omega)
  rw [pow4] at p8
  obtain ⟨p8a, p8b⟩ := p8
  have T8 := Lib.hid (fun w (k : Mo W w) => of20_any A8 4 (cap - 8) ((bs.drop 8).take 4) w (by rw [List.length_take, List.length_drop, HN.out]; omega) (P8.mo k) (by omega))
  obtain ⟨z8, hz8⟩ : ∃ z, ofB ((bs.drop 8).take 4) = z := ⟨_, rfl⟩
  rw [hz8] at p8a p8b T8
  have Z8 := Lib.hid hz8
  clear hz8 P8
  obtain ⟨A16, P16, s16, -⟩ := HB.out.part 16 24 (by omega) (by rw [HN.out]; omega)
  rw [HN.out] at s16
  have s16 : ∀ w : World, (Instr.slice 39 (.slice (some ⟨g, off, none⟩) n cap) (some (.int .i64 16)) (some (.int .i64 24)) none).run Try.prog w = .ok (.slice A16 8 (cap - 16)) w := s16
  have p16 := QB 16 8 (by omega)
  rw [pow8] at p16
  obtain ⟨p16a, p16b⟩ := p16
  have T16 := Lib.hid (fun w (k : Mo W w) => of20_any A16 8 (cap - 16) ((bs.drop 16).take 8) w (by rw [List.length_take, List.length_drop, HN.out]; omega) (P16.mo k) (by omega))
  obtain ⟨z16, hz16⟩ : ∃ z, ofB ((bs.drop 16).take 8) = z := ⟨_, rfl⟩
  rw [hz16] at p16a p16b T16
  have Z16 := Lib.hid hz16
  clear hz16 P16
  obtain ⟨A24, P24, s24, -⟩ := HB.out.part 24 32 (by omega) (by rw [HN.out]; omega)
  rw [HN.out] at s24
  have s24 : ∀ w : World, (Instr.slice 39 (.slice (some ⟨g, off, none⟩) n cap) (some (.int .i64 24)) (some (.int .i64 32)) none).run Try.prog w = .ok (.slice A24 8 (cap - 24)) w := s24
  have p24 := QB 24 8 (by omega)
  rw [pow8] at p24
  obtain ⟨p24a, p24b⟩ := p24
  have T24 := Lib.hid (fun w (k : Mo W w) => of20_any A24 8 (cap - 24) ((bs.drop 24).take 8) w (by rw [List.length_take, List.length_drop, HN.out]; omega) (P24.mo k) (by omega))
  obtain ⟨z24, hz24⟩ : ∃ z, ofB ((bs.drop 24).take 8) = z := ⟨_, rfl⟩
  rw [hz24] at p24a p24b T24
  have Z24 := Lib.hid hz24
  clear hz24 P24
  obtain ⟨A32, P32, s32, -⟩ := HB.out.part 32 40 (by omega) (by rw [HN.out]; omega)
  rw [HN.out] at s32
  have s32 : ∀ w : World, (Instr.slice 39 (.slice (some ⟨g, off, none⟩) n cap) (some (.int .i64 32)) (some (.int .i64 40)) none).run Try.prog w = .ok (.slice A32 8 (cap - 32)) w := s32
  have p32 := QB 32 8 (by omega)
  rw [pow8] at p32
  obtain ⟨p32a, p32b⟩ := p32
  have T32 := Lib.hid (fun w (k : Mo W w) => of20_any A32 8 (cap - 32) ((bs.drop 32).take 8) w (by rw [List.length_take, List.length_drop, HN.out]; omega) (P32.mo k) (by omega))
  obtain ⟨z32, hz32⟩ : ∃ z, ofB ((bs.drop 32).take 8) = z := ⟨_, rfl⟩
  rw [hz32] at p32a p32b T32
  have Z32 := Lib.hid hz32
  clear hz32 P32
  obtain ⟨A40, P40, s40, -⟩ := HB.out.part 40 48 (by omega) (by rw [HN.out]; omega)
  rw [HN.out] at s40
  have s40 : ∀ w : World, (Instr.slice 39 (.slice (some ⟨g, off, none⟩) n cap) (some (.int .i64 40)) (some (.int .i64 48)) none).run Try.prog w = .ok (.slice A40 8 (cap - 40)) w := s40
  have p40 := QB 40 8 (by omega)
  rw [pow8] at p40
  obtain ⟨p40a, p40b⟩ := p40
  have T40 := Lib.hid (fun w (k : Mo W w) => of20_any A40 8 (cap - 40) ((bs.drop 40).take 8) w (by rw [List.length_take, List.length_drop, HN.out]; omega) (P40.mo k) (by omega))
  obtain ⟨z40, hz40⟩ : ∃ z, ofB ((bs.drop 40).take 8) = z := ⟨_, rfl⟩
  rw [hz40] at p40a p40b T40
  have Z40 := Lib.hid hz40
  clear hz40 P40
  clear QB
  generalize wc = V0 at *
  go_wp2_with fail
  refine (T4.out _ MV).mono ?_
  rintro e w' ⟨rfl, rfl⟩
  go_wp2_with fail
  refine (T8.out _ (mo_setCell MV (g := W.heap.size + 1) (by omega) _ _)).mono ?_
  rintro e w' ⟨rfl, rfl⟩
  go_upto_region 4 with (fail)
  refine wp_name ?_
  intro V1 hV1
  have M1 : Mo W V1 := by rw [hV1]; exact mo_setCell (mo_setCell MV (g := W.heap.size + 1) (by omega) _ _) (g := W.heap.size + 1) (by omega) _ _
  have Br1 : Blk V1 W.heap.size 63 (hdC hd0) := by rw [hV1]; exact blk_setCell_ne (blk_setCell_ne Br (g := W.heap.size + 1) (by omega) _ _) (g := W.heap.size + 1) (by omega) _ _
  have Bh1 : Blk V1 (W.heap.size + 1) 63 (hdC ⟨b0 / 64, b0 / 8 % 8, b0 % 8, b1, sgn8 b2, sgn8 b3, z4, z8, 0, 0, 0, 0, 0, 0, 0, 0⟩) := by rw [hV1]; exact blk_setCell (blk_setCell Bh 6 _) 7 _
  clear hV1 Br Bh MV
  have d12 : V1.cell? ⟨g, off + 12, none⟩ = some (.int .u8 e12) := by rw [M1.cell]; exact c12
  have d13 : V1.cell? ⟨g, off + 13, none⟩ = some (.int .u8 e13) := by rw [M1.cell]; exact c13
  have d14 : V1.cell? ⟨g, off + 14, none⟩ = some (.int .u8 e14) := by rw [M1.cell]; exact c14
  have d15 : V1.cell? ⟨g, off + 15, none⟩ = some (.int .u8 e15) := by rw [M1.cell]; exact c15
  go_cut [3] (fun sx wx => sx = .pointer (some ⟨W.heap.size + 1, 0, none⟩) ∧ Mo W wx ∧ Blk wx W.heap.size 63 (hdC hd0) ∧ Blk wx (W.heap.size + 1) 63 (hdC ⟨b0 / 64, b0 / 8 % 8, b0 % 8, b1, sgn8 b2, sgn8 b3, z4, z8, e12, e13, e14, e15, 0, 0, 0, 0⟩))
  case first =>
    go_region_held3 (fun w' => w'.cell? ⟨g, off + 12, none⟩ = some (.int .u8 e12) ∧ w'.cell? ⟨g, off + 13, none⟩ = some (.int .u8 e13) ∧ w'.cell? ⟨g, off + 14, none⟩ = some (.int .u8 e14) ∧ w'.cell? ⟨g, off + 15, none⟩ = some (.int .u8 e15)) (simp [go_sem, d12, d13, d14, d15]) (fail)
    all_goals
      go_wp2_with fail
      go_meet
      refine ⟨rfl, ?_, ?_, ?_⟩
      · exact (mo_setCell (mo_setCell (mo_setCell (mo_setCell M1 (g := W.heap.size + 1) (by omega) 8 (.int .u8 e12)) (g := W.heap.size + 1) (by omega) 9 (.int .u8 e13)) (g := W.heap.size + 1) (by omega) 10 (.int .u8 e14)) (g := W.heap.size + 1) (by omega) 11 (.int .u8 e15)).trans Mor.out
      · exact ⟨(blk_setCell_ne (blk_setCell_ne (blk_setCell_ne (blk_setCell_ne Br1 (g := W.heap.size + 1) (by omega) 8 (.int .u8 e12)) (g := W.heap.size + 1) (by omega) 9 (.int .u8 e13)) (g := W.heap.size + 1) (by omega) 10 (.int .u8 e14)) (g := W.heap.size + 1) (by omega) 11 (.int .u8 e15)).out⟩
      · exact ⟨(blk_setCell (blk_setCell (blk_setCell (blk_setCell Bh1 8 (.int .u8 e12)) 9 (.int .u8 e13)) 10 (.int .u8 e14)) 11 (.int .u8 e15)).out⟩
  obtain ⟨rfl, M2, Br2, Bh2⟩ := hcut
  clear M1 Br1 Bh1 d12 d13 d14 d15 c12 c13 c14 c15
  generalize wc = V2 at *
  as_aux_lemma =>
    go_wp2_with fail
    refine (T16.out _ M2).mono ?_
    rintro e w' ⟨rfl, rfl⟩
    go_wp2_with fail
    refine (T24.out _ (mo_setCell M2 (g := W.heap.size + 1) (by omega) _ _)).mono ?_
    rintro e w' ⟨rfl, rfl⟩
    go_wp2_with fail
    refine (T32.out _ (mo_setCell (mo_setCell M2 (g := W.heap.size + 1) (by omega) _ _) (g := W.heap.size + 1) (by omega) _ _)).mono ?_
    rintro e w' ⟨rfl, rfl⟩
    go_wp2_with fail
    refine (T40.out _ (mo_setCell (mo_setCell (mo_setCell M2 (g := W.heap.size + 1) (by omega) _ _) (g := W.heap.size + 1) (by omega) _ _) (g := W.heap.size + 1) (by omega) _ _)).mono ?_
    rintro e w' ⟨rfl, rfl⟩
    go_upto_region 9 with (fail)
    refine wp_name ?_
    intro V3 hV3
    have M3 : Mo W V3 := by rw [hV3]; exact mo_setCell (mo_setCell (mo_setCell (mo_setCell M2 (g := W.heap.size + 1) (by omega) _ _) (g := W.heap.size + 1) (by omega) _ _) (g := W.heap.size + 1) (by omega) _ _) (g := W.heap.size + 1) (by omega) _ _
    have Br3 : Blk V3 W.heap.size 63 (hdC hd0) := by rw [hV3]; exact blk_setCell_ne (blk_setCell_ne (blk_setCell_ne (blk_setCell_ne Br2 (g := W.heap.size + 1) (by omega) _ _) (g := W.heap.size + 1) (by omega) _ _) (g := W.heap.size + 1) (by omega) _ _) (g := W.heap.size + 1) (by omega) _ _
    have Bh3 : Blk V3 (W.heap.size + 1) 63 (hdC ⟨b0 / 64, b0 / 8 % 8, b0 % 8, b1, sgn8 b2, sgn8 b3, z4, z8, e12, e13, e14, e15, z16, z24, z32, z40⟩) := by rw [hV3]; exact blk_setCell (blk_setCell (blk_setCell (blk_setCell Bh2 12 _) 13 _) 14 _) 15 _
    clear hV3 M2 Br2 Bh2 T4 T8 T16 T24 T32 T40
    as_aux_lemma =>
      obtain ⟨V4, hV4⟩ : ∃ V4, V3.setRow W.heap.size (hdC ⟨b0 / 64, b0 / 8 % 8, b0 % 8, b1, sgn8 b2, sgn8 b3, z4, z8, e12, e13, e14, e15, z16, z24, z32, z40⟩) = V4 := ⟨_, rfl⟩
      have M4 : Mo W V4 := by rw [← hV4]; exact mo_setRow M3 (Nat.le_refl _) _
      have Br4 : Blk V4 W.heap.size 63 (hdC ⟨b0 / 64, b0 / 8 % 8, b0 % 8, b1, sgn8 b2, sgn8 b3, z4, z8, e12, e13, e14, e15, z16, z24, z32, z40⟩) := by rw [← hV4]; exact blk_setRow Br3
      go_wp2_with fail
      refine bodyPost_ret (v := hdV ⟨b0 / 64, b0 / 8 % 8, b0 % 8, b1, sgn8 b2, sgn8 b3, z4, z8, e12, e13, e14, e15, z16, z24, z32, z40⟩) (by simp [results, Try.results97, go_sem]) rfl ?_
      refine ⟨?_, M4⟩
      unfold hdOf
      rw [H0.out, H1.out, H2.out, H3.out, Z4.out, Z8.out, Z16.out, Z24.out, Z32.out, Z40.out, E12.out, E13.out, E14.out, E15.out]
end Go.Proofs.Ytcflebggepmmcaa
/- The reference's header: its bytes. -/
namespace Go.Proofs.Ytcflebggepmmcaa
open Go.RowKit

set_option maxRecDepth 20000 in
theorem blk_grown {w w' : World} {v : Value} {k : Nat} {t : TypeId} {cs : Array Value} (h : Blk w k t cs) (g : w.grownBy w' v.ownBlock) (ne : v.ownBlock ≠ some k) : Blk w' k t cs := ⟨(g.block k h.lt (fun e => ne e.symm)).trans h.out⟩
set_option maxRecDepth 20000 in
theorem number4_any (x : Int) (W : World) (hx : 0 ≤ x ∧ x ≤ 18446744073709551615) :
    Calls Try.prog 80 #[.int .u64 x, .int .i64 4] W fun e w' => e = .returned (.slice (some ⟨W.heap.size, 0, none⟩) 4 4) ∧ Blk w' W.heap.size 5 (byteL (be 4 x)).toArray ∧ Mo W w' := number_any x 4 W hx (by omega)
set_option maxRecDepth 20000 in
theorem number8_any (x : Int) (W : World) (hx : 0 ≤ x ∧ x ≤ 18446744073709551615) :
    Calls Try.prog 80 #[.int .u64 x, .int .i64 8] W fun e w' => e = .returned (.slice (some ⟨W.heap.size, 0, none⟩) 8 8) ∧ Blk w' W.heap.size 5 (byteL (be 8 x)).toArray ∧ Mo W w' := number_any x 8 W hx (by omega)
attribute [local go_sem] blk_cell' blk_frozen'
attribute [local go_sem ↓] app_fold
set_option maxRecDepth 20000 in
set_option maxHeartbeats 8000000 in
theorem refPut20_any (h : Hd) (ok : HdOk h) (may : mayH h = true) (W : World) :
    Calls Try.prog 47 #[hdV h] W fun e w' => ∃ v, e = .returned v ∧ w'.ownsRow W.heap.size 5 1 v 48 (byteL (hdB h)) ∧ Mo W w' := by
  have OK := Lib.hid ok
  have MAY := Lib.hid may
  clear ok may
  go_enter Try.func47, Try.ntmps47
  go_upto_region 1 with (fail)
  have k1 := OK.out.l
  have k2 := OK.out.v
  have k3 := OK.out.m
  have k4 := OK.out.po
  have k5 := OK.out.pr
  have mm := MAY.out
  unfold mayH at mm
  simp only [Bool.and_eq_true, decide_eq_true_eq] at mm
  obtain ⟨⟨m1, m2⟩, m3⟩ := mm
  have s1 : IntKind.u8.wrap (64 * h.l) = 64 * h.l := by rw [IntKind.wrap_u8]; omega
  have s2 : IntKind.u8.wrap (8 * h.v) = 8 * h.v := by rw [IntKind.wrap_u8]; omega
  have s3 : IntKind.u8.wrap (64 * h.l + 8 * h.v) = 64 * h.l + 8 * h.v := by rw [IntKind.wrap_u8]; omega
  have s4 : IntKind.u8.wrap (64 * h.l + 8 * h.v + h.m) = 64 * h.l + 8 * h.v + h.m := by rw [IntKind.wrap_u8]; omega
  refine wp_name ?_
  intro V hV
  have MV : Mo W V := by rw [hV]; exact Mor.out
  have BV : Blk V W.heap.size 63 (hdC h) := by rw [hV]; infer_instance
  have y0 : V.cell? ⟨W.heap.size, 0, none⟩ = some (.int .u8 h.l) := by rw [blk_cell BV]; rfl
  have y1 : V.cell? ⟨W.heap.size, 1, none⟩ = some (.int .u8 h.v) := by rw [blk_cell BV]; rfl
  have y2 : V.cell? ⟨W.heap.size, 2, none⟩ = some (.int .u8 h.m) := by rw [blk_cell BV]; rfl
  have y3 : V.cell? ⟨W.heap.size, 3, none⟩ = some (.int .u8 h.s) := by rw [blk_cell BV]; rfl
  have y4 : V.cell? ⟨W.heap.size, 4, none⟩ = some (.int .i8 h.po) := by rw [blk_cell BV]; rfl
  have y5 : V.cell? ⟨W.heap.size, 5, none⟩ = some (.int .i8 h.pr) := by rw [blk_cell BV]; rfl
  clear hV
  have PL1 := Lib.hid (fun w => plain_any h.po k4.1 k4.2 w)
  have PL2 := Lib.hid (fun w => plain_any h.pr k5.1 k5.2 w)
  go_region_held3 (fun w' => w'.cell? ⟨W.heap.size, 0, none⟩ = some (.int .u8 h.l) ∧ w'.cell? ⟨W.heap.size, 1, none⟩ = some (.int .u8 h.v) ∧ w'.cell? ⟨W.heap.size, 2, none⟩ = some (.int .u8 h.m) ∧ w'.cell? ⟨W.heap.size, 3, none⟩ = some (.int .u8 h.s) ∧ w'.cell? ⟨W.heap.size, 4, none⟩ = some (.int .i8 h.po) ∧ w'.cell? ⟨W.heap.size, 5, none⟩ = some (.int .i8 h.pr)) (simp [go_sem, y0, y1, y2, y3, y4, y5])
    (first | ((with_reducible refine (PL1.out _).mono ?_); rintro e w' ⟨rfl, rfl⟩) | ((with_reducible refine (PL2.out _).mono ?_); rintro e w' ⟨rfl, rfl⟩))
  -- BEHIND
  rename_i hHeld
  clear hHeld y0 y1 y2 y3 y4 y5 s1 s2 s3 s4 PL1 PL2
  have MP := MV.trans (Mor.out : Mo V ((V.alloc (.cells #[.int .u8 (64 * h.l + 8 * h.v + h.m), .int .u8 h.s, .int .u8 (h.po % 256), .int .u8 (h.pr % 256)] 5)).drew))
  have OP : ((V.alloc (.cells #[.int .u8 (64 * h.l + 8 * h.v + h.m), .int .u8 h.s, .int .u8 (h.po % 256), .int .u8 (h.pr % 256)] 5)).drew).ownsRow W.heap.size 5 1 (.slice (some ⟨V.heap.size, 0, none⟩) 4 4) 4 (byteL [h.l * 64 + h.v * 8 + h.m, h.s, h.po % 256, h.pr % 256]) := by
    rw [show h.l * 64 + h.v * 8 + h.m = 64 * h.l + 8 * h.v + h.m by omega]
    exact owns_of_blk (g := V.heap.size) inferInstance rfl MV.size (by omega)
  have BP : Blk ((V.alloc (.cells #[.int .u8 (64 * h.l + 8 * h.v + h.m), .int .u8 h.s, .int .u8 (h.po % 256), .int .u8 (h.pr % 256)] 5)).drew) W.heap.size 63 (hdC h) := inferInstance
  generalize ((V.alloc (.cells #[.int .u8 (64 * h.l + 8 * h.v + h.m), .int .u8 h.s, .int .u8 (h.po % 256), .int .u8 (h.pr % 256)] 5)).drew) = V1 at *
  generalize (Value.slice (some ⟨V.heap.size, 0, none⟩) 4 4) = v1 at *
  clear BV MV
  have r2a : IntKind.u64.wrap h.rd = h.rd := by rw [IntKind.wrap_u64]; have := OK.out.rd; omega
  have r2b : IntKind.u64.wrap h.rp = h.rp := by rw [IntKind.wrap_u64]; have := OK.out.rp; omega
  have N1 := Lib.hid (fun w => number4_any h.rd w ⟨OK.out.rd.1, Int.le_trans OK.out.rd.2 (by decide)⟩)
  have N2 := Lib.hid (fun w => number4_any h.rp w ⟨OK.out.rp.1, Int.le_trans OK.out.rp.2 (by decide)⟩)
  have OW := Lib.hid OP
  have y0 : V1.cell? ⟨W.heap.size, 6, none⟩ = some (.int .u32 h.rd) := by rw [blk_cell BP]; rfl
  have y1 : V1.cell? ⟨W.heap.size, 7, none⟩ = some (.int .u32 h.rp) := by rw [blk_cell BP]; rfl
  clear OP
  go_upto_region 2 with (fail)
  go_cut [3] (fun sx wx => wx.ownsRow W.heap.size 5 1 sx 12 (byteL ([h.l * 64 + h.v * 8 + h.m, h.s, h.po % 256, h.pr % 256] ++ be 4 h.rd ++ be 4 h.rp)) ∧ Mo W wx ∧ Blk wx W.heap.size 63 (hdC h))
  case first =>
    obtain ⟨tb, hib, hb0, hb1, hb2⟩ := info_parts infoB
    go_region_held3 (fun w' => w'.cell? ⟨W.heap.size, 6, none⟩ = some (.int .u32 h.rd) ∧ w'.cell? ⟨W.heap.size, 7, none⟩ = some (.int .u32 h.rp)) (first | (simp [go_sem, y0, y1]; done) | (simp [go_sem, zA0, zA1]; done) | (simp [go_sem, zB0, zB1]; done) | (simp [go_sem, zC0, zC1]; done) | (simp [go_sem, zD0, zD1]; done))
      (first
        | ((with_reducible refine (N1.out _).mono ?_)
           rintro e wa ⟨rfl, Ba, Ma⟩
           have Ma' := Mo.trans (Mor.out : Mo V1 _) Ma
           have MA := MP.trans Ma'
           have OA := owns_mo OW.out Ma'
           have HA := Ma'.blk BP
           have zA0 : wa.cell? ⟨W.heap.size, 6, none⟩ = some (.int .u32 h.rd) := by rw [blk_cell HA]; rfl
           have zA1 : wa.cell? ⟨W.heap.size, 7, none⟩ = some (.int .u32 h.rp) := by rw [blk_cell HA]; rfl)
        | ((with_reducible refine (N2.out _).mono ?_)
           rintro e wb ⟨rfl, Bb, Mb⟩
           first
             | (have MB := MC.trans Mb
                have OB := owns_mo OC Mb
                have HB := Mb.blk HC)
             | (have MB := MA.trans Mb
                have OB := owns_mo OA Mb
                have HB := Mb.blk HA
                have Ba2 := Mb.blk Ba)
           have zB0 : wb.cell? ⟨W.heap.size, 6, none⟩ = some (.int .u32 h.rd) := by rw [blk_cell HB]; rfl
           have zB1 : wb.cell? ⟨W.heap.size, 7, none⟩ = some (.int .u32 h.rp) := by rw [blk_cell HB]; rfl)
        | (refine step_own (by rfl) (.tmp 23) (.tmp 27) 39 (by rfl) W.heap.size 5 tb (.int .u8 0) 1 1 Try.underlying39 hib hb0 hb1 hb2 rfl (by decide) _ _ _ (by rfl) (by first | exact OB | exact OA) _ 4 4 (byteL (be 4 h.rd)) (by rfl) (by simp [be_len]) (by first | exact news_of_blk Ba2 _ rfl | exact news_of_blk Ba _ rfl) (byteL_one _) (by unfold maxLen; omega) (by omega) (by first | exact MB.size | exact MA.size) ?_
           intro vc wc OC GC
           first
             | (have MC := mo_grown MB GC (fun j e => (OB.lt j e).1)
                have HC := blk_grown HB GC (fun e => (owns_ne_blk OB HB (by decide)) _ e rfl)
                have Bb2 := blk_grown Bb GC (fun e => by have h1 := (OW.out.lt _ e).2; have h2 := Ma'.size; omega))
             | (have MC := mo_grown MA GC (fun j e => (OA.lt j e).1)
                have HC := blk_grown HA GC (fun e => (owns_ne_blk OA HA (by decide)) _ e rfl)))
        | (refine step_own (by rfl) (.tmp 28) (.tmp 32) 39 (by rfl) W.heap.size 5 tb (.int .u8 0) 1 1 Try.underlying39 hib hb0 hb1 hb2 rfl (by decide) _ _ _ (by rfl) (by first | exact OB | exact OC) _ 4 4 (byteL (be 4 h.rp)) (by rfl) (by simp [be_len]) (by first | exact news_of_blk Bb2 _ rfl | exact news_of_blk Bb _ rfl) (byteL_one _) (by unfold maxLen; omega) (by omega) (by first | exact MB.size | exact MC.size) ?_
           intro vd wd OD GD
           first
             | (have MD := mo_grown MB GD (fun j e => (OB.lt j e).1)
                have HD := blk_grown HB GD (fun e => (owns_ne_blk OB HB (by decide)) _ e rfl))
             | (have MD := mo_grown MC GD (fun j e => (OC.lt j e).1)
                have HD := blk_grown HC GD (fun e => (owns_ne_blk OC HC (by decide)) _ e rfl)))
        | fail)
    all_goals
      go_wp2_with fail
      go_meet
      refine ⟨?_, MD, HD⟩
      unfold byteL
      rw [List.map_append, List.map_append]
      exact OD
  obtain ⟨OPx, MPx, BPx⟩ := hcut
  clear N1 N2 OW y0 y1 r2a r2b MP BP
  generalize wc = V2 at *
  have OW3 := Lib.hid OPx
  clear OPx
  have okA := OK.out.a
  have okB := OK.out.b
  have okC := OK.out.c
  have okD := OK.out.d
  have hO := Lib.hid (owns_mo OW3.out (Mor.out : Mo V2 (V2.alloc (.cells #[.int .u8 h.a, .int .u8 h.b, .int .u8 h.c, .int .u8 h.d] 5))))
  have hS := Lib.hid (byteS_blk (w := V2.alloc (.cells #[.int .u8 h.a, .int .u8 h.b, .int .u8 h.c, .int .u8 h.d] 5)) (g := V2.heap.size) inferInstance [h.a, h.b, h.c, h.d] rfl (by intro c hc; simp only [List.mem_cons, List.not_mem_nil, or_false] at hc; rcases hc with rfl | rfl | rfl | rfl <;> omega) (by simp))
  have hZ := MPx.size
  go_wp2_with (at_builtin
               refine wpList_append_bytes rfl (.tmp 34) (.tmp 47) rfl W.heap.size u3 12 _ rfl hO.out (some ⟨V2.heap.size, 0, none⟩) 4 4 [h.a, h.b, h.c, h.d] rfl rfl hS.out (by omega) (by simp; omega) ?_
               intro v3 V3 O3 G3)
  have M3 : Mo W V3 := mo_grown (MPx.trans (Mor.out : Mo V2 (V2.alloc (.cells #[.int .u8 h.a, .int .u8 h.b, .int .u8 h.c, .int .u8 h.d] 5)))) G3 (fun j e => (OW3.out.lt j e).1)
  have B3 : Blk V3 W.heap.size 63 (hdC h) := blk_grown (v := u3) (w := V2.alloc (.cells #[.int .u8 h.a, .int .u8 h.b, .int .u8 h.c, .int .u8 h.d] 5)) inferInstance G3 (fun e => owns_ne_blk OW3.out BPx (by decide) _ e rfl)
  have O3p : V3.ownsRow W.heap.size 5 1 v3 16 (byteL ([h.l * 64 + h.v * 8 + h.m, h.s, h.po % 256, h.pr % 256] ++ be 4 h.rd ++ be 4 h.rp ++ [h.a, h.b, h.c, h.d])) := by
    unfold byteL at O3 ⊢
    rw [List.map_append (l₂ := [h.a, h.b, h.c, h.d])]
    exact O3
  clear O3 G3 OW3 MPx BPx
  have r4a : IntKind.u64.wrap h.f = h.f := by rw [IntKind.wrap_u64]; have := OK.out.f; omega
  have r4b : IntKind.u64.wrap h.o = h.o := by rw [IntKind.wrap_u64]; have := OK.out.o; omega
  have N1 := Lib.hid (fun w => number8_any h.f w ⟨OK.out.f.1, Int.le_trans OK.out.f.2 (by decide)⟩)
  have N2 := Lib.hid (fun w => number8_any h.o w ⟨OK.out.o.1, Int.le_trans OK.out.o.2 (by decide)⟩)
  have OW := Lib.hid O3p
  have y0 : V3.cell? ⟨W.heap.size, 12, none⟩ = some (.int .u64 h.f) := by rw [blk_cell B3]; rfl
  have y1 : V3.cell? ⟨W.heap.size, 13, none⟩ = some (.int .u64 h.o) := by rw [blk_cell B3]; rfl
  clear O3p
  go_upto_region 4 with (fail)
  go_cut [3] (fun sx wx => wx.ownsRow W.heap.size 5 1 sx 32 (byteL ([h.l * 64 + h.v * 8 + h.m, h.s, h.po % 256, h.pr % 256] ++ be 4 h.rd ++ be 4 h.rp ++ [h.a, h.b, h.c, h.d] ++ be 8 h.f ++ be 8 h.o)) ∧ Mo W wx ∧ Blk wx W.heap.size 63 (hdC h))
  case first =>
    obtain ⟨tb, hib, hb0, hb1, hb2⟩ := info_parts infoB
    go_region_held3 (fun w' => w'.cell? ⟨W.heap.size, 12, none⟩ = some (.int .u64 h.f) ∧ w'.cell? ⟨W.heap.size, 13, none⟩ = some (.int .u64 h.o)) (first | (simp [go_sem, y0, y1]; done) | (simp [go_sem, zA0, zA1]; done) | (simp [go_sem, zB0, zB1]; done) | (simp [go_sem, zC0, zC1]; done) | (simp [go_sem, zD0, zD1]; done))
      (first
        | ((with_reducible refine (N1.out _).mono ?_)
           rintro e wa ⟨rfl, Ba, Ma⟩
           have Ma' := Mo.trans (Mor.out : Mo V3 _) Ma
           have MA := M3.trans Ma'
           have OA := owns_mo OW.out Ma'
           have HA := Ma'.blk B3
           have zA0 : wa.cell? ⟨W.heap.size, 12, none⟩ = some (.int .u64 h.f) := by rw [blk_cell HA]; rfl
           have zA1 : wa.cell? ⟨W.heap.size, 13, none⟩ = some (.int .u64 h.o) := by rw [blk_cell HA]; rfl)
        | ((with_reducible refine (N2.out _).mono ?_)
           rintro e wb ⟨rfl, Bb, Mb⟩
           first
             | (have MB := MC.trans Mb
                have OB := owns_mo OC Mb
                have HB := Mb.blk HC)
             | (have MB := MA.trans Mb
                have OB := owns_mo OA Mb
                have HB := Mb.blk HA
                have Ba2 := Mb.blk Ba)
           have zB0 : wb.cell? ⟨W.heap.size, 12, none⟩ = some (.int .u64 h.f) := by rw [blk_cell HB]; rfl
           have zB1 : wb.cell? ⟨W.heap.size, 13, none⟩ = some (.int .u64 h.o) := by rw [blk_cell HB]; rfl)
        | (refine step_own (by rfl) (.tmp 49) (.tmp 52) 39 (by rfl) W.heap.size 5 tb (.int .u8 0) 1 1 Try.underlying39 hib hb0 hb1 hb2 rfl (by decide) _ _ _ (by rfl) (by first | exact OB | exact OA) _ 8 8 (byteL (be 8 h.f)) (by rfl) (by simp [be_len]) (by first | exact news_of_blk Ba2 _ rfl | exact news_of_blk Ba _ rfl) (byteL_one _) (by unfold maxLen; omega) (by omega) (by first | exact MB.size | exact MA.size) ?_
           intro vc wc OC GC
           first
             | (have MC := mo_grown MB GC (fun j e => (OB.lt j e).1)
                have HC := blk_grown HB GC (fun e => (owns_ne_blk OB HB (by decide)) _ e rfl)
                have Bb2 := blk_grown Bb GC (fun e => by have h1 := (OW.out.lt _ e).2; have h2 := Ma'.size; omega))
             | (have MC := mo_grown MA GC (fun j e => (OA.lt j e).1)
                have HC := blk_grown HA GC (fun e => (owns_ne_blk OA HA (by decide)) _ e rfl)))
        | (refine step_own (by rfl) (.tmp 53) (.tmp 56) 39 (by rfl) W.heap.size 5 tb (.int .u8 0) 1 1 Try.underlying39 hib hb0 hb1 hb2 rfl (by decide) _ _ _ (by rfl) (by first | exact OB | exact OC) _ 8 8 (byteL (be 8 h.o)) (by rfl) (by simp [be_len]) (by first | exact news_of_blk Bb2 _ rfl | exact news_of_blk Bb _ rfl) (byteL_one _) (by unfold maxLen; omega) (by omega) (by first | exact MB.size | exact MC.size) ?_
           intro vd wd OD GD
           first
             | (have MD := mo_grown MB GD (fun j e => (OB.lt j e).1)
                have HD := blk_grown HB GD (fun e => (owns_ne_blk OB HB (by decide)) _ e rfl))
             | (have MD := mo_grown MC GD (fun j e => (OC.lt j e).1)
                have HD := blk_grown HC GD (fun e => (owns_ne_blk OC HC (by decide)) _ e rfl)))
        | fail)
    all_goals
      go_wp2_with fail
      go_meet
      refine ⟨?_, MD, HD⟩
      unfold byteL
      rw [List.map_append, List.map_append]
      exact OD
  obtain ⟨O3px, M3x, B3x⟩ := hcut
  clear N1 N2 OW y0 y1 r4a r4b M3 B3
  generalize wc = V4 at *
  have r5a : IntKind.u64.wrap h.r = h.r := by rw [IntKind.wrap_u64]; have := OK.out.r; omega
  have r5b : IntKind.u64.wrap h.x = h.x := by rw [IntKind.wrap_u64]; have := OK.out.x; omega
  have N1 := Lib.hid (fun w => number8_any h.r w ⟨OK.out.r.1, Int.le_trans OK.out.r.2 (by decide)⟩)
  have N2 := Lib.hid (fun w => number8_any h.x w ⟨OK.out.x.1, Int.le_trans OK.out.x.2 (by decide)⟩)
  have OW := Lib.hid O3px
  have y0 : V4.cell? ⟨W.heap.size, 14, none⟩ = some (.int .u64 h.r) := by rw [blk_cell B3x]; rfl
  have y1 : V4.cell? ⟨W.heap.size, 15, none⟩ = some (.int .u64 h.x) := by rw [blk_cell B3x]; rfl
  clear O3px
  go_upto_region 5 with (fail)
  go_cut [2] (fun sx wx => wx.ownsRow W.heap.size 5 1 sx 48 (byteL ([h.l * 64 + h.v * 8 + h.m, h.s, h.po % 256, h.pr % 256] ++ be 4 h.rd ++ be 4 h.rp ++ [h.a, h.b, h.c, h.d] ++ be 8 h.f ++ be 8 h.o ++ be 8 h.r ++ be 8 h.x)) ∧ Mo W wx ∧ Blk wx W.heap.size 63 (hdC h))
  case first =>
    obtain ⟨tb, hib, hb0, hb1, hb2⟩ := info_parts infoB
    go_region_held3 (fun w' => w'.cell? ⟨W.heap.size, 14, none⟩ = some (.int .u64 h.r) ∧ w'.cell? ⟨W.heap.size, 15, none⟩ = some (.int .u64 h.x)) (first | (simp [go_sem, y0, y1]; done) | (simp [go_sem, zA0, zA1]; done) | (simp [go_sem, zB0, zB1]; done) | (simp [go_sem, zC0, zC1]; done) | (simp [go_sem, zD0, zD1]; done))
      (first
        | ((with_reducible refine (N1.out _).mono ?_)
           rintro e wa ⟨rfl, Ba, Ma⟩
           have Ma' := Mo.trans (Mor.out : Mo V4 _) Ma
           have MA := M3x.trans Ma'
           have OA := owns_mo OW.out Ma'
           have HA := Ma'.blk B3x
           have zA0 : wa.cell? ⟨W.heap.size, 14, none⟩ = some (.int .u64 h.r) := by rw [blk_cell HA]; rfl
           have zA1 : wa.cell? ⟨W.heap.size, 15, none⟩ = some (.int .u64 h.x) := by rw [blk_cell HA]; rfl)
        | ((with_reducible refine (N2.out _).mono ?_)
           rintro e wb ⟨rfl, Bb, Mb⟩
           first
             | (have MB := MC.trans Mb
                have OB := owns_mo OC Mb
                have HB := Mb.blk HC)
             | (have MB := MA.trans Mb
                have OB := owns_mo OA Mb
                have HB := Mb.blk HA
                have Ba2 := Mb.blk Ba)
           have zB0 : wb.cell? ⟨W.heap.size, 14, none⟩ = some (.int .u64 h.r) := by rw [blk_cell HB]; rfl
           have zB1 : wb.cell? ⟨W.heap.size, 15, none⟩ = some (.int .u64 h.x) := by rw [blk_cell HB]; rfl)
        | (refine step_own (by rfl) (.tmp 58) (.tmp 61) 39 (by rfl) W.heap.size 5 tb (.int .u8 0) 1 1 Try.underlying39 hib hb0 hb1 hb2 rfl (by decide) _ _ _ (by rfl) (by first | exact OB | exact OA) _ 8 8 (byteL (be 8 h.r)) (by rfl) (by simp [be_len]) (by first | exact news_of_blk Ba2 _ rfl | exact news_of_blk Ba _ rfl) (byteL_one _) (by unfold maxLen; omega) (by omega) (by first | exact MB.size | exact MA.size) ?_
           intro vc wc OC GC
           first
             | (have MC := mo_grown MB GC (fun j e => (OB.lt j e).1)
                have HC := blk_grown HB GC (fun e => (owns_ne_blk OB HB (by decide)) _ e rfl)
                have Bb2 := blk_grown Bb GC (fun e => by have h1 := (OW.out.lt _ e).2; have h2 := Ma'.size; omega))
             | (have MC := mo_grown MA GC (fun j e => (OA.lt j e).1)
                have HC := blk_grown HA GC (fun e => (owns_ne_blk OA HA (by decide)) _ e rfl)))
        | (refine step_own (by rfl) (.tmp 62) (.tmp 65) 39 (by rfl) W.heap.size 5 tb (.int .u8 0) 1 1 Try.underlying39 hib hb0 hb1 hb2 rfl (by decide) _ _ _ (by rfl) (by first | exact OB | exact OC) _ 8 8 (byteL (be 8 h.x)) (by rfl) (by simp [be_len]) (by first | exact news_of_blk Bb2 _ rfl | exact news_of_blk Bb _ rfl) (byteL_one _) (by unfold maxLen; omega) (by omega) (by first | exact MB.size | exact MC.size) ?_
           intro vd wd OD GD
           first
             | (have MD := mo_grown MB GD (fun j e => (OB.lt j e).1)
                have HD := blk_grown HB GD (fun e => (owns_ne_blk OB HB (by decide)) _ e rfl))
             | (have MD := mo_grown MC GD (fun j e => (OC.lt j e).1)
                have HD := blk_grown HC GD (fun e => (owns_ne_blk OC HC (by decide)) _ e rfl)))
        | fail)
    all_goals
      go_wp2_with fail
      go_meet
      refine ⟨?_, MD, HD⟩
      unfold byteL
      rw [List.map_append, List.map_append]
      exact OD
  obtain ⟨O3pxx, M3xx, B3xx⟩ := hcut
  clear N1 N2 OW y0 y1 r5a r5b M3x B3x
  generalize wc = V5 at *
  have OF := Lib.hid O3pxx
  clear O3pxx
  go_wp2_with fail
  go_ret
  exact ⟨_, rfl, OF.out, M3xx⟩
end Go.Proofs.Ytcflebggepmmcaa
/- horologeref21.Put: the reference's Put. -/
namespace Go.Proofs.Ytcflebggepmmcaa
open Go.RowKit

set_option maxRecDepth 20000 in
set_option maxHeartbeats 1000000 in
theorem refPut_long (A A' : Option Addr) (n m cap cap' : Nat) (l : List Fld) (mac : List Int) (W : World) (hn : l.length = n) (hl : 32 < n) (hlim : n ≤ 4398046511104) :
    Calls Try.prog 46 #[.slice A n cap, .slice A' m cap'] W (PutRet (refPutM l mac) W) := by
  have hp : refPutM l mac = ([], 3) := by unfold refPutM; rw [if_pos (by omega)]
  rw [hp]
  clear hp hn
  go_enter Try.func46, Try.ntmps46
  go_wp2_with fail
  go_ret2
  exact ⟨_, rfl, byteV_nil W, Mor.out⟩
set_option maxRecDepth 20000 in
set_option maxHeartbeats 4000000 in
theorem refPut_any (A A' : Option Addr) (n m cap cap' : Nat) (l : List Fld) (mac : List Int) (W : World) (hn : l.length = n) (hm : mac.length = m) (h : ExtS W A cap l) (h' : ByteS W A' cap' mac) (hl : n ≤ 32) (ht : totM l + m ≤ 100000) :
    Calls Try.prog 46 #[.slice A n cap, .slice A' m cap'] W (PutRet (refPutM l mac) W) := by
  obtain ⟨r, hr⟩ : ∃ r, refPutM l mac = r := ⟨_, rfl⟩
  rw [hr]
  unfold refPutM at hr
  rw [if_neg (by omega)] at hr
  have RR := Lib.hid hr
  have BY := Lib.hid (bytes_any A A' n m cap cap' l mac W hn hm h h' hl ht)
  have HN := Lib.hid hn
  have HM := Lib.hid hm
  have HB := Lib.hid h
  have HC := Lib.hid h'
  have hlen := encM_len l
  have HE := Lib.hid hlen
  clear hr hn hm h h' hlen
  go_enter Try.func46, Try.ntmps46
  go_wp2_with fail
  refine BY.out.mono ?_
  rintro e w1 ⟨v, rfl, hv, M1⟩
  obtain ⟨A1, c1, rfl, hb1⟩ := hv
  by_cases cb : l.any big = true
  · have hr := RR.out
    rw [if_pos cb] at hr
    subst hr
    rw [cb, if_pos rfl]
    clear RR BY hb1
    go_wp2_with fail
    go_ret2
    exact ⟨_, rfl, byteV_nil _, M1⟩
  · have hr := RR.out
    rw [if_neg cb] at hr
    have cb' : l.any big = false := by simpa using cb
    rw [cb', if_neg (by decide)]
    rw [if_neg cb] at hb1
    have RR2 := Lib.hid hr
    have hlm : (encM l ++ mac).length = totM l + m := by rw [List.length_append, HE.out, HM.out]
    rw [hlm]
    obtain ⟨b, hb⟩ : ∃ b, encM l ++ mac = b := ⟨_, rfl⟩
    rw [hb] at hlm hb1
    have HBB := Lib.hid hb1
    have HLM := Lib.hid hlm
    have HBE := Lib.hid hb
    have RD := Lib.hid (fun w (k : Mo w1 w) => read_any A1 c1 (totM l + m) b w hlm (hb1.mo k) (by omega))
    clear hr RR BY hb1 hlm cb cb' hb
    go_wp2_with fail
    refine (RD.out _ (Mo.refl _)).mono ?_
    rintro e w2 ⟨D1, d1, D2, d2, D3, d3, q3, rfl, x1, x2, x3, M2⟩
    obtain ⟨A4, c4, e4, hb4⟩ := x1
    obtain ⟨A5, c5, e5, hb5⟩ := x3
    have hm : (if (nextM (tailOf b)).1 = 1 then tailOf b else []) = macM b := rfl
    rw [hm] at e5 hb5
    have ht : (nextM (b.drop (endF b 0))).1 = (nextM (tailOf b)).1 := rfl
    have hr := RR2.out
    rw [HBE.out, ht] at hr
    have RR3 := Lib.hid hr
    clear hr RR2 RD x2 hm ht
    have hlp : ((parse b 0).map fldOf).length = (parse b 0).length := List.length_map ..
    generalize macM b = tm at *
    generalize (parse b 0).map fldOf = tl at *
    generalize (parse b 0).length = n4 at *
    generalize (nextM (tailOf b)).1 = tc at *
    obtain ⟨rfl, rfl⟩ : D1 = A4 ∧ d1 = c4 := by simp at e4; exact ⟨e4.1, e4.2.2⟩
    obtain ⟨rfl, rfl, hq⟩ : D3 = A5 ∧ d3 = c5 ∧ tm.length = q3 := by simp at e5; exact ⟨e5.1, e5.2.2, e5.2.1.symm⟩
    have L4 := hb4.lim
    have L5 := hb5.lim
    rw [hlp] at L4
    rw [hq] at L5
    have hQ := Lib.hid hq
    have H4 := Lib.hid hlp
    have M1' := Lib.hid M1
    have hv0 : ByteV w2 (.slice A1 (totM l + m) c1) b := ⟨A1, c1, by rw [HLM.out], HBB.out.mo M2⟩
    have HV := Lib.hid hv0
    clear hv0
    have EQ := Lib.hid (fun w (q : Mo w2 w) => refSame_any D1 A n4 n d1 cap tl l w H4.out HN.out (hb4.mo q) ((HB.out.mo (M1.trans M2)).mo q))
    have S1 := Lib.hid (fun w (q : Mo w2 w) => str_conv (hb5.mo q) hQ.out)
    have S2 := Lib.hid (fun w (q : Mo w2 w) => str_conv ((HC.out.mo (M1.trans M2)).mo q) HM.out)
    have SE := Lib.hid (strOf_eq hb5.byte HC.out.byte)
    clear e4 e5 hb4 hb5 hq hlp
    by_cases c1 : tc = 3
    · have hr := RR3.out
      rw [if_pos (.inl c1)] at hr
      subst hr
      have c1' : decide (tc = 3) = true := decide_eq_true c1
      rw [c1']
      clear RR3 EQ S1 S2 SE c1 c1'
      go_wp2_with fail
      go_ret2
      exact ⟨_, rfl, byteV_nil _, M1.trans (M2.trans Mor.out)⟩
    · have c1' : decide (tc = 3) = false := decide_eq_false c1
      rw [c1']
      have hr := RR3.out
      have N1 := Lib.hid c1
      clear c1 c1'
      go_wp2_with fail
      refine (EQ.out _ Mor.out).mono ?_
      rintro e w3 ⟨rfl, M3⟩
      have hM3 := Mo.trans (Mor.out : Mo w2 _) M3
      by_cases c2 : tl = l
      · rw [decide_eq_true c2]
        have k3 : w3.cell? ⟨w2.heap.size, 2, none⟩ = some (.slice D3 q3 d3) := by rw [M3.cell]; simp [go_sem]
        have s1 := S1.out _ hM3
        have s2 := S2.out _ hM3
        have s3 := SE.out
        clear S1 S2 SE M3
        by_cases c3 : tm = mac
        · rw [decide_eq_true c3] at s3
          rw [if_neg (fun h => h.elim N1.out (fun h => h.elim (fun h => h c2) (fun h => h c3)))] at hr
          subst hr
          have s4 : (!(strOfNums tm).toList == (strOfNums mac).toList) = false := by rw [s3]; rfl
          clear c2 c3 EQ RR3 HB HC s3
          go_wp2_with fail
          go_ret2
          exact ⟨_, rfl, HV.out.mo hM3, M1.trans (M2.trans hM3)⟩
        · rw [decide_eq_false c3] at s3
          rw [if_pos (.inr (.inr c3))] at hr
          subst hr
          have s4 : (!(strOfNums tm).toList == (strOfNums mac).toList) = true := by rw [s3]; rfl
          clear c2 c3 EQ RR3 HB HC s3
          go_wp2_with fail
          go_ret2
          exact ⟨_, rfl, byteV_nil _, M1.trans (M2.trans hM3)⟩
      · rw [if_pos (.inr (.inl c2))] at hr
        subst hr
        rw [decide_eq_false c2]
        clear c2 S1 S2 SE EQ RR3 HB HC
        go_wp2_with fail
        go_ret2
        exact ⟨_, rfl, byteV_nil _, M1.trans (M2.trans hM3)⟩
end Go.Proofs.Ytcflebggepmmcaa
