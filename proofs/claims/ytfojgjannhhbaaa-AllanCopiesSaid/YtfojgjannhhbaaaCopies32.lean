/- horologelaw32.AllanCopies returns true. -/
import Derived.Test.YtfojgjannhhbaaaPuts32
import Derived.Test.YtfojgjannhhbaaaStraight32
namespace Go.Proofs.Ytfojgjannhhbaaa
open Go.RowKit

theorem rises_len (b : Int) (L : List Slot) : Rises L → ∀ c, b - 1 ≤ c → (∀ s ∈ L, b ≤ s.num ∧ s.num ≤ c) → (L.length : Int) ≤ c - b + 1 := by
  refine snoc_ind (P := fun L => Rises L → ∀ c, b - 1 ≤ c → (∀ s ∈ L, b ≤ s.num ∧ s.num ≤ c) → (L.length : Int) ≤ c - b + 1) ?_ ?_ L
  · intro _ c hc _; simp; omega
  · intro L s ih hr c hc hb
    obtain ⟨h1, _, h3⟩ := List.pairwise_append.1 hr
    have hs := hb s (by simp)
    have := ih h1 (s.num - 1) (by omega) (fun a ha => ⟨(hb a (by simp [ha])).1, by have := h3 a ha s (by simp); omega⟩)
    rw [List.length_append, List.length_singleton]
    omega
theorem live_le {M : List Slot} {k o : Nat} (h : MOk M k) : (liveM M o : Int) ≤ 2 ^ o + 1 := by
  have h2 := two_pow_pos o
  unfold liveM
  rw [List.countP_eq_length_filter]
  by_cases z : M = []
  · subst z; simp; omega
  · obtain ⟨L, s, rfl⟩ := split_last z
    obtain ⟨hL, hs, hl⟩ := snoc_ok h
    rw [(nw_snoc L s).1]
    have := rises_len (s.num - 2 ^ o) ((L ++ [s]).filter (nearTo s.num o)) (List.Pairwise.filter _ h.rises) s.num (by omega) (fun a ha => by
      obtain ⟨h1, h3⟩ := List.mem_filter.1 ha
      unfold nearTo at h3
      rw [decide_eq_true_eq] at h3
      refine ⟨by omega, ?_⟩
      rcases List.mem_append.1 h1 with k | k
      · have := hl a k; omega
      · have : a = s := by simpa using k
        rw [this]; exact Int.le_refl _)
    omega
abbrev X32 : Int := 4294967296
/-- a row of puts is kept by what keeps the world ahead -/
theorem PutRow.cells {W w : World} {A : Option Addr} {l : List Pt} (h : PutRow W A l) (k : Mo W w) : PutRow w A l := h.mo k

set_option maxRecDepth 20000 in
set_option maxHeartbeats 4000000 in
theorem copies32_some (A : Option Addr) (l : List Pt) (cap : Nat) (oc at_ : Int) (W : World) (hl : l.length ≤ 100) (hlc : l.length ≤ cap) (c1 : 0 ≤ oc) (c2 : oc ≤ 255) (d1 : 0 ≤ at_) (d2 : at_ ≤ 255) (hR : PutRow W A l) :
    Calls Try.prog 7 #[.slice A l.length cap, .int .u8 oc, .int .u8 at_] W fun e w' => e = .returned (.bool true) ∧ Mo W w' := by
  obtain ⟨o, ho⟩ : ∃ o : Nat, (1 + oc % 10 : Int) = o := ⟨(1 + oc % 10).toNat, by omega⟩
  have o1 : 1 ≤ o := by omega
  have o2 : o ≤ 10 := by omega
  have OK := Lib.hid (fun k => putF_ok X32 (l.take k))
  have TK := Lib.hid (putF_take X32 l)
  have HR := Lib.hid hR
  clear hR
  obtain ⟨n, hn⟩ : ∃ n, l.length = n := ⟨_, rfl⟩
  rw [hn] at hl hlc ⊢
  have HN := Lib.hid hn
  clear hn
  obtain ⟨k, hk⟩ : ∃ k : Nat, min at_ (n : Int) = (k : Int) := ⟨(min at_ (n : Int)).toNat, by omega⟩
  have kn : k ≤ n := by omega
  have hk0 : max (k : Int) 0 = k := by omega
  have hsz : ∀ w : World, (sizeOf (Try.prog.elem 22)).run Try.prog w = .ok 4 w := fun _ => rfl
  obtain ⟨A0, hA0, h0s2, h0s1⟩ : ∃ A0, (∀ g off, A = some ⟨g, off, none⟩ → A0 = some ⟨g, off, none⟩) ∧ (∀ w : World, (Instr.slice 22 (.slice A n cap) none (some (.int .i64 (k : Int))) none).run Try.prog w = .ok (.slice A0 k cap) w) ∧ (∀ w : World, (Instr.sliceAt 22 (.slice A n cap) none (some (.int .i64 (k : Int))) none).run Try.prog w = .ok (.slice A0 k cap) w) := by
    have h1 : ∀ w : World, (Instr.slice 22 (.slice A n cap) none (some (.int .i64 (k : Int))) none).run Try.prog w = .ok (sliced A 0 k cap 4) w := fun w => by
      rw [run_slice_h w 22 A n cap Try.underlying22 .i64 k (by omega) (by omega), hsz]
      rfl
    have h2 : ∀ w : World, (Instr.sliceAt 22 (.slice A n cap) none (some (.int .i64 (k : Int))) none).run Try.prog w = .ok (sliced A 0 k cap 4) w := fun w => by
      rw [run_sliceAt_slice w 22 _ _ _ _ Try.underlying22]
      exact h1 w
    refine ⟨_, ?_, h1, h2⟩
    rintro g off rfl
    split
    · rfl
    · show some ((⟨g, off, none⟩ : Addr).add (0 * 4)) = _
      rw [Go.WideShapes.add_plain]
      rfl
  obtain ⟨A2, hA2, hs2, hs1⟩ : ∃ A2, (∀ g off, A = some ⟨g, off, none⟩ → k < n → A2 = some ⟨g, off + k * 4, none⟩) ∧ (∀ w : World, (Instr.slice 22 (.slice A n cap) (some (.int .i64 (k : Int))) none none).run Try.prog w = .ok (.slice A2 (n - k) (cap - k)) w) ∧ (∀ w : World, (Instr.sliceAt 22 (.slice A n cap) (some (.int .i64 (k : Int))) none none).run Try.prog w = .ok (.slice A2 (n - k) (cap - k)) w) := by
    have h1 : ∀ w : World, (Instr.slice 22 (.slice A n cap) (some (.int .i64 (k : Int))) none none).run Try.prog w = .ok (sliced A k n cap 4) w := fun w => by
      rw [run_slice_l w 22 A n cap Try.underlying22 .i64 k (by omega) (by omega), hsz]
      rfl
    have h2 : ∀ w : World, (Instr.sliceAt 22 (.slice A n cap) (some (.int .i64 (k : Int))) none none).run Try.prog w = .ok (sliced A k n cap 4) w := fun w => by
      rw [run_sliceAt_slice w 22 _ _ _ _ Try.underlying22]
      exact h1 w
    refine ⟨_, ?_, h1, h2⟩
    rintro g off rfl hkn
    rw [if_neg (show ¬ cap = k by omega)]
    show some ((⟨g, off, none⟩ : Addr).add (k * 4)) = _
    rw [Go.WideShapes.add_plain]
  have HA0 := Lib.hid hA0
  have HA2 := Lib.hid hA2
  clear hsz hA0 hA2
  go_enter Try.func7, Try.ntmps7
  go_wp2_with fail
  refine (new_M 4294967296 o _ (by omega) (by omega) (by omega) (by omega)).mono ?_
  rintro e w1 ⟨p1, r1, rfl, G1, hp1, hr1, M1⟩
  go_wp2_with fail
  refine (new_M 4294967296 o _ (by omega) (by omega) (by omega) (by omega)).mono ?_
  rintro e w2 ⟨p2, r2, rfl, G2, hp2, hr2, M2⟩
  have q1 : p1 < w1.heap.size := G1.at_.g.lt
  have q2 : r1 < w1.heap.size := G1.at_.r.lt
  have M12 := M1.trans M2
  have G1' := G1.mo M2
  clear G1 M2 M1
  go_wp2_with fail
  go_loopw [62] (fun i wr => ∃ j : Nat, j ≤ k ∧ i = .int .i64 j ∧ GAt wr p1 r1 (2 ^ o + 1) o X32 (putF X32 (l.take j)) ∧ GAt wr p2 r2 (2 ^ o + 1) o X32 (putF X32 (l.take j)) ∧ Mo W wr) (fun i _ => k - (intOf i).toNat)
  case atStart => exact ⟨0, by omega, rfl, by rw [List.take_zero]; exact G1', by rw [List.take_zero]; exact G2, M12⟩
  case round =>
    obtain ⟨j, hj, rfl, GA, GB, hM⟩ := hrel
    clear G1' G2 M12
    by_cases cj : j < k
    · have hjl : j < l.length := by rw [HN.out]; omega
      have hRr := HR.out.mo hM
      obtain ⟨g', off', eg, hc⟩ := hRr.2.resolve_left (by intro h; rw [h] at hjl; simp at hjl)
      obtain rfl : A0 = some ⟨g', off', none⟩ := HA0.out _ _ eg
      have sok := hRr.1 _ (List.getElem_mem hjl)
      obtain ⟨a0, a1, a2, a3⟩ := hc j hjl
      have TJ := TK.out j hjl
      have OJ := OK.out j
      rw [List.length_take_of_le (by omega)] at OJ
      have OJ1 := OK.out (j + 1)
      rw [List.length_take_of_le (by omega)] at OJ1
      generalize l[j] = s at *
      obtain ⟨sa, so, sd⟩ := s
      obtain ⟨t1, t2, t3, t4, t5⟩ := sok
      unfold putS at TJ
      simp only at a0 a1 a2 a3 t1 t2 t3 t4 t5 TJ
      obtain ⟨M', hM'⟩ : ∃ M', putF X32 (l.take (j + 1)) = M' := ⟨_, rfl⟩
      have TJ' := Lib.hid hM'
      rw [hM'] at TJ OJ1
      clear hM'
      generalize putF X32 (l.take j) = M at *
      have ok : MOk M 1000 := ⟨OJ.fine, OJ.rises, by have := OJ.len; omega⟩
      have ok' : MOk M' 1000 := ⟨OJ1.fine, OJ1.rises, by have := OJ1.len; omega⟩
      have PA := Lib.hid (fun w (h : GAt w p1 r1 (2 ^ o + 1) o X32 M) => put_M p1 r1 _ o X32 M sa so sd w h ok t1)
      have PB := Lib.hid (fun w (h : GAt w p2 r2 (2 ^ o + 1) o X32 M) => put_M p2 r2 _ o X32 M sa so sd w h ok t1)
      rw [← TJ] at PA PB
      have TO := Lib.hid (fun w (h : GAt w p1 r1 (2 ^ o + 1) o X32 M') => told_M p1 r1 _ o X32 M' w h ok')
      generalize (putM M (clip (sa / X32)) so sd).2 = code at *
      have LG : LtW g' wr := LtW.of_cell a0
      have e1 : p1 < wr.heap.size := GA.at_.g.lt
      have e2 : r1 < wr.heap.size := GA.at_.r.lt
      have e3 : p2 < wr.heap.size := GB.at_.g.lt
      have e4 : r2 < wr.heap.size := GB.at_.r.lt
      have i0 : (0 : Int) ≤ j := by omega
      have i1 : (j : Int) < k := by omega
      clear TJ OJ OJ1 hc hRr ok ok' eg
      go_upto_region 12 with (fail)
      refine wp_name ?_
      intro V hV
      have BV : Blk V wr.heap.size 36 #[.int .i64 (hiW sa), .int .u64 (loW sa), .int .i64 so, .int .i64 sd] := by rw [hV]; infer_instance
      have GA' := GA.mo (show Mo wr V by rw [hV]; exact Mor.out)
      have GB' := GB.mo (show Mo wr V by rw [hV]; exact Mor.out)
      have MV := hM.trans (show Mo wr V by rw [hV]; exact Mor.out)
      clear hV GA GB hM a0 a1 a2 a3 LG
      generalize wr.heap.size = b at *
      have k0 : V.cell? ⟨b, 0, none⟩ = some (.int .i64 (hiW sa)) := by rw [blk_cell BV]; rfl
      have k1 : V.cell? ⟨b, 1, none⟩ = some (.int .u64 (loW sa)) := by rw [blk_cell BV]; rfl
      have k2 : V.cell? ⟨b, 2, none⟩ = some (.int .i64 so) := by rw [blk_cell BV]; rfl
      have k3 : V.cell? ⟨b, 3, none⟩ = some (.int .i64 sd) := by rw [blk_cell BV]; rfl
      have LV : LtW b V := LtW.of_cell k0
      go_region_held3 (fun w' => w'.cell? ⟨b, 0, none⟩ = some (.int .i64 (hiW sa)) ∧ w'.cell? ⟨b, 1, none⟩ = some (.int .u64 (loW sa)) ∧ w'.cell? ⟨b, 2, none⟩ = some (.int .i64 so) ∧ w'.cell? ⟨b, 3, none⟩ = some (.int .i64 sd)) (first | (simp [go_sem, k0, k1, k2, k3]; done) | (simp [go_sem, m0, m1, m2, m3]; done) | (simp [go_sem, n0, n1, n2, n3]; done))
        (first
        | ((with_reducible refine (PA.out _ (GA'.mo Mor.out)).mono ?_); rintro e w5 ⟨rfl, GA5, KA5⟩
           have B5 := KA5.1 b _ _ (by omega) (by omega) ((Mor.out : Mo V _).blk BV)
           have m0 : w5.cell? ⟨b, 0, none⟩ = some (.int .i64 (hiW sa)) := by rw [blk_cell B5]; rfl
           have m1 : w5.cell? ⟨b, 1, none⟩ = some (.int .u64 (loW sa)) := by rw [blk_cell B5]; rfl
           have m2 : w5.cell? ⟨b, 2, none⟩ = some (.int .i64 so) := by rw [blk_cell B5]; rfl
           have m3 : w5.cell? ⟨b, 3, none⟩ = some (.int .i64 sd) := by rw [blk_cell B5]; rfl
           have LV5 : LtW b w5 := LtW.of_cell m0
           have GB5 := (GB'.mo (Mor.out : Mo V _)).other KA5 (by omega) (by omega) (by omega) (by omega)
           have M5 := kept_mo KA5 (MV.trans Mor.out) hp1 hr1)
        | ((with_reducible refine (PB.out _ (GB5.mo Mor.out)).mono ?_); rintro e w6 ⟨rfl, GB6, KB6⟩
           have B6 := KB6.1 b _ _ (by omega) (by omega) ((Mor.out : Mo w5 _).blk B5)
           have n0 : w6.cell? ⟨b, 0, none⟩ = some (.int .i64 (hiW sa)) := by rw [blk_cell B6]; rfl
           have n1 : w6.cell? ⟨b, 1, none⟩ = some (.int .u64 (loW sa)) := by rw [blk_cell B6]; rfl
           have n2 : w6.cell? ⟨b, 2, none⟩ = some (.int .i64 so) := by rw [blk_cell B6]; rfl
           have n3 : w6.cell? ⟨b, 3, none⟩ = some (.int .i64 sd) := by rw [blk_cell B6]; rfl
           have LV6 : LtW b w6 := LtW.of_cell n0
           have GA6 := (GA5.mo (Mor.out : Mo w5 _)).other KB6 (by omega) (by omega) (by omega) (by omega)
           have M6 := kept_mo KB6 (M5.trans Mor.out) (by omega) (by omega)))
      clear PA PB GA' GB' GB5 GA5 KA5 KB6 B5 B6 M5 MV m0 m1 m2 m3 n0 n1 n2 n3 k0 k1 k2 k3 BV
      go_wp2_with fail
      refine (TO.out _ GA6).mono ?_
      rintro e w7 ⟨v7, rfl, -, M7⟩
      have GA7 := GA6.mo M7
      have GB7 := GB6.mo M7
      have MM7 := M6.trans M7
      clear TO GA6 GB6 M6 M7
      go_wp2_with fail
      go_roundw
      case rel => exact ⟨j + 1, by omega, by go_num, by rw [TJ'.out]; exact GA7, by rw [TJ'.out]; exact GB7, MM7⟩
      case measure => simp [intOf]; omega
    · have ej : j = k := by omega
      subst ej
      clear cj
      have e1 : p1 < wr.heap.size := GA.at_.g.lt
      have e2 : r1 < wr.heap.size := GA.at_.r.lt
      have e3 : p2 < wr.heap.size := GB.at_.g.lt
      have e4 : r2 < wr.heap.size := GB.at_.r.lt
      have OJ := OK.out j
      rw [List.length_take_of_le (by rw [HN.out]; omega)] at OJ
      have ok : MOk (putF X32 (l.take j)) 1000 := ⟨OJ.fine, OJ.rises, by have := OJ.len; omega⟩
      clear OJ
      have TL := taus_len (putF X32 (l.take j)) o
      go_wp2_with fail
      refine (copy_M p1 r1 _ o X32 _ _ GA).mono ?_
      rintro e w8 ⟨p3, r3, C3, rfl, GC, hp3, hr3, M8⟩
      go_wp2_with fail
      refine (told_M p1 r1 _ o X32 _ _ (GA.mo M8) ok).mono ?_
      rintro e w9 ⟨v9, rfl, O9, M9⟩
      have e5 : p3 < w8.heap.size := GC.at_.g.lt
      have e6 : r3 < w8.heap.size := GC.at_.r.lt
      have s8 := M8.size
      go_wp2_with fail
      refine (told_M p3 r3 _ o X32 _ _ (GC.mo M9) ok).mono ?_
      rintro e w10 ⟨v10, rfl, O10, M10⟩
      go_wp2_with fail
      refine (same_any v10 v9 _ _ (tauAt_owns O10) ((tauAt_owns O9).mo M10) (by rw [TL]; omega)).mono ?_
      rintro e w11 ⟨rfl, M11⟩
      have N8 := ((M8.trans M9).trans M10).trans M11
      have GA11 := GA.mo N8
      have GB11 := GB.mo N8
      have GC11 := GC.mo ((M9.trans M10).trans M11)
      have O11 := owns_mo O9 (M10.trans M11)
      have MW := hM.trans N8
      clear GA GB GC O9 O10 M8 M9 M10 M11 N8 hM ok
      rw [TL] at O11
      generalize hF : putF X32 (l.take j) = F at *
      go_wp2_with fail
      go_loopw [103] (fun i wr => ∃ q : Nat, q ≤ n - j ∧ i = .int .i64 q ∧ GAt wr p1 r1 (2 ^ o + 1) o X32 (putF X32 (l.take (j + q))) ∧ GAt wr p2 r2 (2 ^ o + 1) o X32 (putF X32 (l.take (j + q))) ∧ GAt wr p3 r3 C3 o X32 F ∧ wr.ownsRow w8.heap.size 48 5 v9 o (tauRow (taus F o)) ∧ Mo W wr) (fun i _ => n - (intOf i).toNat)
      case atStart => exact ⟨0, by omega, rfl, by have := GA11; rw [← hF] at this; exact this, by have := GB11; rw [← hF] at this; exact this, GC11, O11, MW⟩
      case round =>
        obtain ⟨q, hq, rfl, GA, GB, GC, OO, hM⟩ := hrel
        clear GA11 GB11 GC11 O11 MW
        by_cases cq : q < n - j
        · have hjl : j + q < l.length := by rw [HN.out]; omega
          have hRr := HR.out.mo hM
          obtain ⟨g', off', eg, hc⟩ := hRr.2.resolve_left (by intro h; rw [h] at hjl; simp at hjl)
          obtain ⟨off2, ho3, rfl⟩ : ∃ off2, off2 = off' + j * 4 ∧ A2 = some ⟨g', off2, none⟩ := ⟨_, rfl, HA2.out _ _ eg (by omega)⟩
          have sok := hRr.1 _ (List.getElem_mem hjl)
          obtain ⟨a0, a1, a2, a3⟩ := hc (j + q) hjl
          rw [show off' + (j + q) * 4 = off2 + q * 4 by omega] at a0 a1 a2 a3
          have TJ := TK.out (j + q) hjl
          have OJ := OK.out (j + q)
          rw [List.length_take_of_le (by omega)] at OJ
          have OJ1 := OK.out (j + q + 1)
          rw [List.length_take_of_le (by omega)] at OJ1
          generalize l[j + q] = s at *
          obtain ⟨sa, so, sd⟩ := s
          obtain ⟨t1, t2, t3, t4, t5⟩ := sok
          unfold putS at TJ
          simp only at a0 a1 a2 a3 t1 t2 t3 t4 t5 TJ
          obtain ⟨M', hM'⟩ : ∃ M', putF X32 (l.take (j + q + 1)) = M' := ⟨_, rfl⟩
          have TJ' := Lib.hid hM'
          rw [hM'] at TJ OJ1
          clear hM'
          generalize putF X32 (l.take (j + q)) = M at *
          have ok : MOk M 1000 := ⟨OJ.fine, OJ.rises, by have := OJ.len; omega⟩
          have ok' : MOk M' 1000 := ⟨OJ1.fine, OJ1.rises, by have := OJ1.len; omega⟩
          have PA := Lib.hid (fun w (h : GAt w p1 r1 (2 ^ o + 1) o X32 M) => put_M p1 r1 _ o X32 M sa so sd w h ok t1)
          have PB := Lib.hid (fun w (h : GAt w p2 r2 (2 ^ o + 1) o X32 M) => put_M p2 r2 _ o X32 M sa so sd w h ok t1)
          rw [← TJ] at PA PB
          generalize (putM M (clip (sa / X32)) so sd).2 = code at *
          have LG : LtW g' wr := LtW.of_cell a0
          have e1 : p1 < wr.heap.size := GA.at_.g.lt
          have e2 : r1 < wr.heap.size := GA.at_.r.lt
          have e3 : p2 < wr.heap.size := GB.at_.g.lt
          have e4 : r2 < wr.heap.size := GB.at_.r.lt
          have i0 : (0 : Int) ≤ q := by omega
          have i1 : (q : Int) < (n - j : Nat) := by omega
          clear TJ OJ OJ1 hc hRr ok ok' eg
          clear ho3
          go_upto_region 22 with (fail)
          refine wp_name ?_
          intro V hV
          have BV : Blk V wr.heap.size 36 #[.int .i64 (hiW sa), .int .u64 (loW sa), .int .i64 so, .int .i64 sd] := by rw [hV]; infer_instance
          have GA' := GA.mo (show Mo wr V by rw [hV]; exact Mor.out)
          have GB' := GB.mo (show Mo wr V by rw [hV]; exact Mor.out)
          have GC' := GC.mo (show Mo wr V by rw [hV]; exact Mor.out)
          have OV := owns_mo OO (show Mo wr V by rw [hV]; exact Mor.out)
          have MV := hM.trans (show Mo wr V by rw [hV]; exact Mor.out)
          clear hV GA GB GC OO hM a0 a1 a2 a3 LG
          generalize wr.heap.size = b at *
          have k0 : V.cell? ⟨b, 0, none⟩ = some (.int .i64 (hiW sa)) := by rw [blk_cell BV]; rfl
          have k1 : V.cell? ⟨b, 1, none⟩ = some (.int .u64 (loW sa)) := by rw [blk_cell BV]; rfl
          have k2 : V.cell? ⟨b, 2, none⟩ = some (.int .i64 so) := by rw [blk_cell BV]; rfl
          have k3 : V.cell? ⟨b, 3, none⟩ = some (.int .i64 sd) := by rw [blk_cell BV]; rfl
          have LV : LtW b V := LtW.of_cell k0
          go_region_held3 (fun w' => w'.cell? ⟨b, 0, none⟩ = some (.int .i64 (hiW sa)) ∧ w'.cell? ⟨b, 1, none⟩ = some (.int .u64 (loW sa)) ∧ w'.cell? ⟨b, 2, none⟩ = some (.int .i64 so) ∧ w'.cell? ⟨b, 3, none⟩ = some (.int .i64 sd)) (first | (simp [go_sem, k0, k1, k2, k3]; done) | (simp [go_sem, m0, m1, m2, m3]; done) | (simp [go_sem, n0, n1, n2, n3]; done))
            (first
            | ((with_reducible refine (PA.out _ (GA'.mo Mor.out)).mono ?_); rintro e w5 ⟨rfl, GA5, KA5⟩
               have B5 := KA5.1 b _ _ (by omega) (by omega) ((Mor.out : Mo V _).blk BV)
               have m0 : w5.cell? ⟨b, 0, none⟩ = some (.int .i64 (hiW sa)) := by rw [blk_cell B5]; rfl
               have m1 : w5.cell? ⟨b, 1, none⟩ = some (.int .u64 (loW sa)) := by rw [blk_cell B5]; rfl
               have m2 : w5.cell? ⟨b, 2, none⟩ = some (.int .i64 so) := by rw [blk_cell B5]; rfl
               have m3 : w5.cell? ⟨b, 3, none⟩ = some (.int .i64 sd) := by rw [blk_cell B5]; rfl
               have LV5 : LtW b w5 := LtW.of_cell m0
               have GB5 := (GB'.mo (Mor.out : Mo V _)).other KA5 (by omega) (by omega) (by omega) (by omega)
               have GC5 := (GC'.mo (Mor.out : Mo V _)).other KA5 (by omega) (by omega) (by omega) (by omega)
               have O5 := owns_kept (owns_mo OV (Mor.out : Mo V _)) KA5 (by omega) (by omega)
               have M5 := kept_mo KA5 (MV.trans Mor.out) hp1 hr1)
            | ((with_reducible refine (PB.out _ (GB5.mo Mor.out)).mono ?_); rintro e w6 ⟨rfl, GB6, KB6⟩
               have B6 := KB6.1 b _ _ (by omega) (by omega) ((Mor.out : Mo w5 _).blk B5)
               have n0 : w6.cell? ⟨b, 0, none⟩ = some (.int .i64 (hiW sa)) := by rw [blk_cell B6]; rfl
               have n1 : w6.cell? ⟨b, 1, none⟩ = some (.int .u64 (loW sa)) := by rw [blk_cell B6]; rfl
               have n2 : w6.cell? ⟨b, 2, none⟩ = some (.int .i64 so) := by rw [blk_cell B6]; rfl
               have n3 : w6.cell? ⟨b, 3, none⟩ = some (.int .i64 sd) := by rw [blk_cell B6]; rfl
               have LV6 : LtW b w6 := LtW.of_cell n0
               have GA6 := (GA5.mo (Mor.out : Mo w5 _)).other KB6 (by omega) (by omega) (by omega) (by omega)
               have GC6 := (GC5.mo (Mor.out : Mo w5 _)).other KB6 (by omega) (by omega) (by omega) (by omega)
               have O6 := owns_kept (owns_mo O5 (Mor.out : Mo w5 _)) KB6 (by omega) (by omega)
               have M6 := kept_mo KB6 (M5.trans Mor.out) (by omega) (by omega)))
          clear PA PB GA' GB' GB5 GA5 KA5 KB6 B5 B6 M5 MV m0 m1 m2 m3 n0 n1 n2 n3 k0 k1 k2 k3 BV
          go_wp2_with fail
          go_roundw
          case rel => exact ⟨q + 1, by omega, by go_num, by rw [← Nat.add_assoc, TJ'.out]; exact GA6, by rw [← Nat.add_assoc, TJ'.out]; exact GB6, GC6, O6, M6⟩
          case measure => simp [intOf]; omega
        · have eq_ : j + q = n := by omega
          have ok2 := OK.out (j + q)
          have e8 : l.take (j + q) = l := by rw [eq_, ← HN.out]; exact List.take_length
          rw [e8] at GA GB ok2
          have ok3 : MOk (putF X32 l) 1000 := ⟨ok2.fine, ok2.rises, by have := ok2.len; have := HN.out; omega⟩
          have okF : MOk F 1000 := by have := OK.out j; rw [hF, List.length_take] at this; exact ⟨this.fine, this.rises, by have := this.len; omega⟩
          have TG := Lib.hid (fun w (h : GAt w p1 r1 (2 ^ o + 1) o X32 (putF X32 l)) => told_M p1 r1 _ o X32 _ w h ok3)
          have TH := Lib.hid (fun w (h : GAt w p2 r2 (2 ^ o + 1) o X32 (putF X32 l)) => told_M p2 r2 _ o X32 _ w h ok3)
          have TC := Lib.hid (fun w (h : GAt w p3 r3 C3 o X32 F) => told_M p3 r3 _ o X32 _ w h okF)
          have LG := Lib.hid (fun w (h : GAt w p1 r1 (2 ^ o + 1) o X32 (putF X32 l)) => live_M p1 r1 _ o X32 _ w h ok3)
          have LL : (liveM (putF X32 l) o : Int) ≤ 2 ^ o + 1 := live_le ok3
          clear ok2
          go_upto_region 25 with (fail)
          have M0 : Mo W wr := hM
          have ty1 : IntKind.i64.wrap (2 ^ o) = 2 ^ o := by
            have h1 : (2 : Nat) ^ o ≤ 2 ^ 10 := Nat.pow_le_pow_right (by decide) o2
            have h2 : (((2 : Nat) ^ o : Nat) : Int) = ((2 : Int) ^ o) := by simp
            have h3 := two_pow_pos o
            rw [IntKind.wrap_i64]
            omega
          have ty2 : IntKind.i64.wrap (2 ^ o + 1) = 2 ^ o + 1 := by
            have h1 : (2 : Nat) ^ o ≤ 2 ^ 10 := Nat.pow_le_pow_right (by decide) o2
            have h2 : (((2 : Nat) ^ o : Nat) : Int) = ((2 : Int) ^ o) := by simp
            have h3 := two_pow_pos o
            rw [IntKind.wrap_i64]
            omega
          have ty3 : decide ((2 : Int) ^ o + 1 < (liveM (putF X32 l) o : Int)) = false := decide_eq_false (by omega)
          have tl2 := taus_len (putF X32 l) o
          go_region_held3 (fun _ => True) (trivial)
            (first
            | ((with_reducible refine (TC.out _ (GC.mo Mor.out)).mono ?_); rintro e x1 ⟨va, rfl, OA, N1⟩
               have TA := (tauAt_owns OA)
               have GA1 := GA.mo ((Mor.out : Mo wr _).trans N1)
               have GB1 := GB.mo ((Mor.out : Mo wr _).trans N1)
               have GC1 := GC.mo ((Mor.out : Mo wr _).trans N1)
               have TW := (tauAt_owns (l := taus F o) (by rw [TL]; exact owns_mo OO ((Mor.out : Mo wr _).trans N1)))
               have M1 := M0.trans ((Mor.out : Mo wr _).trans N1))
            | ((with_reducible refine (same_any va v9 _ _ (TA.mo Mor.out) (TW.mo Mor.out) (by rw [TL]; omega)).mono ?_); rintro e x2 ⟨rfl, N2⟩
               have GA2 := GA1.mo ((Mor.out : Mo x1 _).trans N2)
               have GB2 := GB1.mo ((Mor.out : Mo x1 _).trans N2)
               have GC2 := GC1.mo ((Mor.out : Mo x1 _).trans N2)
               have M2 := M1.trans ((Mor.out : Mo x1 _).trans N2))
            | ((with_reducible refine (TG.out _ (GA2.mo Mor.out)).mono ?_); rintro e x3 ⟨vb, rfl, OB, N3⟩
               have TB := (tauAt_owns OB)
               have GA3 := GA2.mo ((Mor.out : Mo x2 _).trans N3)
               have GB3 := GB2.mo ((Mor.out : Mo x2 _).trans N3)
               have GC3 := GC2.mo ((Mor.out : Mo x2 _).trans N3)
               have M3 := M2.trans ((Mor.out : Mo x2 _).trans N3))
            | ((with_reducible refine (TH.out _ (GB3.mo Mor.out)).mono ?_); rintro e x4 ⟨vd, rfl, OD, N4⟩
               have TD := (tauAt_owns OD)
               have TB4 := TB.mo ((Mor.out : Mo x3 _).trans N4)
               have GA4 := GA3.mo ((Mor.out : Mo x3 _).trans N4)
               have GB4 := GB3.mo ((Mor.out : Mo x3 _).trans N4)
               have GC4 := GC3.mo ((Mor.out : Mo x3 _).trans N4)
               have M4 := M3.trans ((Mor.out : Mo x3 _).trans N4))
            | ((with_reducible refine (same_any vb vd _ _ (TB4.mo Mor.out) (TD.mo Mor.out) (by rw [tl2]; omega)).mono ?_); rintro e x5 ⟨rfl, N5⟩
               have GA5 := GA4.mo ((Mor.out : Mo x4 _).trans N5)
               have GB5 := GB4.mo ((Mor.out : Mo x4 _).trans N5)
               have GC5 := GC4.mo ((Mor.out : Mo x4 _).trans N5)
               have M5 := M4.trans ((Mor.out : Mo x4 _).trans N5))
            | ((with_reducible refine (LG.out _ (GA5.mo Mor.out)).mono ?_); rintro e x6 ⟨rfl, N6⟩
               have GB6 := GB5.mo ((Mor.out : Mo x5 _).trans N6)
               have GC6 := GC5.mo ((Mor.out : Mo x5 _).trans N6)
               have M6 := M5.trans ((Mor.out : Mo x5 _).trans N6)))
          clear TG TC LG GA GB GC OO hM M0 TA TW GA1 GB1 GC1 M1 GA2 GB2 GC2 M2 TB GA3 GB3 GC3 M3 TD TB4 GA4 GB4 GC4 M4 GA5 GB5 GC5 M5 N1 N2 N3 N4 N5 N6 OA OB OD
          go_wp2_with fail
          go_loopw [150] (fun i wr => ∃ q : Nat, q ≤ n - j ∧ i = .int .i64 q ∧ GAt wr p2 r2 (2 ^ o + 1) o X32 (putF X32 l) ∧ GAt wr p3 r3 C3 o X32 (putF X32 (l.take (j + q))) ∧ Mo W wr) (fun i _ => n - (intOf i).toNat)
          case atStart => exact ⟨0, by omega, rfl, GB6, by rw [Nat.add_zero, hF]; exact GC6, M6⟩
          case round =>
            clear cq eq_ e8 okF hq
            rename_i eqq
            obtain ⟨q2, hq2, rfl, GB, GC, hM⟩ := hrel
            clear GB6 GC6 M6 hF
            by_cases cq2 : q2 < n - j
            · have hjl : j + q2 < l.length := by rw [HN.out]; omega
              have hRr := HR.out.mo hM
              obtain ⟨g', off', eg, hc⟩ := hRr.2.resolve_left (by intro h; rw [h] at hjl; simp at hjl)
              obtain ⟨off2, ho3, rfl⟩ : ∃ off2, off2 = off' + j * 4 ∧ A2 = some ⟨g', off2, none⟩ := ⟨_, rfl, HA2.out _ _ eg (by omega)⟩
              have sok := hRr.1 _ (List.getElem_mem hjl)
              obtain ⟨a0, a1, a2, a3⟩ := hc (j + q2) hjl
              rw [show off' + (j + q2) * 4 = off2 + q2 * 4 by omega] at a0 a1 a2 a3
              have TJ := TK.out (j + q2) hjl
              have OJ := OK.out (j + q2)
              rw [List.length_take_of_le (by omega)] at OJ
              generalize l[j + q2] = s at *
              obtain ⟨sa, so, sd⟩ := s
              obtain ⟨t1, t2, t3, t4, t5⟩ := sok
              unfold putS at TJ
              simp only at a0 a1 a2 a3 t1 t2 t3 t4 t5 TJ
              obtain ⟨M', hM'⟩ : ∃ M', putF X32 (l.take (j + q2 + 1)) = M' := ⟨_, rfl⟩
              have TJ' := Lib.hid hM'
              rw [hM'] at TJ
              clear hM'
              generalize putF X32 (l.take (j + q2)) = M at *
              have ok : MOk M 1000 := ⟨OJ.fine, OJ.rises, by have := OJ.len; omega⟩
              have PC := Lib.hid (fun w (h : GAt w p3 r3 C3 o X32 M) => put_M p3 r3 _ o X32 M sa so sd w h ok t1)
              rw [← TJ] at PC
              generalize (putM M (clip (sa / X32)) so sd).2 = code at *
              have LG : LtW g' wr := LtW.of_cell a0
              have e1 : p2 < wr.heap.size := GB.at_.g.lt
              have e2 : r2 < wr.heap.size := GB.at_.r.lt
              have e3 : p3 < wr.heap.size := GC.at_.g.lt
              have e4 : r3 < wr.heap.size := GC.at_.r.lt
              have i0 : (0 : Int) ≤ q2 := by omega
              have i1 : (q2 : Int) < (n - j : Nat) := by omega
              clear TJ OJ hc hRr ok eg ho3
              go_wp2_with fail
              refine (PC.out _ (GC.mo Mor.out)).mono ?_
              rintro e w5 ⟨rfl, GC5, KC5⟩
              have GB5 := (GB.mo (Mor.out : Mo wr _)).other KC5 (by omega) (by omega) (by omega) (by omega)
              have M5 := kept_mo KC5 (hM.trans Mor.out) (by omega) (by omega)
              clear PC GB GC KC5 hM
              go_wp2_with fail
              go_roundw
              case rel => exact ⟨q2 + 1, by omega, by go_num, GB5, by rw [← Nat.add_assoc, TJ'.out]; exact GC5, M5⟩
              case measure => simp [intOf]; omega
            · have e8 : l.take (j + q2) = l := by rw [show j + q2 = n by omega, ← HN.out]; exact List.take_length
              rw [e8] at GC
              have LC := Lib.hid (fun w (h : GAt w p3 r3 C3 o X32 (putF X32 l)) => live_M p3 r3 _ o X32 _ w h ok3)
              have LH := Lib.hid (fun w (h : GAt w p2 r2 (2 ^ o + 1) o X32 (putF X32 l)) => live_M p2 r2 _ o X32 _ w h ok3)
              have TC := Lib.hid (fun w (h : GAt w p3 r3 C3 o X32 (putF X32 l)) => told_M p3 r3 _ o X32 _ w h ok3)
              clear e8
              go_wp2_with fail
              refine (TC.out _ GC).mono ?_
              rintro e x1 ⟨va, rfl, OA, N1⟩
              have GB1 := GB.mo N1
              have GC1 := GC.mo N1
              have M1 := hM.trans N1
              clear TC GB GC hM
              go_wp2_with fail
              refine (TH.out _ GB1).mono ?_
              rintro e x2 ⟨vb, rfl, OB, N2⟩
              have GB2 := GB1.mo N2
              have GC2 := GC1.mo N2
              have M2 := M1.trans N2
              have TA := (tauAt_owns OA).mo N2
              have TB := tauAt_owns OB
              clear TH GB1 GC1 M1 OA OB N1 N2
              go_wp2_with fail
              refine (same_any va vb _ _ TA TB (by rw [tl2]; omega)).mono ?_
              rintro e x3 ⟨rfl, N3⟩
              have GB3 := GB2.mo N3
              have GC3 := GC2.mo N3
              have M3 := M2.trans N3
              clear TA TB GB2 GC2 M2 N3
              go_wp2_with fail
              refine (LC.out _ GC3).mono ?_
              rintro e x4 ⟨rfl, N4⟩
              have GB4 := GB3.mo N4
              have M4 := M3.trans N4
              clear LC GB3 GC3 M3 N4
              go_wp2_with fail
              refine (LH.out _ GB4).mono ?_
              rintro e x5 ⟨rfl, N5⟩
              have M5 := M4.trans N5
              clear LH GB4 M4 N5
              go_wp2_with fail
              refine (works32_any _).mono ?_
              rintro e x6 ⟨rfl, N6⟩
              go_wp2_with fail
              go_ret
              exact ⟨rfl, M5.trans N6⟩
set_option maxRecDepth 20000 in
set_option maxHeartbeats 1000000 in
theorem copies32_any (A : Option Addr) (l : List Pt) (cap : Nat) (oc at_ : Int) (W : World) (c1 : 0 ≤ oc) (c2 : oc ≤ 255) (d1 : 0 ≤ at_) (d2 : at_ ≤ 255) (hR' : l.length ≤ cap ∧ PutRow W A l) :
    Calls Try.prog 7 #[.slice A l.length cap, .int .u8 oc, .int .u8 at_] W fun e w' => e = .returned (.bool true) ∧ Mo W w' := by
  obtain ⟨hlc, hR⟩ := hR'
  by_cases hl : l.length ≤ 100
  · exact copies32_some A l cap oc at_ W hl hlc c1 c2 d1 d2 hR
  · clear hR hlc
    generalize l.length = n at *
    go_enter Try.func7, Try.ntmps7
    go_wp2_with fail
    refine (works32_any _).mono ?_
    rintro e w1 ⟨rfl, M1⟩
    go_wp2_with fail
    go_ret
    exact ⟨rfl, M1⟩
section
open Go.ChangeShapes Go.WideShapes Go.Deep
theorem open_putsC {H : Type} {enc : TypeId × Value → H} {w : World} {base : Nat} {spare : Nat → Bool} {held : Bool} {fuel : Nat} {v : Value} {x : DataW H × List MemPlace} (h : DataW.trod enc Try.prog w base spare held fuel 22 [v] = some x) :
    ∃ A l cap, v = .slice A l.length cap ∧ l.length ≤ cap ∧ PutRow w A l := by
  obtain ⟨A, l, cap, rfl, hR⟩ := open_puts h
  refine ⟨A, l, cap, rfl, ?_, hR⟩
  rcases open_slice Try.underlying22 h with ⟨h0, _⟩ | ⟨a, len, cap', m, q, D, Pl, hcs, hb, hl, _⟩
  · injection h0 with h0 _
    injection h0 with _ h1 h2
    omega
  · injection hcs with h0 _
    injection h0 with _ h1 h2
    omega
end
end Go.Proofs.Ytfojgjannhhbaaa
