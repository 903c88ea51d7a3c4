/- horologelaw35: Same, works. -/
import Derived.Test.YtdgmcgfkammioaaEpU
namespace Go.Proofs.Ytdgmcgfkammioaa
open Go.RowKit Go.Maps

attribute [local go_sem] blk_cell' blk_frozen'
set_option maxRecDepth 20000 in
set_option maxHeartbeats 8000000 in
theorem same35_any (E : Ep) (v v' : Value) (W : World) (h : EpF W E v) (h' : EpF W E v') (l1 : E.srv.length ≤ 1000) (l2 : E.tr.length ≤ 1000) :
    Calls Try.prog 13 #[v, v'] W fun e w' => e = .returned (.bool true) ∧ Mo W w' := by
  obtain ⟨A, c, D, d, rfl, I1, I2⟩ := h
  obtain ⟨A', c', D', d', rfl, J1, J2⟩ := h'
  have HI1 := Lib.hid I1.row
  have HI2 := Lib.hid I2.row
  have HJ1 := Lib.hid J1.row
  have HJ2 := Lib.hid J2.row
  obtain ⟨en, es, ej, el, eh, ef, et⟩ := E
  simp only at *
  obtain ⟨n, hn⟩ : ∃ n, es.length = n := ⟨_, rfl⟩
  obtain ⟨k, hk⟩ : ∃ k, et.length = k := ⟨_, rfl⟩
  have HN := Lib.hid hn
  have HK := Lib.hid hk
  rw [hn] at l1 ⊢
  rw [hk] at l2 ⊢
  clear hn hk I1 I2 J1 J2
  have b1 : (en != en) = false := by simp
  have b2 : (ej != ej) = false := by simp
  have b3 : (el != el) = false := by simp
  have b4 : (eh != eh) = false := by simp
  have b5 : (((ef : Nat) : Int) != ef) = false := by simp
  have b6 : (((n : Nat) : Int) != n) = false := by simp
  have b7 : (((k : Nat) : Int) != k) = false := by simp
  go_enter Try.func13, Try.ntmps13
  go_upto_region 3 with (fail)
  refine wp_name ?_
  intro w1 hw1
  have B1 : Blk w1 W.heap.size 38 #[.int .i64 en, .slice A n c, .bool ej, .int .i64 el, .int .i64 eh, .int .i64 (ef : Nat), .slice D k d] := by rw [hw1]; infer_instance
  have B2 : Blk w1 (W.heap.size + 1) 38 #[.int .i64 en, .slice A' n c', .bool ej, .int .i64 el, .int .i64 eh, .int .i64 (ef : Nat), .slice D' k d'] := by rw [hw1]; infer_instance
  have M1 : Mo W w1 := by rw [hw1]; exact Mor.out
  clear hw1 b1 b2 b3 b4 b5 b6 b7
  --@@ loop1
  go_wp2_with fail
  go_loopw [61] (fun i wr => ∃ j : Nat, j ≤ n ∧ i = .int .i64 j ∧ Mo w1 wr) (fun i _ => n - (intOf i).toNat)
  case atStart => exact ⟨0, by omega, rfl, Mor.out⟩
  case round =>
    obtain ⟨j, hj, rfl, hM⟩ := hrel
    by_cases cj : j < n
    · have hjl : j < es.length := by rw [HN.out]; exact cj
      have ne : natI es ≠ [] := fun e => by have h0 := congrArg List.length e; rw [natI_length] at h0; have h1 : es.length = 0 := h0; omega
      obtain ⟨g1, o1, rfl, q1⟩ := (HI1.out.mo (M1.trans hM)).resolve_left ne
      obtain ⟨g2, o2, rfl, q2⟩ := (HJ1.out.mo (M1.trans hM)).resolve_left ne
      have y1 := q1 j (by rw [natI_length]; exact hjl)
      have y2 := q2 j (by rw [natI_length]; exact hjl)
      generalize (natI es)[j]'(by rw [natI_length]; exact hjl) = x at *
      have z1 : LtW g1 wr := LtW.of_cell y1
      have z2 : LtW g2 wr := LtW.of_cell y2
      have B1r := hM.blk B1
      have B2r := hM.blk B2
      have e0 : (0 : Int) ≤ j := by omega
      have e1 : (j : Int) < n := by omega
      have bx : (x != x) = false := by simp
      have hw : IntKind.i64.wrap ((j : Int) + 1) = j + 1 := by rw [IntKind.wrap_i64]; omega
      clear q1 q2 ne hjl
      go_upto_region 6 with (fail)
      first | (refine wp_region_mo (by kernel_rfl) (by kernel_rfl) ?_) | (refine wp_region_mo' (by kernel_rfl) (by kernel_rfl) ?_)
      repeat (go_big_quiet_step (fail))
      refine wpQuiet_nil ?_
      intro _ hw'
      obtain ⟨⟨J9, d9⟩, hw''⟩ := hw'
      subst hw''
      go_wp2_with fail
      go_roundw
      case rel => exact ⟨j + 1, by omega, by go_num, hM.trans Mor.out⟩
      case measure => simp [intOf]; omega
    · obtain rfl : j = n := by omega
      have B1r := hM.blk B1
      have B2r := hM.blk B2
      have N1 := M1.trans hM
      clear B1 B2 M1 hM
      --@@ loop2
      go_wp2_with fail
      rename World => w2
      go_loopw [79] (fun i wr => ∃ i' : Nat, i' ≤ k ∧ i = .int .i64 i' ∧ Mo w2 wr) (fun i _ => k - (intOf i).toNat)
      case atStart => exact ⟨0, by omega, rfl, Mor.out⟩
      case round =>
        rename World => wr
        obtain ⟨j, hj, rfl, hM⟩ := hrel
        by_cases cj : j < k
        · have hjl : j < et.length := by rw [HK.out]; exact cj
          have ne : natI et ≠ [] := fun e => by have h0 := congrArg List.length e; rw [natI_length] at h0; have h1 : et.length = 0 := h0; omega
          obtain ⟨g1, o1, rfl, q1⟩ := (HI2.out.mo (N1.trans hM)).resolve_left ne
          obtain ⟨g2, o2, rfl, q2⟩ := (HJ2.out.mo (N1.trans hM)).resolve_left ne
          have y1 := q1 j (by rw [natI_length]; exact hjl)
          have y2 := q2 j (by rw [natI_length]; exact hjl)
          generalize (natI et)[j]'(by rw [natI_length]; exact hjl) = x at *
          have z1 : LtW g1 wr := LtW.of_cell y1
          have z2 : LtW g2 wr := LtW.of_cell y2
          have B1s := hM.blk B1r
          have B2s := hM.blk B2r
          have e0 : (0 : Int) ≤ j := by omega
          have e1 : (j : Int) < k := by omega
          have bx : (x != x) = false := by simp
          have hw : IntKind.i64.wrap ((j : Int) + 1) = j + 1 := by rw [IntKind.wrap_i64]; omega
          clear q1 q2 ne hjl
          go_upto_region 12 with (fail)
          first | (refine wp_region_mo (by kernel_rfl) (by kernel_rfl) ?_) | (refine wp_region_mo' (by kernel_rfl) (by kernel_rfl) ?_)
          repeat (go_big_quiet_step (fail))
          refine wpQuiet_nil ?_
          intro _ hw'
          obtain ⟨⟨J9, d9⟩, hw''⟩ := hw'
          subst hw''
          go_wp2_with fail
          go_roundw
          case rel => exact ⟨j + 1, by omega, by go_num, hM.trans Mor.out⟩
          case measure => simp [intOf]; omega
        · obtain rfl : j = k := by omega
          --@@ end
          go_wp2_with fail
          go_ret
          exact ⟨rfl, N1.trans hM⟩
end Go.Proofs.Ytdgmcgfkammioaa
