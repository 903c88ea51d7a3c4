/- horologelaw31.AccTells returns true: the walk. -/
import Derived.Test.YtmaddbonkpfdgaaRefT
import Derived.Test.YtmaddbonkpfdgaaRowOf
import Derived.Test.YtmaddbonkpfdgaaAcc4
namespace Go.Proofs.Ytmaddbonkpfdgaa
open Go.RowKit

theorem tv_letters (S : St) : ∃ c w lo hi me sp : Int, TV S = .agg #[.int .i64 c, .int .i64 w, .int .i64 lo, .int .i64 hi, .int .i64 me, .int .u64 sp] := ⟨_, _, _, _, _, _, rfl⟩
theorem rtold_reads (A : Option Addr) (r : List Int) (c : Nat) (W : World) (hr : r.length ≤ 2147483648) (hR : RowOf W A r) : ∀ W' [Mor W W'], Calls Try.prog 12 #[.slice A r.length c] W' fun e w' => e = .returned (TV (sumL r)) ∧ Mo W' w' := by
  intro W' hM
  by_cases z : r = []
  · subst z; exact rtold_empty A c W'
  · obtain ⟨g, off, rfl, hc⟩ := hR.resolve_left z
    have hp : 0 < r.length := List.length_pos_iff.2 z
    exact rtold_some r g off c W' hr hp (fun j hj => by
      have h1 := hc j hj
      have : LtW g W := LtW.of_cell h1
      rw [hM.out.cell, h1])
def TInv (W : World) (p : Nat) (l : List Int) (k : Nat) (wr : World) : Prop := Blk wr p 39 (accC true (sumL (l.take k))) ∧ Mo W wr ∧ W.heap.size ≤ p
set_option maxRecDepth 20000 in
set_option maxHeartbeats 4000000 in
theorem tells_any (A : Option Addr) (l : List Int) (cap : Nat) (W : World) (hl : l.length ≤ 200) (hcap : l.length ≤ cap) (hR : RowOf W A l) :
    Calls Try.prog 3 #[.slice A l.length cap] W fun e w' => e = .returned (.bool true) ∧ Mo W w' := by
  obtain ⟨n, hn⟩ : ∃ n, l.length = n := ⟨_, rfl⟩
  have HOf := Lib.hid (of_reads A l cap W (by omega) hR)
  have RT := Lib.hid (rtold_reads A l cap W (by omega) hR)
  have HR := Lib.hid hR
  clear hR
  rw [hn] at hl hcap HOf RT ⊢
  have HN := Lib.hid hn
  clear hn
  have q1 : decide ((200 : Int) < ↑n) = false := by simp; omega
  go_enter Try.func3, Try.ntmps3
  go_wp2_with fail
  refine (of_nothing _).mono ?_
  rintro e w3 ⟨p, rfl, hp, B3, M3⟩
  have I0 := Lib.hid (show TInv W p l 0 w3 from ⟨by rw [List.take_zero]; exact B3, M3, hp⟩)
  clear B3 M3 hp
  go_wp2_with fail
  go_loopw [14] (fun i wr => ∃ k : Nat, k ≤ n ∧ i = .int .i64 k ∧ TInv W p l k wr) (fun i _ => n - (intOf i).toNat)
  case atStart => exact ⟨0, by omega, rfl, I0.out⟩
  case round =>
    obtain ⟨k, hk, rfl, hB, hM, hp⟩ := hrel
    clear I0
    by_cases ck : k < n
    · rcases HR.out with h0 | ⟨g, off, rfl, hc⟩
      · exfalso; have := HN.out; rw [h0] at this; simp at this; omega
      have ce := hc k (by rw [HN.out]; exact ck)
      have LG : LtW g W := LtW.of_cell ce
      have ce' : wr.cell? ⟨g, off + k, none⟩ = some (.int .i64 (l.getD k 0)) := by rw [hM.cell, ce]
      have A1 := Lib.hid (add_ret p (sumL (l.take k)) (l.getD k 0) k wr hB (good_take l k (by rw [HN.out]; exact hk)) (by omega))
      rw [← sumL_snoc l k (by rw [HN.out]; exact ck)] at A1
      have R2 := Lib.hid (rtold_reads (some ⟨g, off, none⟩) (l.take (k + 1)) cap W (by rw [List.length_take]; omega) (HR.out.take (k + 1)))
      rw [List.length_take, HN.out, Nat.min_eq_left (by omega)] at R2
      obtain ⟨c, w, lo, hi, me, sp, eS⟩ := tv_letters (sumL (l.take (k + 1)))
      have T2 := Lib.hid (fun (W' : World) (hB : Blk W' p 39 (accC true (sumL (l.take (k + 1))))) => told_acc p true _ _ W' hB (good_sum (l.take (k + 1))) (by rw [List.length_take]; omega))
      rw [eS] at T2 R2
      clear hB eS hc ce
      generalize l.getD k 0 = x at *
      have i1 : (k : Int) + 1 ≤ cap := by omega
      have i2 : (k : Int) + 1 ≤ n := by omega
      have i3 : IntKind.i64.wrap ((k : Int) + 1) = (k : Int) + 1 := by rw [IntKind.wrap_i64]; omega
      have i4 : ((k : Int) + 1).toNat = k + 1 := by omega
      by_cases m7 : (k : Int) % 7 = 0
      · have m7' : ((k : Int) % 7 == 0) = true := by simpa using m7
        clear m7
        go_wp2_with fail
        refine A1.out.mono ?_
        rintro e w4 ⟨rfl, B4, -, K4⟩
        have M4 : Mo W w4 := K4 W hp hM
        have iM : Mor W w4 := ⟨M4⟩
        clear K4 A1 ce'
        go_wp2_with fail
        refine wp_region_mo (by kernel_rfl) (by kernel_rfl) ?_
        repeat (go_big_quiet_step (first | (with_reducible exact quiet_mo (T2.out _ (by infer_instance))) | (with_reducible exact quiet_mo (R2.out _))))
        refine wpQuiet_nil ?_
        intro _ hw'
        obtain ⟨⟨J9, d9⟩, hw''⟩ := hw'
        subst hw''
        clear i3 i4
        have I1 := Lib.hid (show TInv W p l (k + 1) (more w4 J9 d9) from ⟨inferInstance, M4.trans Mor.out, hp⟩)
        go_wp2_with fail
        go_roundw
        case rel => exact ⟨k + 1, by omega, by go_num, I1.out⟩
        case measure => simp [intOf]; omega
      · have m7' : ((k : Int) % 7 == 0) = false := by simpa using m7
        clear m7
        go_wp2_with fail
        refine A1.out.mono ?_
        rintro e w4 ⟨rfl, B4, -, K4⟩
        have M4 : Mo W w4 := K4 W hp hM
        clear K4 A1 ce'
        go_wp2_with fail
        refine wp_region_mo (by kernel_rfl) (by kernel_rfl) ?_
        repeat (go_big_quiet_step (fail))
        refine wpQuiet_nil ?_
        intro _ hw'
        obtain ⟨⟨J9, d9⟩, hw''⟩ := hw'
        subst hw''
        clear i3 i4
        have I1 := Lib.hid (show TInv W p l (k + 1) (more w4 J9 d9) from ⟨inferInstance, M4.trans Mor.out, hp⟩)
        go_wp2_with fail
        go_roundw
        case rel => exact ⟨k + 1, by omega, by go_num, I1.out⟩
        case measure => simp [intOf]; omega
    · obtain rfl : k = n := by omega
      rw [← HN.out, List.take_length] at hB
      obtain ⟨c, w, lo, hi, me, sp, eS⟩ := tv_letters (sumL l)
      have T2 := Lib.hid (fun (p : Nat) (W' : World) (hB : Blk W' p 39 (accC true (sumL l))) => told_acc p true _ _ W' hB (good_sum l) (by rw [HN.out]; omega))
      have iM : Mor W wr := ⟨hM⟩
      rw [eS] at T2 RT
      clear eS HR
      go_wp2_with fail
      refine (RT.out _).mono ?_; rintro e w5 ⟨rfl, J5, d5, rfl⟩
      go_wp2_with fail
      refine wp_name ?_
      intro V hV
      have hx : wr.heap.size + J5.size < V.heap.size := by rw [hV]; simp [go_sem]
      have MV : Mo W V := by rw [hV]; exact hM.trans Mor.out
      have BV : Blk V p 39 (accC true (sumL l)) := by rw [hV]; infer_instance
      have XV : Blk V (wr.heap.size + J5.size) 29 #[.int .i64 c, .int .i64 w, .int .i64 lo, .int .i64 hi, .int .i64 me, .int .u64 sp] := by rw [hV]; infer_instance
      generalize wr.heap.size + J5.size = x6 at *
      have k0 : V.cell? ⟨x6, 0, none⟩ = some (.int .i64 c) := by rw [blk_cell XV]; rfl
      have k1 : V.cell? ⟨x6, 1, none⟩ = some (.int .i64 w) := by rw [blk_cell XV]; rfl
      have k2 : V.cell? ⟨x6, 2, none⟩ = some (.int .i64 lo) := by rw [blk_cell XV]; rfl
      have k3 : V.cell? ⟨x6, 3, none⟩ = some (.int .i64 hi) := by rw [blk_cell XV]; rfl
      have k4 : V.cell? ⟨x6, 4, none⟩ = some (.int .i64 me) := by rw [blk_cell XV]; rfl
      have k5 : V.cell? ⟨x6, 5, none⟩ = some (.int .u64 sp) := by rw [blk_cell XV]; rfl
      have L6 : LtW x6 V := ⟨hx⟩
      have iV : Mor W V := ⟨MV⟩
      have OT : Hid (∀ W' [Mor W W'], Calls Try.prog 9 #[.slice A k cap] W' (OfRet l W')) := Lib.hid (fun W' h => HOf.out W' h.out)
      clear hV hx XV iM hB hM RT HOf
      go_region_held3 (fun w' => w'.cell? ⟨x6, 0, none⟩ = some (.int .i64 c) ∧ w'.cell? ⟨x6, 1, none⟩ = some (.int .i64 w) ∧ w'.cell? ⟨x6, 2, none⟩ = some (.int .i64 lo) ∧ w'.cell? ⟨x6, 3, none⟩ = some (.int .i64 hi) ∧ w'.cell? ⟨x6, 4, none⟩ = some (.int .i64 me) ∧ w'.cell? ⟨x6, 5, none⟩ = some (.int .u64 sp)) (simp [go_sem, *])
        (first
        | ((with_reducible refine (T2.out p _ (by infer_instance)).mono ?_); rintro e w6 ⟨rfl, J6, d6, rfl⟩)
        | ((with_reducible refine (OT.out _).mono ?_); rintro e w7 ⟨p7, rfl, hp7, B7, M7⟩; have g0 : w7.cell? ⟨x6, 0, none⟩ = some (.int .i64 c) := (by rw [M7.cell]; simp [go_sem, k0]); have g1 : w7.cell? ⟨x6, 1, none⟩ = some (.int .i64 w) := (by rw [M7.cell]; simp [go_sem, k1]); have g2 : w7.cell? ⟨x6, 2, none⟩ = some (.int .i64 lo) := (by rw [M7.cell]; simp [go_sem, k2]); have g3 : w7.cell? ⟨x6, 3, none⟩ = some (.int .i64 hi) := (by rw [M7.cell]; simp [go_sem, k3]); have g4 : w7.cell? ⟨x6, 4, none⟩ = some (.int .i64 me) := (by rw [M7.cell]; simp [go_sem, k4]); have g5 : w7.cell? ⟨x6, 5, none⟩ = some (.int .u64 sp) := (by rw [M7.cell]; simp [go_sem, k5]); have N7 : Mo V w7 := Mor.out.trans M7; have L7 : LtW x6 w7 := LtW.of_cell g0; clear M7)
        | ((with_reducible refine (T2.out p7 _ (by infer_instance)).mono ?_); rintro e w8 ⟨rfl, J8, d8, rfl⟩)
        | ((with_reducible refine (works_any _).mono ?_); rintro e w9 ⟨rfl, J9, d9, rfl⟩))
      all_goals (go_wp2_with fail; go_ret; exact ⟨rfl, MV.trans (N7.trans Mor.out)⟩)
theorem tells_off (A : Option Addr) (n cap : Nat) (W : World) (h : 200 < n) :
    Calls Try.prog 3 #[.slice A n cap] W fun e w' => e = .returned (.bool true) ∧ Mo W w' := by
  have q1 : decide ((200 : Int) < ↑n) = true := by simp; omega
  go_enter Try.func3, Try.ntmps3
  go_wp2_with fail
  refine (works_any _).mono ?_; rintro e w1 ⟨rfl, J3, d3, rfl⟩
  go_wp2_with fail
  go_ret
  exact ⟨rfl, Mor.out⟩
theorem tells_slice (a : Addr) (zs : List Int) (len cap : Nat) (hle : len ≤ cap) (hall : zs.length = cap) (W : World) (hc : ∀ i, i < zs.length → W.cell? (a.add i) = some (.int .i64 (zs.getD i 0))) :
    Calls Try.prog 3 #[.slice (some a) len cap] W fun e w' => e = .returned (.bool true) ∧ Mo W w' := by
  by_cases h : 200 < len
  · exact tells_off (some a) len cap W h
  · have ln : (zs.take len).length = len := by rw [List.length_take]; omega
    have := tells_any (some a) (zs.take len) cap W (by omega) (by omega) (rowOf_ints (by omega) hc)
    rw [ln] at this
    exact this
theorem tells_nil (W : World) : Calls Try.prog 3 #[.slice none 0 0] W fun e w' => e = .returned (.bool true) ∧ Mo W w' :=
  tells_any none [] 0 W (by decide) (by decide) (.inl rfl)
end Go.Proofs.Ytmaddbonkpfdgaa
