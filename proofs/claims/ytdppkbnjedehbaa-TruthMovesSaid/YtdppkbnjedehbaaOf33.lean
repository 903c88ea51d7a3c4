/- horologelaw33.of: the reference's copy of the intervals. -/
import Derived.Test.YtdppkbnjedehbaaOpen33
namespace Go.Proofs.Ytdppkbnjedehbaa
open Go.RowKit

set_option maxRecDepth 20000 in
theorem snoc_iv (l : List Iv) (j : Nat) (hj : j < l.length) : ivL (l.take (j + 1)) = ivL (l.take j) ++ [.int .i64 l[j].lo, .int .i64 l[j].hi] := by rw [take_snoc l j hj, ivL_snoc]
attribute [local go_sem] blk_cell' blk_frozen'
set_option maxRecDepth 20000 in
set_option maxHeartbeats 4000000 in
theorem of_any (l : List Iv) (A : Option Addr) (c : Nat) (W : World) (hR : IvRow W A l) (hl : l.length * 16 ≤ 140737488351232) :
    Calls Try.prog 9 #[.slice A l.length c] W fun e w' => ∃ v, e = .returned v ∧ w'.ownsRow W.heap.size 37 2 v l.length (ivL l) ∧ Mo W w' := by
  have HR := Lib.hid hR
  clear hR
  obtain ⟨N, hN⟩ : ∃ N, l.length = N := ⟨_, rfl⟩
  have HN := Lib.hid hN
  rw [hN] at hl ⊢
  clear hN
  obtain ⟨i0, hi0, hz0, hz1, hz2⟩ := info_parts infoRIv
  go_enter Try.func9, Try.ntmps9
  go_wp2_with fail
  go_loopw [3, 8] (fun v i wr => ∃ j : Nat, j ≤ N ∧ i = .int .i64 j ∧ wr.ownsRow W.heap.size 37 2 v j (ivL (l.take j)) ∧ Mo W wr) (fun _ i _ => N - (intOf i).toNat)
  case atStart => exact ⟨0, by omega, rfl, ⟨rfl, .inl ⟨rfl, rfl⟩⟩, Mo.refl _⟩
  case round =>
    obtain ⟨j, hj, rfl, hown, hM⟩ := hrel
    have OW := Lib.hid hown
    clear hown
    by_cases cj : j < N
    · have hjl : j < l.length := by rw [HN.out]; exact cj
      obtain ⟨g, off, rfl, hc⟩ := (HR.out.mo hM).resolve_left (fun e => by rw [e] at hjl; simp at hjl)
      obtain ⟨y0, y1⟩ := hc j hjl
      clear hc
      have z0 : LtW g wr := LtW.of_cell y0
      have e0 : (0 : Int) ≤ j := by omega
      have e1 : (j : Int) < N := by omega
      have SN := Lib.hid (snoc_iv l j hjl)
      obtain ⟨lo, elo⟩ : ∃ y, l[j].lo = y := ⟨_, rfl⟩
      obtain ⟨hi, ehi⟩ : ∃ y, l[j].hi = y := ⟨_, rfl⟩
      rw [elo] at y0 SN
      rw [ehi] at y1 SN
      clear elo ehi hjl
      go_upto_region 5 with (fail)
      refine wp_name ?_
      intro wq hwq
      have QX : Blk wq wr.heap.size 27 #[.int .i64 lo, .int .i64 hi] := by rw [hwq]; infer_instance
      have QO := Lib.hid (show wq.ownsRow W.heap.size 37 2 u3 j (ivL (l.take j)) by rw [hwq]; exact owns_mo OW.out Mor.out)
      have QM : Mo W wq := by rw [hwq]; exact hM.trans Mor.out
      clear hwq OW hM y0 y1 z0
      go_wp2_with (at_builtin; refine wpList_append_own _ rfl _ _ 24 rfl W.heap.size 37 i0 (.agg #[.int .i64 0, .int .i64 0]) 2 16 Try.underlying24 hi0 hz0 hz1 hz2 rfl (by decide) _ _ _ rfl (owns_mo QO.out Mor.out) ⟨wq.heap.size, 0, none⟩ 1 1 [.int .i64 lo, .int .i64 hi] rfl rfl ?c1 ?c2 ?c3 ?c4 ?c5 ?_)
      case c1 => exact news_of_blk (inferInstance : Blk (wq.alloc (.cells #[.int .i64 lo, .int .i64 hi] 37)) wq.heap.size 37 #[.int .i64 lo, .int .i64 hi]) _ rfl
      case c2 => simp [Value.oneCell']
      case c3 => unfold maxLen; omega
      case c4 => omega
      case c5 => have := QM.size; simp; omega
      intro v' w5 hown1 hgrow _
      have PM : Mo W w5 := mo_grown (QM.trans Mor.out) hgrow (fun k e => (QO.out.lt k e).1)
      have OW1 := Lib.hid hown1
      clear hown1 hgrow
      go_wp2_with fail
      go_roundw
      case rel => exact ⟨j + 1, by omega, by go_num, by rw [SN.out]; exact OW1.out, PM⟩
      case measure => simp [intOf]; omega
    · obtain rfl : j = N := by omega
      have e : l.take j = l := List.take_of_length_le (by rw [HN.out]; exact Nat.le_refl _)
      rw [e] at OW
      go_wp2_with fail
      go_ret
      exact ⟨_, rfl, OW.out, hM⟩
end Go.Proofs.Ytdppkbnjedehbaa
