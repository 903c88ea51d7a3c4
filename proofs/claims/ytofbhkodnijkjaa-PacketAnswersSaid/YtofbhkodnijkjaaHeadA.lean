/- head.Put: the bytes of a header. -/
import Derived.Test.YtofbhkodnijkjaaHeadP
import Derived.Test.YtofbhkodnijkjaaExtD
import Derived.BigRegion
namespace Go.Proofs.Ytofbhkodnijkjaa
open Go.RowKit

/-- what the closure that appends to a captured slice leaves -/
def PutK (g base : Nat) (w w' : World) : Prop := (∀ V, Mo V w → V.heap.size ≤ base → V.heap.size ≤ g → Mo V w') ∧ (∀ k t cs, k ≠ g → t ≠ 5 → Blk w k t cs → Blk w' k t cs)
set_option maxRecDepth 20000 in
theorem PutK.trans {g base : Nat} {a b c : World} (h : PutK g base a b) (k : PutK g base b c) : PutK g base a c :=
  ⟨fun V m h1 h2 => k.1 V (h.1 V m h1 h2) h1 h2, fun n t cs h1 h2 b => k.2 n t cs h1 h2 (h.2 n t cs h1 h2 b)⟩
set_option maxRecDepth 20000 in
theorem PutK.refl (g base : Nat) (a : World) : PutK g base a a := ⟨fun _ m _ _ => m, fun _ _ _ _ _ b => b⟩
set_option maxRecDepth 20000 in
theorem shr_be (x : Int) (k : Nat) : x / 2 ^ (8 * k) % 256 = x / 256 ^ k % 256 := by
  rw [Int.pow_mul]; rfl
set_option maxRecDepth 20000 in
theorem boxed_of {w : World} {g : Nat} {t : TypeId} {v : Value} (h : Blk w g t #[v]) : Boxed w g t v := h.out
attribute [local go_sem ↓] app_fold
set_option maxRecDepth 20000 in
set_option maxHeartbeats 4000000 in
theorem put1_any (x : Int) (many g base n : Nat) (v : Value) (bs : List Int) (W : World) (hx : 0 ≤ x ∧ x ≤ 18446744073709551615) (hm : many ≤ 8) (hn : n ≤ 100000) (hB : Blk W g 31 #[v]) (ho : W.ownsRow base 5 1 v n (byteL bs)) (hb : base ≤ W.heap.size) :
    Calls Try.prog 38 #[.int .u64 x, .int .i64 (many : Int), .pointer (some ⟨g, 0, none⟩)] W fun e w' => e = .returned (.tuple #[]) ∧ ∃ v', Blk w' g 31 #[v'] ∧ w'.ownsRow base 5 1 v' (n + many) (byteL (bs ++ be many x)) ∧ PutK g base W w' := by
  obtain ⟨hx1, hx2⟩ := hx
  have HB := Lib.hid hB
  have HO := Lib.hid ho
  clear hB ho
  go_enter Try.func38, Try.ntmps38
  go_wp2_with fail
  go_loopw [5] (fun i wr => ∃ (j : Nat) (v : Value) (ys : List Int), i = .int .i64 ((j : Int) - 1) ∧ j ≤ many ∧ Blk wr g 31 #[v] ∧ wr.ownsRow base 5 1 v (n + (many - j)) (byteL ys) ∧ ys ++ be j x = bs ++ be many x ∧ PutK g base W wr ∧ base ≤ wr.heap.size) (fun i _ => (intOf i + 1).toNat)
  case atStart => exact ⟨many, v, bs, by go_num, by omega, HB.out, by rw [Nat.sub_self, Nat.add_zero]; exact HO.out, rfl, PutK.refl _ _ _, hb⟩
  case round =>
    obtain ⟨j, v, ys, rfl, hj, hB, ho, he, hK, hb'⟩ := hrel
    have HE := Lib.hid he
    have OW := Lib.hid ho
    clear he ho hb HB HO
    cases j with
    | zero =>
      go_wp2_with fail
      go_end0
      refine ⟨rfl, v, hB, ?_, hK⟩
      have e := HE.out
      simp only [be, List.append_nil] at e
      rw [← e]
      exact OW.out
    | succ k =>
      have ek : (((k + 1 : Nat) : Int) - 1) = k := by omega
      rw [ek]
      clear ek
      have y : wr.cell? ⟨g, 0, none⟩ = some v := by rw [blk_cell hB]; rfl
      have z := blk_frozen hB 0
      have i0 : (0 : Int) ≤ k := by omega
      obtain ⟨tb, hib, hb0, hb1, hb2⟩ := info_parts infoB
      obtain ⟨c, hc⟩ : ∃ c : Int, x / 2 ^ (8 * k) % 256 = c := ⟨_, rfl⟩
      have hT := (Mor.out : Mo wr ((wr.alloc (.cells #[.int .u8 c] 5)).drew))
      obtain ⟨v4, w4, hrun, hown4, hgrow4, -, -⟩ := run_append_own_at (P := Try.prog) ((wr.alloc (.cells #[.int .u8 c] 5)).drew) base 31 31 5 tb (.int .u8 0) 1 1 Try.underlying31 hib hb0 hb1 hb2 rfl (by decide) _ _ _ (owns_mo OW.out hT) ⟨wr.heap.size, 0, none⟩ 1 1 [.int .u8 c] rfl (news_of_blk (g := wr.heap.size) (t := 5) (cs := #[.int .u8 c]) inferInstance _ rfl) (by intro u hu; simp at hu; subst hu; rfl) (by unfold maxLen; omega) (by omega) (by simp; omega)
      replace hrun : (appAny #[31, 31] 31 #[v, .slice (some ⟨wr.heap.size, 0, none⟩) 1 1]).run Try.prog _ = .ok v4 w4 := hrun
      obtain ⟨g4, c4, rfl⟩ := ownsRow_succ hown4
      have gne : some g ≠ v.ownBlock := (boxed_of hB).not_row (by decide) OW.out
      have hB4 : Blk w4 g 31 #[v] := ⟨(hgrow4.block g (by have := hB.lt; simp; omega) gne).trans (inferInstance : Blk ((wr.alloc (.cells #[.int .u8 c] 5)).drew) g 31 #[v]).out⟩
      have y4 : w4.cell? ⟨g, 0, none⟩ = some v := by rw [blk_cell hB4]; rfl
      have z4 := blk_frozen hB4 0
      have hS4 := Lib.hid (owns_set_box hown4 (boxed_of hB4) (by decide) (.slice (some ⟨g4, 0, none⟩) (n + (many - (k + 1)) + 1) c4))
      have hK4 : PutK g base wr (w4.setCell ⟨g, 0, none⟩ (.slice (some ⟨g4, 0, none⟩) (n + (many - (k + 1)) + 1) c4)) := by
        refine ⟨fun V m h1 h2 => mo_setCell (mo_grown (m.trans hT) hgrow4 (fun j e => Nat.le_trans h1 (OW.out.lt j e).1)) h2 0 _, fun n t cs h1 h2 b => blk_setCell_ne ⟨(hgrow4.block n (by have := b.lt; simp; omega) ?_).trans (hT.blk b).out⟩ (Ne.symm h1) 0 _⟩
        rcases OW.out.2 with ⟨e, _⟩ | ⟨q, cap', cur, e, _, hq, _⟩
        · rw [e]; simp [Value.ownBlock]
        · rw [e]
          intro e2
          obtain rfl : n = q := by simpa [Value.ownBlock] using e2
          rw [b.out] at hq
          simp at hq
          exact h2 hq.2
      have hs4 : base ≤ (w4.setCell ⟨g, 0, none⟩ (.slice (some ⟨g4, 0, none⟩) (n + (many - (k + 1)) + 1) c4)).heap.size := by
        have h1 := hT.size
        have h2 := hgrow4.size
        have : (w4.setCell ⟨g, 0, none⟩ (.slice (some ⟨g4, 0, none⟩) (n + (many - (k + 1)) + 1) c4)).heap.size = w4.heap.size := by simp
        omega
      have hB5 := Lib.hid (blk_setCell hB4 0 (.slice (some ⟨g4, 0, none⟩) (n + (many - (k + 1)) + 1) c4))
      have HC := Lib.hid hc
      have HS := Lib.hid hs4
      have HK := Lib.hid hK
      have HK4 := Lib.hid hK4
      clear hown4 hgrow4 gne hT hib hb0 hb1 hb2 hs4 hK hK4 hB4
      go_upto_region 3 with (fail)
      go_region
      go_wp2_with fail
      go_roundw
      case rel => exact ⟨k, _, ys ++ [c], rfl, by omega, hB5.out, by
          rw [show n + (many - k) = n + (many - (k + 1)) + 1 by omega]
          unfold byteL
          rw [List.map_append]
          exact hS4.out, by
          rw [List.append_assoc, ← HC.out, shr_be]
          exact HE.out, HK.out.trans HK4.out, HS.out⟩
      case measure => simp [intOf]
set_option maxRecDepth 20000 in
set_option maxHeartbeats 2000000 in
theorem may_any (h : Hd) (W : World) : Calls Try.prog 37 #[hdV h] W fun e w' => e = .returned (.bool (mayH h)) ∧ Mo W w' := by
  obtain ⟨r, hr⟩ : ∃ r, mayH h = r := ⟨_, rfl⟩
  rw [hr]
  unfold mayH at hr
  have HR := Lib.hid hr
  clear hr
  have h1 := HR.out
  by_cases a : h.l < 4
  · by_cases b : h.v < 8
    · obtain ⟨q, hq⟩ : ∃ q, decide (h.m < 8) = q := ⟨_, rfl⟩
      obtain rfl : r = q := by rw [← h1, decide_eq_true a, decide_eq_true b, hq]; rfl
      clear h1 HR
      go_enter Try.func37, Try.ntmps37
      go_wp2_with fail
      go_ret
      exact ⟨rfl, Mor.out⟩
    · obtain rfl : r = false := by rw [← h1, decide_eq_false b]; simp
      clear h1 HR
      go_enter Try.func37, Try.ntmps37
      go_wp2_with fail
      go_ret
      exact ⟨rfl, Mor.out⟩
  · obtain rfl : r = false := by rw [← h1, decide_eq_false a]; simp
    clear h1 HR
    go_enter Try.func37, Try.ntmps37
    go_wp2_with fail
    go_ret
    exact ⟨rfl, Mor.out⟩
end Go.Proofs.Ytofbhkodnijkjaa
