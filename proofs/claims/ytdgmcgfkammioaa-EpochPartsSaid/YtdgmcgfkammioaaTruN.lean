/- law33: the closure of truth.cover that notes a point. -/
import Derived.Test.YtdgmcgfkammioaaTruS
import Derived.Test.YtdgmcgfkammioaaKpS
namespace Go.Proofs.Ytdgmcgfkammioaa
open Go.RowKit

/-- the blocks that the closure has -/
structure NoteW (w : World) (gE gH gM gF gO : Nat) (h n c m : Nat) (e : Nat) (f : Bool) (lo hi : Int) : Prop where
  bE : Blk w gE 3 #[.int .i64 e]
  bH : Blk w gH 66 #[.slice (some ⟨h, 0, none⟩) n c]
  bM : Blk w gM 3 #[.int .i64 m]
  bF : Blk w gF 4 #[.bool f]
  bO : Blk w gO 97 #[.int .i64 lo, .int .i64 hi]
def NoteRet (gE gH gM gF gO h n c m e begn : Nat) (f : Bool) (at_ lo hi : Int) (W : World) (en : Ending) (w' : World) : Prop :=
  en = .returned (.tuple #[]) ∧ KpS (fun i => i = gE ∨ i = gF ∨ i = gO) W w' ∧
      ((begn < m + e ∧ NoteW w' gE gH gM gF gO h n c m e f lo hi) ∨ (m + e ≤ begn ∧ NoteW w' gE gH gM gF gO h n c m e true (if f then lo else at_) at_))
set_option maxRecDepth 20000 in
theorem blk_type_ne {w : World} {g g' : Nat} {t t' : TypeId} {cs cs' : Array Value} (h : Blk w g t cs) (k : Blk w g' t' cs') (ne : t ≠ t') : g ≠ g' := by
  rintro rfl
  have := h.out.symm.trans k.out
  simp at this
  exact ne this.2
attribute [local go_sem] blk_cell' blk_frozen'
set_option maxRecDepth 20000 in
set_option maxHeartbeats 4000000 in
theorem note_any (gE gH gM gF gO h n c m e begn : Nat) (f : Bool) (at_ lo hi : Int) (H : List Int) (W : World) (hw : NoteW W gE gH gM gF gO h n c m e f lo hi) (hEM : gE ≠ gM)
    (hn : H.length = n) (hn2 : n ≤ 65536) (hb : begn ≤ 65536) (sH : H.Pairwise (· ≤ ·)) (he : e ≤ ended H at_)
    (hrow : ∀ w, KpS (fun i => i = gE ∨ i = gF ∨ i = gO) W w → ∀ (j : Nat) u, (i64L H)[j]? = some u → w.cell? ⟨h, j, none⟩ = some u) :
    Calls Try.prog 77 #[.int .i64 at_, .int .i64 begn, .pointer (some ⟨gE, 0, none⟩), .pointer (some ⟨gH, 0, none⟩), .pointer (some ⟨gM, 0, none⟩), .pointer (some ⟨gF, 0, none⟩), .pointer (some ⟨gO, 0, none⟩)] W (NoteRet gE gH gM gF gO h n c m (ended H at_) begn f at_ lo hi W) := by
  obtain ⟨PO, hPO⟩ : ∃ P, NoteRet gE gH gM gF gO h n c m (ended H at_) begn f at_ lo hi W = P := ⟨_, rfl⟩
  rw [hPO]
  have RR := Lib.hid hPO
  clear hPO
  obtain ⟨bE, bH, bM, bF, bO⟩ := hw
  have HROW := Lib.hid hrow
  have HI := Lib.hid (fun j (hj : j < H.length) => ended_iff sH at_ j hj)
  have HL := Lib.hid hn
  have nEH := blk_type_ne bE bH (by decide)
  have nEF := blk_type_ne bE bF (by decide)
  have nEO := blk_type_ne bE bO (by decide)
  have nFH := blk_type_ne bF bH (by decide)
  have nFM := blk_type_ne bF bM (by decide)
  have nFO := blk_type_ne bF bO (by decide)
  have nOH := blk_type_ne bO bH (by decide)
  have nOM := blk_type_ne bO bM (by decide)
  have hen : ended H at_ ≤ n := by rw [← hn]; exact ended_le _ _
  obtain ⟨E, hE⟩ : ∃ E, ended H at_ = E := ⟨_, rfl⟩
  rw [hE] at he hen HI RR
  clear hrow hn sH hE
  go_enter Try.func77, Try.ntmps77
  go_wp2_with fail
  go_loopw [] (fun wr => ∃ j : Nat, j ≤ E ∧ Blk wr gE 3 #[.int .i64 j] ∧ KpS (fun i => i = gE) W wr) (fun wr => E - (intOf ((wr.cell? ⟨gE, 0, none⟩).getD undef)).toNat)
  case atStart => exact ⟨e, he, bE, KpS.refl _ _⟩
  case round =>
    obtain ⟨j, hj, bj, hK⟩ := hrel
    have kH := hK.blk bH (Ne.symm nEH)
    have kM := hK.blk bM (Ne.symm hEM)
    have kF := hK.blk bF (Ne.symm nEF)
    have kO := hK.blk bO (Ne.symm nEO)
    have KK := Lib.hid (hK.mono (S' := fun i => i = gE ∨ i = gF ∨ i = gO) fun _ _ q => .inl q)
    by_cases cj : j < n
    · have hjl : j < H.length := by rw [HL.out]; exact cj
      have y0 : wr.cell? ⟨h, j, none⟩ = some (.int .i64 H[j]) := HROW.out wr KK.out j _ (by unfold i64L; rw [List.getElem?_map, List.getElem?_eq_getElem hjl]; rfl)
      have z0 : LtW h wr := LtW.of_cell y0
      have HJ := Lib.hid (HI.out j hjl)
      obtain ⟨x, hx⟩ : ∃ x, H[j] = x := ⟨_, rfl⟩
      rw [hx] at y0 HJ
      clear hx hjl
      have e0 : (0 : Int) ≤ j := by omega
      have e1 : (j : Int) < n := by omega
      have d0 : decide ((j : Int) < n) = true := decide_eq_true e1
      by_cases c1 : x < at_
      · have d1 : decide (x < at_) = true := decide_eq_true c1
        have h1 := HJ.out.1 c1
        have w1 : IntKind.i64.wrap ((j : Int) + 1) = j + 1 := by rw [IntKind.wrap_i64]; omega
        clear c1 HJ
        go_wp2_with fail
        go_roundw
        case rel => exact ⟨j + 1, by omega, blk_setCell bj 0 _, hK.cell rfl 0 _⟩
        case measure =>
          rw [blk_cell (blk_setCell bj 0 _), blk_cell bj]
          simp [intOf]
          omega
      · have d1 : decide (x < at_) = false := decide_eq_false c1
        obtain rfl : j = E := by
          rcases Nat.lt_or_ge j E with q | q
          · exact absurd (HJ.out.2 q) c1
          · omega
        clear c1 HJ
        have w1 : IntKind.i64.wrap ((begn : Int) - j) = begn - j := by rw [IntKind.wrap_i64]; omega
        by_cases cb : begn < m + j
        · have d2 : decide ((begn : Int) - j < m) = true := decide_eq_true (by omega)
          go_wp2_with fail
          refine bodyPost_ret (results_none rfl _ _ _) rfl ?_
          rw [← RR.out]
          exact ⟨rfl, KK.out, .inl ⟨cb, ⟨bj, kH, kM, kF, kO⟩⟩⟩
        · have d2 : decide ((begn : Int) - j < m) = false := decide_eq_false (by omega)
          cases f with
          | true =>
            go_wp2_with fail
            go_end0
            rw [← RR.out]
            exact ⟨rfl, KK.out.cell (.inr (.inr rfl)) 1 _, .inr ⟨by omega, ⟨blk_setCell_ne bj (Ne.symm nEO) 1 _, blk_setCell_ne kH nOH 1 _, blk_setCell_ne kM nOM 1 _, blk_setCell_ne kF (Ne.symm nFO) 1 _, blk_setCell kO 1 _⟩⟩⟩
          | false =>
            go_wp2_with fail
            go_end0
            rw [← RR.out]
            exact ⟨rfl, ((KK.out.cell (.inr (.inr rfl)) 0 _).cell (.inr (.inl rfl)) 0 _).cell (.inr (.inr rfl)) 1 _, .inr ⟨by omega, ⟨blk_setCell_ne (blk_setCell_ne (blk_setCell_ne bj (Ne.symm nEO) 0 _) (Ne.symm nEF) 0 _) (Ne.symm nEO) 1 _, blk_setCell_ne (blk_setCell_ne (blk_setCell_ne kH nOH 0 _) nFH 0 _) nOH 1 _,
              blk_setCell_ne (blk_setCell_ne (blk_setCell_ne kM nOM 0 _) nFM 0 _) nOM 1 _, blk_setCell_ne (blk_setCell (blk_setCell_ne kF (Ne.symm nFO) 0 _) 0 _) (Ne.symm nFO) 1 _, blk_setCell (blk_setCell_ne (blk_setCell kO 0 _) nFO 0 _) 1 _⟩⟩⟩
    · have d0 : decide ((j : Int) < n) = false := decide_eq_false (by omega)
      obtain rfl : j = E := by omega
      have w1 : IntKind.i64.wrap ((begn : Int) - j) = begn - j := by rw [IntKind.wrap_i64]; omega
      by_cases cb : begn < m + j
      · have d2 : decide ((begn : Int) - j < m) = true := decide_eq_true (by omega)
        go_wp2_with fail
        refine bodyPost_ret (results_none rfl _ _ _) rfl ?_
        rw [← RR.out]
        exact ⟨rfl, KK.out, .inl ⟨cb, ⟨bj, kH, kM, kF, kO⟩⟩⟩
      · have d2 : decide ((begn : Int) - j < m) = false := decide_eq_false (by omega)
        cases f with
        | true =>
          go_wp2_with fail
          go_end0
          rw [← RR.out]
          exact ⟨rfl, KK.out.cell (.inr (.inr rfl)) 1 _, .inr ⟨by omega, ⟨blk_setCell_ne bj (Ne.symm nEO) 1 _, blk_setCell_ne kH nOH 1 _, blk_setCell_ne kM nOM 1 _, blk_setCell_ne kF (Ne.symm nFO) 1 _, blk_setCell kO 1 _⟩⟩⟩
        | false =>
          go_wp2_with fail
          go_end0
          rw [← RR.out]
          exact ⟨rfl, ((KK.out.cell (.inr (.inr rfl)) 0 _).cell (.inr (.inl rfl)) 0 _).cell (.inr (.inr rfl)) 1 _, .inr ⟨by omega, ⟨blk_setCell_ne (blk_setCell_ne (blk_setCell_ne bj (Ne.symm nEO) 0 _) (Ne.symm nEF) 0 _) (Ne.symm nEO) 1 _, blk_setCell_ne (blk_setCell_ne (blk_setCell_ne kH nOH 0 _) nFH 0 _) nOH 1 _,
            blk_setCell_ne (blk_setCell_ne (blk_setCell_ne kM nOM 0 _) nFM 0 _) nOM 1 _, blk_setCell_ne (blk_setCell (blk_setCell_ne kF (Ne.symm nFO) 0 _) 0 _) (Ne.symm nFO) 1 _, blk_setCell (blk_setCell_ne (blk_setCell kO 0 _) nFO 0 _) 1 _⟩⟩⟩
end Go.Proofs.Ytdgmcgfkammioaa
