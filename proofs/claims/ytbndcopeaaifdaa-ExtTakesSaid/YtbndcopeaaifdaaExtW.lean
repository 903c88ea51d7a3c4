/- horologelaw21.works: the document's examples. -/
import Derived.Test.YtbndcopeaaifdaaExtL
import Derived.Test.YtbndcopeaaifdaaExtF
namespace Go.Proofs.Ytbndcopeaaifdaa
open Go.RowKit

def byteZ (n : Nat) : Array Value := Array.replicate n (.int .u8 0)
theorem make_bytes (n : Nat) (hn : n ≤ 100000) (w : World) : (Instr.makeSlice 23 (.int .i64 (n : Int)) (.int .i64 (n : Int))).run Try.prog w = .ok (.slice (some ⟨w.heap.size, 0, none⟩) n n) (w.alloc (.cells (byteZ n) 5)) := by
  obtain ⟨i0, hi, hz0, hz1, hz2⟩ := info_parts infoB
  have := run_make w 23 5 i0 _ Try.underlying23 hi hz0 .i64 .i64 (n : Int) (n : Int) (by omega) (Int.le_refl _) (by rw [hz2]; omega) (by omega)
  rw [hz1, show ((n : Int)).toNat = n by omega] at this
  rw [this, show madeCells (Value.int .u8 0).cells (n * 1) = byteZ n from Array.toList_inj.1 (by
    rw [Nat.mul_one]
    show (madeCells #[Value.int .u8 0] n).toList = _
    rw [toList_madeCells_one]
    simp [byteZ])]
theorem byteS_zeros {w : World} {g n : Nat} (h : Blk w g 5 (byteZ n)) (hl : n ≤ 140737488355328) : ByteS w (some ⟨g, 0, none⟩) n (zeros n) := by
  have := byteS_blk h (zeros n) (by simp [byteZ]) (by intro c hc; rw [List.eq_of_mem_replicate hc]; omega) (by simp; omega)
  rwa [List.length_replicate] at this
theorem byteS_nil (w : World) : ByteS w none 0 [] := ⟨by simp, by simp, by simp, fun _ => rfl, .inl rfl⟩
theorem extS_one {w : World} {g : Nat} {k : Int} {u : Value} {v : List Int} (h : Blk w g 43 #[.int .u16 k, u]) (h1 : 0 ≤ k) (h2 : k ≤ 65535) (hu : ByteV w u v) : ExtS w (some ⟨g, 0, none⟩) 1 [⟨k, v⟩] :=
  ⟨by simp, by simp, fun e => (by cases e), .inr ⟨g, 0, rfl, fun i hi => by
    have : i = 0 := by simpa using hi
    subst this
    exact ⟨by rw [blk_cell h]; rfl, h1, h2, u, by rw [blk_cell h]; rfl, hu⟩⟩⟩
set_option maxRecDepth 20000 in
set_option maxHeartbeats 4000000 in
theorem works_any (W : World) : Calls Try.prog 9 #[] W fun e w' => e = .returned (.bool true) ∧ Mo W w' := by
  have m20 : ∀ w : World, (Instr.makeSlice 23 (.int .i64 20) (.int .i64 20)).run Try.prog w = .ok (.slice (some ⟨w.heap.size, 0, none⟩) 20 20) (w.alloc (.cells (byteZ 20) 5)) := make_bytes 20 (by omega)
  have m12 : ∀ w : World, (Instr.makeSlice 23 (.int .i64 12) (.int .i64 12)).run Try.prog w = .ok (.slice (some ⟨w.heap.size, 0, none⟩) 12 12) (w.alloc (.cells (byteZ 12) 5)) := make_bytes 12 (by omega)
  have m24 : ∀ w : World, (Instr.makeSlice 23 (.int .i64 24) (.int .i64 24)).run Try.prog w = .ok (.slice (some ⟨w.heap.size, 0, none⟩) 24 24) (w.alloc (.cells (byteZ 24) 5)) := make_bytes 24 (by omega)
  go_enter Try.func9, Try.ntmps9
  go_wp2_with fail
  refine (take_any (some ⟨W.heap.size, 0, none⟩) 20 20 (zeros 20) _ rfl (byteS_zeros inferInstance (by omega))).mono ?_
  rw [takeM_20]
  rintro e w1 ⟨v1, v2, rfl, ⟨A1, c1, rfl, h1⟩, ⟨A2, c2, rfl, h2⟩, M1⟩
  have M1' := Mo.trans (Mor.out : Mo W _) M1
  clear M1 h1 h2
  simp only [List.length_nil, List.length_replicate]
  go_wp2_with fail
  refine (take_any (some ⟨w1.heap.size, 0, none⟩) 12 12 (zeros 12) _ rfl (byteS_zeros inferInstance (by omega))).mono ?_
  rw [takeM_12]
  rintro e w2 ⟨v1, v2, rfl, ⟨A3, c3, rfl, h1⟩, ⟨A4, c4, rfl, h2⟩, M2⟩
  have M2' := M1'.trans (Mo.trans (Mor.out : Mo w1 _) M2)
  clear M2 h1 h2 M1'
  simp only [List.length_nil]
  go_wp2_with fail
  refine (put_any (some ⟨w2.heap.size + 1 + 1, 0, none⟩) none 1 0 1 0 [⟨1, zeros 12⟩] [] _ rfl rfl (extS_one inferInstance (by omega) (by omega) ⟨_, 12, rfl, byteS_zeros inferInstance (by omega)⟩) (byteS_nil _) (by omega) (by decide)).mono ?_
  rw [putM_short]
  rintro e w3 ⟨v1, rfl, ⟨A5, c5, rfl, h1⟩, M3⟩
  have B3 : Blk w3 (w2.heap.size + 1) 43 #[.int .u16 1, .slice (some ⟨w2.heap.size, 0, none⟩) 12 12] := M3.blk inferInstance
  have Z3 : Blk w3 w2.heap.size 5 (byteZ 12) := M3.blk inferInstance
  have M3' := M2'.trans (Mo.trans (Mor.out : Mo w2 _) M3)
  clear M3 h1 M2'
  simp only [List.length_nil]
  have k0 : w3.cell? ⟨w2.heap.size + 1, 0, none⟩ = some (.int .u16 1) := by rw [blk_cell B3]; rfl
  have k1 : w3.cell? ⟨w2.heap.size + 1, 1, none⟩ = some (.slice (some ⟨w2.heap.size, 0, none⟩) 12 12) := by rw [blk_cell B3]; rfl
  go_upto_region 5 with (fail)
  go_cut [10, 11] (fun s10 s11 wx => ∃ A c, s10 = .slice A 36 c ∧ s11 = .int .i64 0 ∧ Mo w3 wx)
  case first =>
    have P36 : ∀ w g1 g2, Blk w g1 43 #[.int .u16 1, .slice (some ⟨w2.heap.size, 0, none⟩) 12 12] → Blk w w2.heap.size 5 (byteZ 12) → Blk w g2 5 (byteZ 20) → Calls Try.prog 10 #[.slice (some ⟨g1, 0, none⟩) 1 1, .slice (some ⟨g2, 0, none⟩) 20 20] w (PutRet (encM [⟨1, zeros 12⟩] ++ zeros 20, 0) w) := by
      intro w g1 g2 b1 b2 b3
      rw [← putM_36]
      exact put_any _ _ 1 20 1 20 [⟨1, zeros 12⟩] (zeros 20) _ rfl rfl (extS_one b1 (by omega) (by omega) ⟨_, 12, rfl, byteS_zeros b2 (by omega)⟩) (byteS_zeros b3 (by omega)) (by omega) (by decide)
    go_region_with (((with_reducible refine (P36 _ _ _ inferInstance inferInstance inferInstance).mono ?_); rintro e w4 ⟨v1, rfl, ⟨A6, c6, rfl, h1⟩, M4⟩
                     have M4' := Mo.trans (Mor.out : Mo w3 _) M4
                     clear h1 M4
                     have e36 : (encM [⟨1, zeros 12⟩] ++ zeros 20).length = 36 := rfl
                     simp only [e36]))
    all_goals (go_wp2_with fail; go_meet; exact ⟨_, _, rfl, rfl, M4'⟩)
  obtain ⟨A6, c6, rfl, rfl, M4⟩ := hcut
  have M4' := M3'.trans M4
  clear M4 M3' k0 k1 B3 Z3
  have P28 : ∀ w g1 g2, Blk w g1 43 #[.int .u16 1, .slice (some ⟨g2, 0, none⟩) 24 24] → Blk w g2 5 (byteZ 24) → Calls Try.prog 10 #[.slice (some ⟨g1, 0, none⟩) 1 1, .slice none 0 0] w (PutRet (encM [⟨1, zeros 24⟩] ++ [], 0) w) := by
    intro w g1 g2 b1 b2
    rw [← putM_28]
    exact put_any _ _ 1 0 1 0 [⟨1, zeros 24⟩] [] _ rfl rfl (extS_one b1 (by omega) (by omega) ⟨_, 24, rfl, byteS_zeros b2 (by omega)⟩) (byteS_nil _) (by omega) (by decide)
  go_wp2_with fail
  refine (P28 _ _ _ inferInstance inferInstance).mono ?_
  rintro e w5 ⟨v1, rfl, ⟨A7, c7, rfl, h1⟩, M5⟩
  have M5' := M4'.trans (Mo.trans (Mor.out : Mo wc _) M5)
  clear M5 M4'
  have e28 : (encM [⟨1, zeros 24⟩] ++ []).length = 28 := rfl
  obtain ⟨g, off, rfl, LG, hc⟩ := h1.get (by rw [e28]; omega)
  have k1 := (hc 1 (by rw [e28]; omega)).1
  have k3 := (hc 3 (by rw [e28]; omega)).1
  have k1' : w5.cell? ⟨g, off + 1, none⟩ = some (.int .u8 1) := k1
  have k3' : w5.cell? ⟨g, off + 3, none⟩ = some (.int .u8 28) := k3
  simp only [e28]
  clear h1 k1 k3 hc
  go_wp2_with fail
  go_ret
  exact ⟨rfl, M5'⟩
end Go.Proofs.Ytbndcopeaaifdaa
