/- horologelaw21.ExtKnown: the walk. -/
import Derived.Test.YtbndcopeaaifdaaExtEO
import Derived.Test.YtbndcopeaaifdaaExtN
import Derived.Test.YtbndcopeaaifdaaPad21
import Derived.Test.YtbndcopeaaifdaaFind21
namespace Go.Proofs.Ytbndcopeaaifdaa
open Go.RowKit

theorem padM_24 : padM (zeros 24) = zeros 24 := by decide
def rowM : Array Value := madeCells #[.int .u16 0, .slice none 0 0] 66
theorem rowM_size : rowM.size = 66 := size_madeCells _ _
theorem make_many (w : World) : (Instr.makeSlice 22 (.int .i64 33) (.int .i64 33)).run Try.prog w = .ok (.slice (some ⟨w.heap.size, 0, none⟩) 33 33) (w.alloc (.cells rowM 43)) := by
  obtain ⟨i0, hi, hz0, hz1, hz2⟩ := info_parts infoExt
  have := run_make w 22 43 i0 _ Try.underlying22 hi hz0 .i64 .i64 33 33 (by omega) (Int.le_refl _) (by rw [hz2]; omega) (by omega)
  rw [hz1] at this
  exact this
def NoB (cs : Array Value) : Prop := ∀ v ∈ cs.toList, ∀ c, v ≠ .int .u8 c
theorem NoB.set {cs : Array Value} (h : NoB cs) (i : Nat) (u : Value) (hu : ∀ c, u ≠ .int .u8 c) : NoB (cs.setIfInBounds i u) := by
  intro v hv
  rw [Array.toList_setIfInBounds] at hv
  rcases List.mem_or_eq_of_mem_set hv with h1 | rfl
  · exact h v h1
  · exact hu
theorem noB_rowM : NoB rowM := by
  intro v hv c e
  subst e
  have : rowM.toList.all (fun v => match v with | .int .u8 _ => false | _ => true) = true := by decide +kernel
  have := List.all_eq_true.1 this _ hv
  simp at this
theorem byteS_set {w : World} {A : Option Addr} {cap B i : Nat} {bs : List Int} {t : TypeId} {cs : Array Value} (h : ByteS w A cap bs) (hB : Blk w B t cs) (hn : NoB cs) (u : Value) : ByteS (w.setCell ⟨B, i, none⟩ u) A cap bs := by
  refine ⟨h.le, h.lim, h.byte, h.nil, ?_⟩
  rcases h.at_ with e | ⟨g, off, rfl, hc⟩
  · exact .inl e
  · refine .inr ⟨g, off, rfl, fun j hj => ?_⟩
    have hne : g ≠ B := by
      rintro rfl
      have := hc j hj
      rw [blk_cell hB] at this
      have hm : (.int .u8 bs[j] : Value) ∈ cs.toList := by
        obtain ⟨h1, h2⟩ := Array.getElem?_eq_some_iff.1 this
        rw [← h2]
        exact Array.getElem_mem_toList ..
      exact hn _ hm _ rfl
    rw [World.cell?_setCell_other _ _ _ _ (by intro e; injection e; omega)]
    exact hc j hj
theorem byteV_set {w : World} {B i : Nat} {v : Value} {bs : List Int} {t : TypeId} {cs : Array Value} (h : ByteV w v bs) (hB : Blk w B t cs) (hn : NoB cs) (u : Value) : ByteV (w.setCell ⟨B, i, none⟩ u) v bs := by
  obtain ⟨A, cap, e, hb⟩ := h
  exact ⟨A, cap, e, byteS_set hb hB hn u⟩
structure ManyB (w : World) (B k : Nat) (cs : Array Value) : Prop where
  blk : Blk w B 43 cs
  size : cs.size = 66
  nob : NoB cs
  val : ∀ i, i < k → cs[i * 2]? = some (.int .u16 i) ∧ ∃ u, cs[i * 2 + 1]? = some u ∧ ByteV w u (zeros 24)
theorem ManyB.mo {w w' : World} {B k : Nat} {cs : Array Value} (h : ManyB w B k cs) (m : Mo w w') : ManyB w' B k cs := ⟨m.blk h.blk, h.size, h.nob, fun i hi => by
  obtain ⟨h1, u, h2, h3⟩ := h.val i hi
  exact ⟨h1, u, h2, h3.mo m⟩⟩
theorem ManyB.ext {w : World} {B k : Nat} {cs : Array Value} (h : ManyB w B k cs) (a n : Nat) (hk : k ≤ 33) (hn : a + n ≤ k) : ExtS w (some ⟨B, a * 2, none⟩) n (manyL a n) := by
  have hl : (manyL a n).length = n := by simp [manyL]
  refine ⟨by rw [hl]; omega, by rw [hl]; omega, fun e => (by cases e), .inr ⟨B, a * 2, rfl, fun i hi => ?_⟩⟩
  rw [hl] at hi
  obtain ⟨h1, u, h2, h3⟩ := h.val (a + i) (by omega)
  have e : (manyL a n)[i] = mF (a + i) := by simp [manyL]
  rw [e]
  refine ⟨?_, by simp only; omega, by simp only; omega, u, ?_, h3⟩
  · rw [blk_cell h.blk, show a * 2 + i * 2 = (a + i) * 2 by omega, h1]
  · rw [blk_cell h.blk, show a * 2 + i * 2 + 1 = (a + i) * 2 + 1 by omega, h2]
theorem ManyB.put {w : World} {B k : Nat} {cs : Array Value} (h : ManyB w B k cs) (hk : k < 33) {v : Value} (hv : ByteV w v (zeros 24)) :
    ManyB ((w.setCell ⟨B, k * 2, none⟩ (.int .u16 k)).setCell ⟨B, k * 2 + 1, none⟩ v) B (k + 1) ((cs.setIfInBounds (k * 2) (.int .u16 k)).setIfInBounds (k * 2 + 1) v) := by
  have n1 := h.nob.set (k * 2) (.int .u16 k) (fun c e => by injection e with e1; cases e1)
  have b1 := blk_setCell h.blk (k * 2) (.int .u16 k)
  have hv1 : ∀ c, v ≠ .int .u8 c := by
    obtain ⟨A, cap, rfl, _⟩ := hv
    intro c e
    cases e
  have sz := h.size
  refine ⟨blk_setCell b1 _ _, by simp [h.size], n1.set _ _ hv1, fun i hi => ?_⟩
  by_cases e : i = k
  · subst e
    refine ⟨?_, v, ?_, byteV_set (byteV_set hv h.blk h.nob _) b1 n1 _⟩
    · rw [Array.getElem?_setIfInBounds, if_neg (by omega), Array.getElem?_setIfInBounds, if_pos rfl, if_pos (by omega)]
    · rw [Array.getElem?_setIfInBounds, if_pos rfl, if_pos (by simp; omega)]
  · obtain ⟨h1, u, h2, h3⟩ := h.val i (by omega)
    refine ⟨?_, u, ?_, byteV_set (byteV_set h3 h.blk h.nob _) b1 n1 _⟩
    · rw [Array.getElem?_setIfInBounds, if_neg (by omega), Array.getElem?_setIfInBounds, if_neg (by omega), h1]
    · rw [Array.getElem?_setIfInBounds, if_neg (by omega), Array.getElem?_setIfInBounds, if_neg (by omega), h2]
set_option maxRecDepth 20000 in
set_option maxHeartbeats 8000000 in
theorem known21_any (W : World) : Calls Try.prog 6 #[] W fun e w' => e = .returned (.bool true) ∧ Mo W w' := by
  have m24 : ∀ w : World, (Instr.makeSlice 23 (.int .i64 24) (.int .i64 24)).run Try.prog w = .ok (.slice (some ⟨w.heap.size, 0, none⟩) 24 24) (w.alloc (.cells (byteZ 24) 5)) := make_bytes 24 (by omega)
  have mm := make_many
  go_enter Try.func6, Try.ntmps6
  go_wp2_with fail
  refine (works_any _).mono ?_
  rintro e w1 ⟨rfl, M1⟩
  go_wp2_with fail
  refine wp_name ?_
  intro V hV
  have MV : Mo w1 V := by rw [hV]; exact Mor.out
  have B0 : Blk V w1.heap.size 43 rowM := by rw [hV]; infer_instance
  clear hV
  go_loopw [2, 22] (fun v i wr => ∃ (k : Nat) (cs : Array Value), k ≤ 33 ∧ i = .int .i64 k ∧ ManyB wr w1.heap.size k cs ∧ Mo w1 wr) (fun _ i _ => 33 - (intOf i).toNat)
  case atStart => exact ⟨0, _, by omega, rfl, ⟨B0, rowM_size, noB_rowM, fun i hi => by omega⟩, MV⟩
  case round =>
    obtain ⟨k, cs, hk, rfl, hB, hM⟩ := hrel
    clear MV B0
    by_cases ck : k < 33
    · have i0 : (0 : Int) ≤ k := by omega
      have i1 : (k : Int) < 33 := by omega
      have t1 : IntKind.u16.wrap (k : Int) = k := by rw [IntKind.wrap_u16]; omega
      have PA := Lib.hid (fun w Bn (h : Blk w Bn 5 (byteZ 24)) => pad_any k (some ⟨Bn, 0, none⟩) 24 24 (zeros 24) w rfl (byteS_zeros h (by omega)))
      have HBB := Lib.hid hB
      clear hB
      go_wp2_with fail
      refine (PA.out _ _ inferInstance).mono ?_
      rintro e w2 ⟨v, rfl, hv, M2⟩
      have M2' := Mo.trans (Mor.out : Mo wr _) M2
      have hB2 := HBB.out.mo M2'
      rw [padM_24] at hv
      have c0 : w2.cell? ⟨w1.heap.size, k * 2, none⟩ = some (cs[k * 2]'(by rw [HBB.out.size]; omega)) := by rw [blk_cell hB2.blk, Array.getElem?_eq_getElem (by rw [HBB.out.size]; omega)]
      have c1 : w2.cell? ⟨w1.heap.size, k * 2 + 1, none⟩ = some (cs[k * 2 + 1]'(by rw [HBB.out.size]; omega)) := by rw [blk_cell hB2.blk, Array.getElem?_eq_getElem (by rw [HBB.out.size]; omega)]
      have f0 := blk_frozen hB2.blk (k * 2)
      have f1 := blk_frozen hB2.blk (k * 2 + 1)
      have hM2 := hM.trans M2'
      obtain ⟨A3, c3, rfl, hb3⟩ := hv
      clear M2 M2' PA
      go_wp2_with fail
      go_roundw
      case rel =>
        exact ⟨k + 1, _, by omega, by go_num, hB2.put ck ⟨A3, c3, rfl, hb3⟩, mo_setCell (mo_setCell hM2 (Nat.le_refl _) _ _) (Nat.le_refl _) _ _⟩
      case measure => simp [intOf]; omega
    · obtain rfl : k = 33 := by omega
      go_wp2_with fail
      have M1' := M1.trans hM
      have E33 := hB.ext 0 33 (by omega) (by omega)
      have E32 := hB.ext 1 32 (by omega) (by omega)
      rw [Nat.zero_mul] at E33
      rw [Nat.one_mul] at E32
      have HE := Lib.hid E33
      have PL := Lib.hid (put_long (some ⟨w1.heap.size, 0, none⟩) none 33 0 33 0 (manyL 0 33) [] wr (by simp [manyL]) (by omega) (by omega))
      have pm : putM (manyL 0 33) [] = ([], 3) := by unfold putM; rw [if_pos (by simp [manyL])]
      rw [pm] at PL
      have PO := Lib.hid (fun w (q : Mo wr w) => put_own (some ⟨w1.heap.size, 2, none⟩) none 32 0 32 0 (manyL 1 32) [] w (by simp [manyL]) rfl (E32.mo q) (byteS_nil _) (by omega) (by rw [manyL_tot]; omega))
      rw [putM_many] at PO
      have FI := Lib.hid (fun w (q : Mo wr w) => find_any (some ⟨w1.heap.size, 0, none⟩) 33 33 5 (manyL 0 33) w (by simp [manyL]) (E33.mo q))
      have FN := Lib.hid (fun w => find_any none 0 0 5 [] w rfl ⟨by simp, by simp, fun _ => rfl, .inl rfl⟩)
      clear pm E33 E32 hB hM
      refine PL.out.mono ?_
      rintro e w2 ⟨v2, rfl, ⟨A2, c2, rfl, h2⟩, M2⟩
      clear h2 PL
      simp only [List.length_nil]
      go_wp2_with fail
      refine (PO.out _ M2).mono ?_
      rintro e w3 ⟨v3, rfl, ⟨hb3, ho3⟩, M3⟩
      have el : (encM (manyL 1 32)).length = 896 := by rw [encM_len, manyL_tot]
      simp only at hb3 ho3
      obtain ⟨A3, c3, rfl, hb3⟩ := hb3
      rw [el] at ho3 ⊢
      have hw3 := hb3.byte
      have hd3 : ByteS w3 A3 c3 ((encM (manyL 1 32)).take 28) := hb3.take 28
      have tm := take_many
      have l28 : ((encM (manyL 1 32)).take 28).length = 28 := by rw [List.length_take, el]; rfl
      generalize encM (manyL 1 32) = eb at *
      have HO := Lib.hid ho3
      have HD := Lib.hid hd3
      have L28 := Lib.hid l28
      have TM := Lib.hid tm
      have EL := Lib.hid el
      have BY := Lib.hid hw3
      have M3' := M2.trans M3
      have MM3 := Lib.hid M3
      have hc3 : 896 ≤ c3 := by have := hb3.le; omega
      clear ho3 hd3 l28 tm el hw3 hb3 PO M3
      go_wp2_with (at_builtin
                   refine wpList_append_bytes rfl (.tmp 46) (.tmp 48) rfl w2.heap.size _ 896 _ rfl HO.out A3 28 c3 _ L28.out rfl HD.out (by omega) MM3.out.size ?_
                   intro v4 w4 hown4 hgrow4
                   have hM4 : Mo w2 w4 := mo_grown MM3.out hgrow4 (fun j e => (HO.out.lt j e).1)
                   have hbv4 : ByteV w4 v4 (eb ++ eb.take 28) := owns_byteS (n := 896 + 28) (by rw [show byteL (eb ++ eb.take 28) = byteL eb ++ byteL (eb.take 28) from List.map_append]; exact hown4) (by omega) (fun c hc => by
                     rcases List.mem_append.1 hc with h | h
                     · exact BY.out c h
                     · exact BY.out c (List.mem_of_mem_take h))
                   obtain ⟨A4, c4, rfl, hb4⟩ := hbv4
                   have l4 : (eb ++ eb.take 28).length = 924 := by rw [List.length_append, EL.out, L28.out]
                   have TK := Lib.hid (take_any A4 c4 924 _ w4 l4 hb4)
                   rw [TM.out] at TK
                   have M4' := M2.trans hM4
                   rw [l4]
                   clear hown4 hgrow4 hM4 hb4)
      refine TK.out.mono ?_
      rintro e w5 ⟨v5, v6, rfl, ⟨A5, c5, rfl, h5⟩, ⟨A6, c6, rfl, h6⟩, M5⟩
      have M5' := M4'.trans M5
      clear h5 h6 M5 TK HO HD
      simp only [List.length_nil]
      go_wp2_with fail
      refine (FI.out _ M5').mono ?_
      rintro e w6 ⟨x, v7, bx, rfl, hv7, x1, x2, ht, hf, M6⟩
      have M6' := M5'.trans M6
      cases bx
      · exact absurd rfl (hf rfl (mF 5) (List.mem_map.2 ⟨5, by decide, rfl⟩))
      · obtain ⟨-, hx⟩ := ht rfl
        obtain ⟨A7, c7, rfl, h7⟩ := hv7
        rw [hx]
        clear h7 hf ht FI M6
        generalize x.val.length = q7 at *
        go_wp2_with fail
        refine (FN.out _).mono ?_
        rintro e w7 ⟨y, v8, by_, rfl, hv8, y1, y2, hty, hfy, M7⟩
        cases by_
        · obtain ⟨A8, c8, rfl, h8⟩ := hv8
          clear h8 hty hfy
          generalize y.val.length = q8 at *
          have B7 : Blk w7 w6.heap.size 43 #[.int .u16 5, .slice A7 q7 c7] := M7.blk inferInstance
          have b7 : w7.cell? ⟨w6.heap.size, 0, none⟩ = some (.int .u16 5) := by rw [blk_cell B7]; rfl
          have M7' := M6'.trans (Mo.trans (Mor.out : Mo w6 _) M7)
          clear M7 B7
          have L7 : LtW w6.heap.size w7 := LtW.of_cell b7
          go_wp2_with fail
          refine (take_any none 0 0 [] _ rfl (byteS_nil _)).mono ?_
          rw [take_nil]
          rintro e w8 ⟨v9, v10, rfl, ⟨A9, c9, rfl, h9⟩, ⟨A10, c10, rfl, h10⟩, M8⟩
          have M8' := Mo.trans (Mor.out : Mo w7 _) M8
          have b8 : w8.cell? ⟨w6.heap.size, 0, none⟩ = some (.int .u16 5) := M8'.cell.trans b7
          have MF := M7'.trans M8'
          clear h9 h10 M8 b7 M8' M7'
          simp only [List.length_nil]
          go_wp2_with fail
          go_ret
          exact ⟨rfl, M1'.trans MF⟩
        · exact absurd (hty rfl).1 (by simp)
end Go.Proofs.Ytbndcopeaaifdaa
