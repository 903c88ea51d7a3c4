/- horologeref21.Read once more: the fields and their places lie in blocks that the call made, their bytes in the argument (printed by gen/genreado.py). -/
import Derived.Test.YtcflebggepmmcaaExtF
namespace Go.Proofs.Ytcflebggepmmcaa
open Go.RowKit
attribute [local go_sem ↓] app_fold
set_option maxRecDepth 20000 in
theorem ByteV.held {U Z : World} {v : Value} {bs : List Int} (h : ByteV U v bs) (hZ : ∀ k, k < U.heap.size → Z.heap[k]? = U.heap[k]?) : ByteV Z v bs := by
  obtain ⟨A, cap, e, hb⟩ := h
  refine ⟨A, cap, e, hb.le, hb.lim, hb.byte, hb.nil, ?_⟩
  rcases hb.at_ with e | ⟨g, off, rfl, hc⟩
  · exact .inl e
  · exact .inr ⟨g, off, rfl, fun i hi => by
      have L : LtW g U := LtW.of_cell (hc i hi)
      rw [← hc i hi]
      exact World.cell?_of_block (hZ g L.out)⟩
/-- what Read returns, U a world in which the bytes lie -/
def ReadOwn (bs : List Int) (U W : World) (e : Ending) (w' : World) : Prop := ∃ A1 c1 A2 c2 A3 c3 m, e = .returned (.agg #[.slice A1 (parse bs 0).length c1, .slice A2 (parse bs 0).length c2, .slice A3 m c3, .bool (decide ((nextM (tailOf bs)).1 = 3))]) ∧
  (∀ Z : World, (∀ k, k < U.heap.size → Z.heap[k]? = U.heap[k]?) → (∀ k, W.heap.size ≤ k → k < w'.heap.size → Z.heap[k]? = w'.heap[k]?) → ExtV Z (.slice A1 (parse bs 0).length c1) ((parse bs 0).map fldOf)) ∧
  ByteV U (.slice A3 m c3) (if (nextM (tailOf bs)).1 = 1 then tailOf bs else []) ∧ Mo W w'
set_option maxRecDepth 20000 in
theorem read_finO {U W wr Z : World} {bs : List Int} {a : Nat} {xs : List Itm} {A1 A2 A3 : Option Addr} {c1 c2 c3 m : Nat} {am : Bool} {u2 u3 : Array Value} (hp : xs.map Itm.fe ++ parse bs a = parse bs 0) (he : endF bs a = endF bs 0)
    (pn : parse bs a = []) (en : endF bs a = a) (B2 : Blk wr W.heap.size 146 u2) (B3 : Blk wr (W.heap.size + 1) 146 u3)
    (row1 : wr.ownsRow W.heap.size 172 2 (.slice A1 xs.length c1) xs.length (itmL xs)) (row2 : wr.ownsRow W.heap.size 3 1 (.slice A2 xs.length c2) xs.length (atL (xs.map Itm.fe)))
    (hx : ∀ x ∈ xs, ByteV U x.u x.fe.val ∧ 0 ≤ x.fe.kind ∧ x.fe.kind ≤ 65535) (hl : xs.length ≤ 200000) (hZ : ∀ k, k ≠ W.heap.size → k ≠ W.heap.size + 1 → Z.heap[k]? = wr.heap[k]?) (hM : Mo W Z)
    (h3 : ByteV U (.slice A3 m c3) (if (nextM (bs.drop a)).1 = 1 then bs.drop a else [])) (ham : am = decide ((nextM (bs.drop a)).1 = 3)) :
    ReadOwn bs U W (.returned (.agg #[.slice A1 xs.length c1, .slice A2 xs.length c2, .slice A3 m c3, .bool am])) Z := by
  rw [pn, List.append_nil] at hp
  have hlen : xs.length = (parse bs 0).length := by rw [← hp, List.length_map]
  have ht : tailOf bs = bs.drop a := by unfold tailOf; rw [← he, en]
  have r1 := owns_far2 row1 B2 B3 (by decide) (by decide) hZ
  have _ := row2
  refine ⟨A1, c1, A2, c2, A3, c3, m, by rw [ht, ham, hlen], fun Y hY hY2 => ?_, by rw [ht]; exact h3, hM⟩
  have r2 := extV_rows (owns_block r1 fun g hb hg => hY2 g hb (r1.lt g hg).2) (fun x h => ⟨(hx x h).1.held hY, (hx x h).2⟩) (by omega)
  rw [← hlen, ← hp, List.map_map]
  exact r2
set_option maxRecDepth 100000 in
set_option maxHeartbeats 40000000 in
theorem read_own (A : Option Addr) (cap n : Nat) (bs : List Int) (U W : World) (hU : Mo U W) (hn : bs.length = n) (hbu : ByteS U A cap bs) (hlt : n ≤ 200000) :
    Calls Try.prog 77 #[.slice A n cap] W (ReadOwn bs U W) := by
  have HBU := Lib.hid hbu
  have hb := hbu.mo hU
  clear hbu hU
  have hle := hb.le
  rw [hn] at hle
  have HN := Lib.hid hn
  have HB := Lib.hid hb
  clear hn hb
  obtain ⟨R, hR⟩ : ∃ R, ReadOwn bs U W = R := ⟨_, rfl⟩
  rw [hR]
  have HR := Lib.hid hR
  clear hR
  obtain ⟨ti0, hi, hz0, hz1, hz2⟩ := info_parts infoExt
  obtain ⟨ti1, hi', hz0', hz1', hz2'⟩ := info_parts infoInt
  go_enter Try.func77, Try.ntmps77
  go_wp2_with fail
  refine wp_name ?_
  intro V hV
  have BV2 : Blk V W.heap.size 146 #[.slice none 0 0, .slice none 0 0, .slice none 0 0, .bool false] := by rw [hV]; infer_instance
  have BV3 : Blk V (W.heap.size + 1) 146 #[.slice none 0 0, .slice none 0 0, .slice none 0 0, .bool false] := by rw [hV]; infer_instance
  have MV : Mo W V := by rw [hV]; exact Mor.out
  clear hV
  go_loopw [4] (fun i wr => ∃ (a : Nat) (xs : List Itm) (A1 : Option Addr) (c1 : Nat) (A2 : Option Addr) (c2 : Nat), i = .int .i64 a ∧ a ≤ n ∧ xs.map Itm.fe ++ parse bs a = parse bs 0 ∧ endF bs a = endF bs 0 ∧
    Blk wr W.heap.size 146 #[.slice none 0 0, .slice none 0 0, .slice none 0 0, .bool false] ∧ Blk wr (W.heap.size + 1) 146 #[.slice A1 xs.length c1, .slice A2 xs.length c2, .slice none 0 0, .bool false] ∧
    wr.ownsRow W.heap.size 172 2 (.slice A1 xs.length c1) xs.length (itmL xs) ∧ wr.ownsRow W.heap.size 3 1 (.slice A2 xs.length c2) xs.length (atL (xs.map Itm.fe)) ∧ (∀ x ∈ xs, ByteV U x.u x.fe.val ∧ 0 ≤ x.fe.kind ∧ x.fe.kind ≤ 65535) ∧ xs.length ≤ a ∧ Mo W wr) (fun i _ => n - (intOf i).toNat)
  case atStart => exact ⟨0, [], none, 0, none, 0, rfl, by omega, by simp, rfl, BV2, BV3, World.ownsRow_nil _ _ _ _, World.ownsRow_nil _ _ _ _, by simp, by simp, MV⟩
  case round =>
    obtain ⟨a, xs, A1, c1, A2, c2, rfl, ha, hp, he, B2, B3, row1, row2, hx, hxa, hM⟩ := hrel
    clear BV2 BV3 MV
    have hM1 := hM.size
    have HP := Lib.hid hp
    have HE := Lib.hid he
    have HX := Lib.hid hx
    have ROW1 := Lib.hid row1
    have ROW2 := Lib.hid row2
    have k0 : wr.cell? ⟨W.heap.size + 1, 0, none⟩ = some (.slice A1 xs.length c1) := by rw [blk_cell B3]; rfl
    have k1 : wr.cell? ⟨W.heap.size + 1, 1, none⟩ = some (.slice A2 xs.length c2) := by rw [blk_cell B3]; rfl
    have k2 : wr.cell? ⟨W.heap.size + 1, 2, none⟩ = some (.slice none 0 0) := by rw [blk_cell B3]; rfl
    have k3 : wr.cell? ⟨W.heap.size + 1, 3, none⟩ = some (.bool false) := by rw [blk_cell B3]; rfl
    have j0 : wr.cell? ⟨W.heap.size, 0, none⟩ = some (.slice none 0 0) := by rw [blk_cell B2]; rfl
    have j1 : wr.cell? ⟨W.heap.size, 1, none⟩ = some (.slice none 0 0) := by rw [blk_cell B2]; rfl
    have j2 : wr.cell? ⟨W.heap.size, 2, none⟩ = some (.slice none 0 0) := by rw [blk_cell B2]; rfl
    have j3 : wr.cell? ⟨W.heap.size, 3, none⟩ = some (.bool false) := by rw [blk_cell B2]; rfl
    have fz := Lib.hid (fun i => blk_frozen B3 i)
    have f0 := blk_frozen B2 0
    have f1 := blk_frozen B2 1
    have f2 := blk_frozen B2 2
    have f3 := blk_frozen B2 3
    have LB2 : LtW W.heap.size wr := LtW.of_cell j0
    have LB3 : LtW (W.heap.size + 1) wr := LtW.of_cell k0
    clear hp he hx row1 row2
    obtain ⟨d, hd⟩ : ∃ d, n = a + d := ⟨n - a, by omega⟩
    have hl : (bs.drop a).length = d := by rw [List.length_drop, HN.out]; omega
    by_cases q0 : d = 0
    · have hnx : nextM (bs.drop a) = (0, 0) := by unfold nextM; rw [if_pos (by rw [hl]; exact q0)]
      have PN := Lib.hid (parse_nil (bs := bs) (a := a) (by rw [hnx]; simp))
      have EN := Lib.hid (endF_nil (bs := bs) (a := a) (by rw [hnx]; simp))
      have NX := Lib.hid hnx
      have hnd : (n : Int) - a = 0 := by omega
      clear hnx hl hd
      go_wp2_with fail
      refine read_ret W.heap.size 146 (.slice A1 xs.length c1) (.slice A2 xs.length c2) (.slice none 0 0) (.bool false) rfl rfl (blk_setCell (blk_setCell (blk_setCell (blk_setCell B2 0 (.slice A1 xs.length c1)) 1 (.slice A2 xs.length c2)) 2 (.slice none 0 0)) 3 (.bool false)) ?_
      rw [← HR.out]
      refine read_finO HP.out HE.out PN.out EN.out B2 B3 ROW1.out ROW2.out HX.out (by omega) (fun k e2 e3 => ?_) (mo_setCell (mo_setCell (mo_setCell (mo_setCell hM (g := W.heap.size) (Nat.le_refl _) 0 (.slice A1 xs.length c1)) (g := W.heap.size) (Nat.le_refl _) 1 (.slice A2 xs.length c2)) (g := W.heap.size) (Nat.le_refl _) 2 (.slice none 0 0)) (g := W.heap.size) (Nat.le_refl _) 3 (.bool false)) ?_ ?_
      · rw [Below.heap_setCell _ _ _ _ e2, Below.heap_setCell _ _ _ _ e2, Below.heap_setCell _ _ _ _ e2, Below.heap_setCell _ _ _ _ e2]
      · rw [NX.out]; exact byteV_nil _
      · rw [NX.out]; rfl
    · have hnd : (n : Int) - a = d := by omega
      by_cases q1 : d = 4 ∨ d = 20 ∨ d = 24
      · have hnx : nextM (bs.drop a) = (1, (d : Int)) := by unfold nextM; rw [if_neg (by rw [hl]; exact q0), if_pos (by rw [hl]; exact q1), hl]
        have PN := Lib.hid (parse_nil (bs := bs) (a := a) (by rw [hnx]; simp))
        have EN := Lib.hid (endF_nil (bs := bs) (a := a) (by rw [hnx]; simp))
        have NX := Lib.hid hnx
        have HL := Lib.hid hl
        have f4 := fz.out 2
        obtain ⟨A3, hB3, hs1, hs2⟩ := HBU.out.drop a (by rw [HN.out]; exact ha)
        rw [HN.out, show n - a = d by omega] at hs1 hs2
        have HB3 := Lib.hid hB3
        clear hnx hl hd hB3 q0
        rcases q1 with rfl | rfl | rfl
        all_goals
          go_wp2_with fail
          refine read_ret W.heap.size 146 (.slice A1 xs.length c1) (.slice A2 xs.length c2) (.slice A3 _ (cap - a)) (.bool false) rfl rfl (blk_setCell (blk_setCell (blk_setCell (blk_setCell (blk_setCell_ne B2 (show W.heap.size + 1 ≠ W.heap.size by omega) 2 (.slice A3 _ (cap - a))) 0 (.slice A1 xs.length c1)) 1 (.slice A2 xs.length c2)) 2 (.slice A3 _ (cap - a))) 3 (.bool false)) ?_
          rw [← HR.out]
          refine read_finO HP.out HE.out PN.out EN.out B2 B3 ROW1.out ROW2.out HX.out (by omega) (fun k e2 e3 => ?_) (mo_setCell (mo_setCell (mo_setCell (mo_setCell (mo_setCell hM (g := W.heap.size + 1) (by omega) 2 (.slice A3 _ (cap - a))) (g := W.heap.size) (Nat.le_refl _) 0 (.slice A1 xs.length c1)) (g := W.heap.size) (Nat.le_refl _) 1 (.slice A2 xs.length c2)) (g := W.heap.size) (Nat.le_refl _) 2 (.slice A3 _ (cap - a))) (g := W.heap.size) (Nat.le_refl _) 3 (.bool false)) ?_ ?_
          · rw [Below.heap_setCell _ _ _ _ e2, Below.heap_setCell _ _ _ _ e2, Below.heap_setCell _ _ _ _ e2, Below.heap_setCell _ _ _ _ e2, Below.heap_setCell _ _ _ _ e3]
          · rw [NX.out, if_pos rfl]
            exact ⟨A3, cap - a, by rw [HL.out], HB3.out⟩
          · rw [NX.out]; rfl
      · by_cases q2 : d < 28
        · have hnx : nextM (bs.drop a) = (3, 0) := by unfold nextM; rw [if_neg (by rw [hl]; exact q0), if_neg (by rw [hl]; exact q1), if_pos (by rw [hl]; exact q2)]
          have PN := Lib.hid (parse_nil (bs := bs) (a := a) (by rw [hnx]; simp))
          have EN := Lib.hid (endF_nil (bs := bs) (a := a) (by rw [hnx]; simp))
          have NX := Lib.hid hnx
          have f4 := fz.out 3
          have d0 : ((d : Int) == 0) = false := by simp; omega
          have d1 : ((d : Int) == 4) = false := by simp; omega
          have d2 : ((d : Int) == 20) = false := by simp; omega
          have d3 : ((d : Int) == 24) = false := by simp; omega
          have q3 : (d : Int) < 28 := by omega
          clear hnx hl hd q0 q1
          go_wp2_with fail
          refine read_ret W.heap.size 146 (.slice A1 xs.length c1) (.slice A2 xs.length c2) (.slice none 0 0) (.bool true) rfl rfl (blk_setCell (blk_setCell (blk_setCell (blk_setCell (blk_setCell_ne B2 (show W.heap.size + 1 ≠ W.heap.size by omega) 3 (.bool true)) 0 (.slice A1 xs.length c1)) 1 (.slice A2 xs.length c2)) 2 (.slice none 0 0)) 3 (.bool true)) ?_
          rw [← HR.out]
          refine read_finO HP.out HE.out PN.out EN.out B2 B3 ROW1.out ROW2.out HX.out (by omega) (fun k e2 e3 => ?_) (mo_setCell (mo_setCell (mo_setCell (mo_setCell (mo_setCell hM (g := W.heap.size + 1) (by omega) 3 (.bool true)) (g := W.heap.size) (Nat.le_refl _) 0 (.slice A1 xs.length c1)) (g := W.heap.size) (Nat.le_refl _) 1 (.slice A2 xs.length c2)) (g := W.heap.size) (Nat.le_refl _) 2 (.slice none 0 0)) (g := W.heap.size) (Nat.le_refl _) 3 (.bool true)) ?_ ?_
          · rw [Below.heap_setCell _ _ _ _ e2, Below.heap_setCell _ _ _ _ e2, Below.heap_setCell _ _ _ _ e2, Below.heap_setCell _ _ _ _ e2, Below.heap_setCell _ _ _ _ e3]
          · rw [NX.out]; exact byteV_nil _
          · rw [NX.out]; rfl
        · obtain ⟨g, off, rfl, LG, hc⟩ := HB.out.get (by rw [HN.out]; omega)
          have LGr : LtW g wr := hM.ltW LG
          have gb : ∀ i, (h : a + i < bs.length) → wr.cell? ⟨g, off + (a + i), none⟩ = some (.int .u8 bs[a + i]) ∧ 0 ≤ bs[a + i] ∧ bs[a + i] ≤ 255 := fun i h => ⟨hM.cell.trans (hc (a + i) h).1, (hc (a + i) h).2⟩
          obtain ⟨x0, x0l, x0u⟩ := gb 0 (by rw [HN.out]; omega)
          obtain ⟨x1, x1l, x1u⟩ := gb 1 (by rw [HN.out]; omega)
          obtain ⟨x2, x2l, x2u⟩ := gb 2 (by rw [HN.out]; omega)
          obtain ⟨x3, x3l, x3u⟩ := gb 3 (by rw [HN.out]; omega)
          have eK : kindM (bs.drop a) = bs[a + 0]'(by rw [HN.out]; omega) * 256 + bs[a + 1]'(by rw [HN.out]; omega) := by
            unfold kindM
            simp [List.getD, List.getElem?_drop, show a < bs.length by rw [HN.out]; omega, show a + 1 < bs.length by rw [HN.out]; omega]
          have eS : sizeM (bs.drop a) = bs[a + 2]'(by rw [HN.out]; omega) * 256 + bs[a + 3]'(by rw [HN.out]; omega) := by
            unfold sizeM
            simp [List.getD, List.getElem?_drop, show a + 2 < bs.length by rw [HN.out]; omega, show a + 3 < bs.length by rw [HN.out]; omega]
          clear gb hc
          have part := Lib.hid (fun s (h1 : 4 ≤ s) (h2 : a + s ≤ n) => (HBU.out.at_part (a + 4) (a + s) (by omega) (by rw [HN.out]; exact h2)))
          generalize bs[a + 0]'_ = y0 at *
          generalize bs[a + 1]'_ = y1 at *
          generalize bs[a + 2]'_ = y2 at *
          generalize bs[a + 3]'_ = y3 at *
          rw [Nat.add_zero] at x0
          have EK := Lib.hid eK
          have d0 : ((d : Int) == 0) = false := by simp; omega
          have d1 : ((d : Int) == 4) = false := by simp; omega
          have d2 : ((d : Int) == 20) = false := by simp; omega
          have d3 : ((d : Int) == 24) = false := by simp; omega
          have q3 : ¬ (d : Int) < 28 := by omega
          have i0 : (0 : Int) ≤ a := by omega
          have i1 : (a : Int) + 2 < n := by omega
          have i2 : (a : Int) + 3 < n := by omega
          have i3 : (a : Int) + 1 < n := by omega
          have i4 : (a : Int) < n := by omega
          have t2 : ((a : Int) + 2).toNat = a + 2 := by omega
          have t3 : ((a : Int) + 3).toNat = a + 3 := by omega
          have t1 : ((a : Int) + 1).toNat = a + 1 := by omega
          have u1 : IntKind.i64.wrap ((a : Int) + 1) = a + 1 := by rw [IntKind.wrap_i64]; omega
          have u2 : IntKind.i64.wrap ((a : Int) + 2) = a + 2 := by rw [IntKind.wrap_i64]; omega
          have u3 : IntKind.i64.wrap ((a : Int) + 3) = a + 3 := by rw [IntKind.wrap_i64]; omega
          have u4 : IntKind.i64.wrap (256 * y2) = 256 * y2 := by rw [IntKind.wrap_i64]; omega
          have u5' : IntKind.i64.wrap (256 * y2 + y3) = 256 * y2 + y3 := by rw [IntKind.wrap_i64]; omega
          have p1 : (0 : Int) ≤ a + 1 := by omega
          have p2 : (0 : Int) ≤ a + 2 := by omega
          have p3 : (0 : Int) ≤ a + 3 := by omega
          have hnx : nextM (bs.drop a) = if 256 * y2 + y3 < 16 ∨ (256 * y2 + y3) % 4 ≠ 0 ∨ (d : Int) < 256 * y2 + y3 then (3, 0) else (2, 256 * y2 + y3) := by
            unfold nextM
            rw [if_neg (by rw [hl]; exact q0), if_neg (by rw [hl]; exact q1), if_neg (by rw [hl]; exact q2), hl, eS, show y2 * 256 + y3 = 256 * y2 + y3 by omega]
          have ES := Lib.hid eS
          have NX0 := Lib.hid hnx
          have HL := Lib.hid hl
          clear hnx hl eK eS q0 q1 hd
          go_upto_region 12 with (fail)
          go_quiet (fail)
          replace ROW1 := Lib.hid (owns_mo ROW1.out (Mor.out : Mo wr (wr.drewN nq)))
          replace ROW2 := Lib.hid (owns_mo ROW2.out (Mor.out : Mo wr (wr.drewN nq)))
          replace B2 : Blk (wr.drewN nq) W.heap.size 146 #[.slice none 0 0, .slice none 0 0, .slice none 0 0, .bool false] := inferInstance
          replace B3 : Blk (wr.drewN nq) (W.heap.size + 1) 146 #[.slice A1 xs.length c1, .slice A2 xs.length c2, .slice none 0 0, .bool false] := inferInstance
          replace hM : Mo W (wr.drewN nq) := hM.trans Mor.out
          replace hM1 : W.heap.size ≤ (wr.drewN nq).heap.size := hM1
          replace k0 : (wr.drewN nq).cell? ⟨W.heap.size + 1, 0, none⟩ = some (.slice A1 xs.length c1) := k0
          replace k1 : (wr.drewN nq).cell? ⟨W.heap.size + 1, 1, none⟩ = some (.slice A2 xs.length c2) := k1
          replace k2 : (wr.drewN nq).cell? ⟨W.heap.size + 1, 2, none⟩ = some (.slice none 0 0) := k2
          replace k3 : (wr.drewN nq).cell? ⟨W.heap.size + 1, 3, none⟩ = some (.bool false) := k3
          replace j0 : (wr.drewN nq).cell? ⟨W.heap.size, 0, none⟩ = some (.slice none 0 0) := j0
          replace j1 : (wr.drewN nq).cell? ⟨W.heap.size, 1, none⟩ = some (.slice none 0 0) := j1
          replace j2 : (wr.drewN nq).cell? ⟨W.heap.size, 2, none⟩ = some (.slice none 0 0) := j2
          replace j3 : (wr.drewN nq).cell? ⟨W.heap.size, 3, none⟩ = some (.bool false) := j3
          replace f0 : (wr.drewN nq).frozen? ⟨W.heap.size, 0, none⟩ = false := f0
          replace f1 : (wr.drewN nq).frozen? ⟨W.heap.size, 1, none⟩ = false := f1
          replace f2 : (wr.drewN nq).frozen? ⟨W.heap.size, 2, none⟩ = false := f2
          replace f3 : (wr.drewN nq).frozen? ⟨W.heap.size, 3, none⟩ = false := f3
          replace x0 : (wr.drewN nq).cell? ⟨g, off + a, none⟩ = some (.int .u8 y0) := x0
          replace x1 : (wr.drewN nq).cell? ⟨g, off + (a + 1), none⟩ = some (.int .u8 y1) := x1
          have f4 : (wr.drewN nq).frozen? ⟨W.heap.size + 1, 3, none⟩ = false := fz.out 3
          have f5 : (wr.drewN nq).frozen? ⟨W.heap.size + 1, 0, none⟩ = false := fz.out 0
          clear x2 x3 LB2 LB3 LGr fz
          generalize wr.drewN nq = wq at *
          have LB2 : LtW W.heap.size wq := LtW.of_cell j0
          have LB3 : LtW (W.heap.size + 1) wq := LtW.of_cell k0
          have LGr : LtW g wq := LtW.of_cell x0
          by_cases s1 : 256 * y2 + y3 < 16
          · have NX : Hid (nextM (bs.drop a) = (3, 0)) := Lib.hid (by rw [NX0.out, if_pos (.inl s1)])
            have PN := Lib.hid (parse_nil (bs := bs) (a := a) (by rw [NX.out]; simp))
            have EN := Lib.hid (endF_nil (bs := bs) (a := a) (by rw [NX.out]; simp))
            clear NX0 part
            go_wp2_with fail
            refine read_ret W.heap.size 146 (.slice A1 xs.length c1) (.slice A2 xs.length c2) (.slice none 0 0) (.bool true) rfl rfl (blk_setCell (blk_setCell (blk_setCell (blk_setCell (blk_setCell_ne B2 (show W.heap.size + 1 ≠ W.heap.size by omega) 3 (.bool true)) 0 (.slice A1 xs.length c1)) 1 (.slice A2 xs.length c2)) 2 (.slice none 0 0)) 3 (.bool true)) ?_
            rw [← HR.out]
            refine read_finO HP.out HE.out PN.out EN.out B2 B3 ROW1.out ROW2.out HX.out (by omega) (fun k e2 e3 => ?_) (mo_setCell (mo_setCell (mo_setCell (mo_setCell (mo_setCell hM (g := W.heap.size + 1) (by omega) 3 (.bool true)) (g := W.heap.size) (Nat.le_refl _) 0 (.slice A1 xs.length c1)) (g := W.heap.size) (Nat.le_refl _) 1 (.slice A2 xs.length c2)) (g := W.heap.size) (Nat.le_refl _) 2 (.slice none 0 0)) (g := W.heap.size) (Nat.le_refl _) 3 (.bool true)) ?_ ?_
            · rw [Below.heap_setCell _ _ _ _ e2, Below.heap_setCell _ _ _ _ e2, Below.heap_setCell _ _ _ _ e2, Below.heap_setCell _ _ _ _ e2, Below.heap_setCell _ _ _ _ e3]
            · rw [NX.out]; exact byteV_nil _
            · rw [NX.out]; rfl
          by_cases s2 : (256 * y2 + y3) % 4 = 0
          · by_cases s3 : (d : Int) < 256 * y2 + y3
            · have NX : Hid (nextM (bs.drop a) = (3, 0)) := Lib.hid (by rw [NX0.out, if_pos (.inr (.inr s3))])
              have PN := Lib.hid (parse_nil (bs := bs) (a := a) (by rw [NX.out]; simp))
              have EN := Lib.hid (endF_nil (bs := bs) (a := a) (by rw [NX.out]; simp))
              clear NX0 part
              have m2 : ((256 * y2 + y3) % 4 != 0) = false := by simp [s2]
              clear s2
              go_wp2_with fail
              refine read_ret W.heap.size 146 (.slice A1 xs.length c1) (.slice A2 xs.length c2) (.slice none 0 0) (.bool true) rfl rfl (blk_setCell (blk_setCell (blk_setCell (blk_setCell (blk_setCell_ne B2 (show W.heap.size + 1 ≠ W.heap.size by omega) 3 (.bool true)) 0 (.slice A1 xs.length c1)) 1 (.slice A2 xs.length c2)) 2 (.slice none 0 0)) 3 (.bool true)) ?_
              rw [← HR.out]
              refine read_finO HP.out HE.out PN.out EN.out B2 B3 ROW1.out ROW2.out HX.out (by omega) (fun k e2 e3 => ?_) (mo_setCell (mo_setCell (mo_setCell (mo_setCell (mo_setCell hM (g := W.heap.size + 1) (by omega) 3 (.bool true)) (g := W.heap.size) (Nat.le_refl _) 0 (.slice A1 xs.length c1)) (g := W.heap.size) (Nat.le_refl _) 1 (.slice A2 xs.length c2)) (g := W.heap.size) (Nat.le_refl _) 2 (.slice none 0 0)) (g := W.heap.size) (Nat.le_refl _) 3 (.bool true)) ?_ ?_
              · rw [Below.heap_setCell _ _ _ _ e2, Below.heap_setCell _ _ _ _ e2, Below.heap_setCell _ _ _ _ e2, Below.heap_setCell _ _ _ _ e2, Below.heap_setCell _ _ _ _ e3]
              · rw [NX.out]; exact byteV_nil _
              · rw [NX.out]; rfl
            · obtain ⟨s, hs⟩ : ∃ s : Nat, 256 * y2 + y3 = (s : Int) := ⟨(256 * y2 + y3).toNat, by omega⟩
              have hnx : nextM (bs.drop a) = (2, (s : Int)) := by rw [NX0.out, if_neg (by omega), hs]
              have hsz : sz (bs.drop a) = s := by unfold sz; rw [ES.out]; omega
              have hs1 : 16 ≤ s := by omega
              have hs2 : s ≤ d := by omega
              have PC := Lib.hid (parse_cons (bs := bs) (a := a) (by rw [hnx]))
              have EC := Lib.hid (endF_cons (bs := bs) (a := a) (by rw [hnx]))
              have hs3 : (s : Int) % 4 = 0 := by omega
              rw [hs]
              have SZ := Lib.hid hsz
              have m2 : ((s : Int) % 4 != 0) = false := by simp [hs3]
              have m1 : ¬ (s : Int) < 16 := by omega
              have m3 : ¬ (d : Int) < s := by omega
              have z0 : (0 : Int) ≤ s := by omega
              have v1 : IntKind.i64.wrap ((a : Int) + 4) = a + 4 := by rw [IntKind.wrap_i64]; omega
              have v2 : IntKind.i64.wrap ((a : Int) + s) = a + s := by rw [IntKind.wrap_i64]; omega
              have v3 : IntKind.u16.wrap y0 = y0 := by rw [IntKind.wrap_u16]; omega
              have v4 : IntKind.u16.wrap y1 = y1 := by rw [IntKind.wrap_u16]; omega
              have v5 : IntKind.u16.wrap (256 * y0) = 256 * y0 := by rw [IntKind.wrap_u16]; omega
              have v6 : IntKind.u16.wrap (256 * y0 + y1) = 256 * y0 + y1 := by rw [IntKind.wrap_u16]; omega
              have ux1 : (0 : Int) ≤ a + 4 := by omega
              have ux2 : (a : Int) + 4 ≤ a + s := by omega
              have ux3 : (4 : Int) ≤ s := by omega
              have ux4 : (a : Int) + s ≤ cap := by omega
              have ux5 : (0 : Int) ≤ a + s := by omega
              have ux6 : ((a : Int) + 4).toNat = a + 4 := by omega
              have ux7 : ((a : Int) + s).toNat = a + s := by omega
              have ux8 : (cap = a + 4) = False := by simp; omega
              have ux9 : a + s - (a + 4) = s - 4 := by omega
              have bp := part.out s (by omega) (by omega)
              rw [ux9] at bp
              have hvl : ((bs.drop (a + 4)).take (s - 4)).length = s - 4 := by rw [List.length_take, List.length_drop, HN.out]; omega
              have BP := Lib.hid bp
              have VL := Lib.hid hvl
              have nb : g < W.heap.size := LG.out
              clear bp hvl hnx hsz NX0 part ES s1 s2 s3 hs3 hs u4 u5' u2 u3 t2 t3 i1 i2 p2 p3 d0 d1 d2 d3 q3 f4 f0 f1 f2 f3 j0 j1 j2 j3 k2 k3
              go_upto_region 16 with (fail)
              go_cut [] (fun wx => ∃ g4 c4, Blk wx W.heap.size 146 #[.slice none 0 0, .slice none 0 0, .slice none 0 0, .bool false] ∧ Blk wx (W.heap.size + 1) 146 #[.slice (some ⟨g4, 0, none⟩) (xs.length + 1) c4, .slice A2 xs.length c2, .slice none 0 0, .bool false] ∧
                wx.ownsRow W.heap.size 172 2 (.slice (some ⟨g4, 0, none⟩) (xs.length + 1) c4) (xs.length + 1) (itmL xs ++ [.int .u16 (256 * y0 + y1), .slice (some ⟨g, off + (a + 4), none⟩) (s - 4) (cap - (a + 4))]) ∧ wx.ownsRow W.heap.size 3 1 (.slice A2 xs.length c2) xs.length (atL (xs.map Itm.fe)) ∧ Mo W wx)
              case first =>
                have hT := (Mor.out : Mo wq ((wq.alloc (.cells #[.int .u16 (256 * y0 + y1), .slice (some ⟨g, off + (a + 4), none⟩) (s - 4) (cap - (a + 4))] 172)).drew))
                obtain ⟨v4, w4, hrun, hown4, hgrow4, -, -⟩ := run_append_own_at (P := Try.prog) ((wq.alloc (.cells #[.int .u16 (256 * y0 + y1), .slice (some ⟨g, off + (a + 4), none⟩) (s - 4) (cap - (a + 4))] 172)).drew) W.heap.size 64 64 172 ti0 (.agg #[.int .u16 0, .slice none 0 0]) 2 32 Try.underlying64 hi hz0 hz1 hz2 rfl (by decide) _ xs.length (itmL xs) (owns_mo ROW1.out hT) ⟨wq.heap.size, 0, none⟩ 1 1 [.int .u16 (256 * y0 + y1), .slice (some ⟨g, off + (a + 4), none⟩) (s - 4) (cap - (a + 4))] rfl (news_of_blk (g := wq.heap.size) (t := 172) (cs := #[.int .u16 (256 * y0 + y1), .slice (some ⟨g, off + (a + 4), none⟩) (s - 4) (cap - (a + 4))]) inferInstance _ rfl) (by intro u hu; simp at hu; rcases hu with rfl | rfl <;> rfl) (by unfold maxLen; omega) (by omega) (by simp; omega)
                replace hrun : (appAny #[64, 64] 64 #[.slice A1 xs.length c1, .slice (some ⟨wq.heap.size, 0, none⟩) 1 1]).run Try.prog _ = .ok v4 w4 := hrun
                obtain ⟨g4, c4, rfl⟩ := ownsRow_succ hown4
                have n3 : ∀ j, (Value.slice A1 xs.length c1).ownBlock = some j → j ≠ W.heap.size + 1 := owns_ne_blk ROW1.out B3 (by decide)
                have n2 : ∀ j, (Value.slice A1 xs.length c1).ownBlock = some j → j ≠ W.heap.size := owns_ne_blk ROW1.out B2 (by decide)
                have D2 : Blk w4 W.heap.size 146 #[.slice none 0 0, .slice none 0 0, .slice none 0 0, .bool false] := ⟨(hgrow4.block W.heap.size (by have := LB2.out; simp; omega) (fun e => n2 _ e.symm rfl)).trans (inferInstance : Blk ((wq.alloc (.cells #[.int .u16 (256 * y0 + y1), .slice (some ⟨g, off + (a + 4), none⟩) (s - 4) (cap - (a + 4))] 172)).drew) W.heap.size 146 #[.slice none 0 0, .slice none 0 0, .slice none 0 0, .bool false]).out⟩
                have D3 : Blk w4 (W.heap.size + 1) 146 #[.slice A1 xs.length c1, .slice A2 xs.length c2, .slice none 0 0, .bool false] := ⟨(hgrow4.block (W.heap.size + 1) (by have := LB3.out; simp; omega) (fun e => n3 _ e.symm rfl)).trans (inferInstance : Blk ((wq.alloc (.cells #[.int .u16 (256 * y0 + y1), .slice (some ⟨g, off + (a + 4), none⟩) (s - 4) (cap - (a + 4))] 172)).drew) (W.heap.size + 1) 146 #[.slice A1 xs.length c1, .slice A2 xs.length c2, .slice none 0 0, .bool false]).out⟩
                have gne : some g ≠ (Value.slice A1 xs.length c1).ownBlock := fun e => by have := (ROW1.out.lt _ e.symm).1; omega
                have m4 : w4.cell? ⟨g, off + a, none⟩ = some (.int .u8 y0) := by rw [World.cell?_of_block (hgrow4.block g (by have := LGr.out; simp; omega) gne)]; simp [go_sem, x0]
                have m5 : w4.cell? ⟨g, off + (a + 1), none⟩ = some (.int .u8 y1) := by rw [World.cell?_of_block (hgrow4.block g (by have := LGr.out; simp; omega) gne)]; simp [go_sem, x1]
                have e4 : w4.cell? ⟨W.heap.size + 1, 0, none⟩ = some (.slice A1 xs.length c1) := by rw [blk_cell D3]; rfl
                have f6 := blk_frozen D3 0
                have R4 := owns_grown (owns_mo ROW2.out hT) (owns_mo ROW1.out hT) (by decide) hgrow4
                have M4 : Mo W w4 := mo_grown (hM.trans hT) hgrow4 (fun j e => (ROW1.out.lt j e).1)
                have hZ : ∀ k, k ≠ W.heap.size → k ≠ W.heap.size + 1 → (w4.setCell ⟨W.heap.size + 1, 0, none⟩ (.slice (some ⟨g4, 0, none⟩) (xs.length + 1) c4)).heap[k]? = w4.heap[k]? := fun k _ e => Below.heap_setCell _ _ _ _ e
                have FIN : ∃ g4' c4', Blk (w4.setCell ⟨W.heap.size + 1, 0, none⟩ (.slice (some ⟨g4, 0, none⟩) (xs.length + 1) c4)) W.heap.size 146 #[.slice none 0 0, .slice none 0 0, .slice none 0 0, .bool false] ∧ Blk (w4.setCell ⟨W.heap.size + 1, 0, none⟩ (.slice (some ⟨g4, 0, none⟩) (xs.length + 1) c4)) (W.heap.size + 1) 146 #[.slice (some ⟨g4', 0, none⟩) (xs.length + 1) c4', .slice A2 xs.length c2, .slice none 0 0, .bool false] ∧
                  (w4.setCell ⟨W.heap.size + 1, 0, none⟩ (.slice (some ⟨g4, 0, none⟩) (xs.length + 1) c4)).ownsRow W.heap.size 172 2 (.slice (some ⟨g4', 0, none⟩) (xs.length + 1) c4') (xs.length + 1) (itmL xs ++ [.int .u16 (256 * y0 + y1), .slice (some ⟨g, off + (a + 4), none⟩) (s - 4) (cap - (a + 4))]) ∧ (w4.setCell ⟨W.heap.size + 1, 0, none⟩ (.slice (some ⟨g4, 0, none⟩) (xs.length + 1) c4)).ownsRow W.heap.size 3 1 (.slice A2 xs.length c2) xs.length (atL (xs.map Itm.fe)) ∧ Mo W (w4.setCell ⟨W.heap.size + 1, 0, none⟩ (.slice (some ⟨g4, 0, none⟩) (xs.length + 1) c4)) :=
                  ⟨g4, c4, blk_setCell_ne D2 (by omega) 0 _, blk_setCell D3 0 _, owns_far2 hown4 D2 D3 (by decide) (by decide) hZ, owns_far2 R4 D2 D3 (by decide) (by decide) hZ, mo_setCell M4 (by omega) 0 _⟩
                have FF := Lib.hid FIN
                clear FIN hZ
                go_region
                go_wp2_with fail
                go_meet
                exact FF.out
              case rest =>
                obtain ⟨g4, c4, D2, D3, R1, R2, M4⟩ := hcut
                have R1' := Lib.hid R1
                have R2' := Lib.hid R2
                have e1 : wc.cell? ⟨W.heap.size + 1, 1, none⟩ = some (.slice A2 xs.length c2) := by rw [blk_cell D3]; rfl
                have LL : LtW (W.heap.size + 1) wc := LtW.of_cell e1
                clear R1 R2
                go_wp2_with (at_builtin
                             go_loud (refine wpList_append_own _ rfl (.tmp 89) (.tmp 91) 144 rfl W.heap.size 3 ti1 (.int .i64 0) 1 8 Try.underlying144 hi' hz0' hz1' hz2' rfl (by decide) _ xs.length (atL (xs.map Itm.fe)) rfl (owns_mo R2'.out Mor.out) ⟨wc.heap.size, 0, none⟩ 1 1 [.int .i64 a] rfl rfl (news_of_blk (g := wc.heap.size) (t := 3) (cs := #[.int .i64 a]) inferInstance _ rfl) (by intro u hu; simp at hu; subst hu; rfl) (by unfold maxLen; omega) (by omega) (by have := M4.size; simp; omega) ?_)
                             intro v5 w5 hown5 hgrow5 _
                             obtain ⟨g5, c5, rfl⟩ := ownsRow_succ hown5
                             have n3 : ∀ j, (Value.slice A2 xs.length c2).ownBlock = some j → j ≠ W.heap.size + 1 := owns_ne_blk R2'.out D3 (by decide)
                             have n2 : ∀ j, (Value.slice A2 xs.length c2).ownBlock = some j → j ≠ W.heap.size := owns_ne_blk R2'.out D2 (by decide)
                             have E2 : Blk w5 W.heap.size 146 #[.slice none 0 0, .slice none 0 0, .slice none 0 0, .bool false] := ⟨(hgrow5.block W.heap.size (by have := D2.lt; simp; omega) (fun e => n2 _ e.symm rfl)).trans ((Mor.out : Mo wc _).blk D2).out⟩
                             have E3 : Blk w5 (W.heap.size + 1) 146 #[.slice (some ⟨g4, 0, none⟩) (xs.length + 1) c4, .slice A2 xs.length c2, .slice none 0 0, .bool false] := ⟨(hgrow5.block (W.heap.size + 1) (by have := D3.lt; simp; omega) (fun e => n3 _ e.symm rfl)).trans ((Mor.out : Mo wc _).blk D3).out⟩
                             have h1 : w5.cell? ⟨W.heap.size + 1, 1, none⟩ = some (.slice A2 xs.length c2) := by rw [blk_cell E3]; rfl
                             have h2 := blk_frozen E3 1
                             have M5 : Mo W w5 := mo_grown (M4.trans (Mor.out : Mo wc _)) hgrow5 (fun j e => (R2'.out.lt j e).1)
                             have R5 := Lib.hid (owns_grown (owns_mo R1'.out (Mor.out : Mo wc _)) (owns_mo R2'.out (Mor.out : Mo wc _)) (by decide) hgrow5))
                have W6 := mo_setCell M5 (g := W.heap.size + 1) (by omega) 1 (.slice (some ⟨g5, 0, none⟩) (xs.length + 1) c5)
                have hZ : ∀ k, k ≠ W.heap.size → k ≠ W.heap.size + 1 → (w5.setCell ⟨W.heap.size + 1, 1, none⟩ (.slice (some ⟨g5, 0, none⟩) (xs.length + 1) c5)).heap[k]? = w5.heap[k]? := fun k _ e => Below.heap_setCell _ _ _ _ e
                have S1 := owns_far2 R5.out E2 E3 (by decide) (by decide) hZ
                have S2 := owns_far2 hown5 E2 E3 (by decide) (by decide) hZ
                have G2 := blk_setCell_ne E2 (show W.heap.size + 1 ≠ W.heap.size by omega) 1 (.slice (some ⟨g5, 0, none⟩) (xs.length + 1) c5)
                have G3 := blk_setCell E3 1 (.slice (some ⟨g5, 0, none⟩) (xs.length + 1) c5)
                have SS1 := Lib.hid S1
                have SS2 := Lib.hid S2
                have SG2 := Lib.hid G2
                have SG3 := Lib.hid G3
                have SW := Lib.hid W6
                obtain ⟨x, hxx⟩ : ∃ x : Itm, x = ⟨⟨a, 256 * y0 + y1, (bs.drop (a + 4)).take (s - 4)⟩, .slice (some ⟨g, off + (a + 4), none⟩) (s - 4) (cap - (a + 4))⟩ := ⟨_, rfl⟩
                have hlen : (xs ++ [x]).length = xs.length + 1 := by simp
                have PX : Hid ((xs ++ [x]).map Itm.fe ++ parse bs (a + s) = parse bs 0) := Lib.hid (by
                  rw [← HP.out, PC.out, SZ.out, EK.out, List.map_append, List.append_assoc, hxx, List.drop_drop, show y0 * 256 + y1 = 256 * y0 + y1 by omega]
                  rfl)
                have EX : Hid (endF bs (a + s) = endF bs 0) := Lib.hid (by rw [← HE.out, EC.out, SZ.out])
                have IX : Hid (itmL (xs ++ [x]) = itmL xs ++ [.int .u16 (256 * y0 + y1), .slice (some ⟨g, off + (a + 4), none⟩) (s - 4) (cap - (a + 4))]) := Lib.hid (by rw [itmL_snoc, hxx])
                have AX : Hid (atL ((xs ++ [x]).map Itm.fe) = atL (xs.map Itm.fe) ++ [.int .i64 a]) := Lib.hid (by unfold atL; rw [List.map_append, List.map_append, hxx]; rfl)
                have HLN := Lib.hid hlen
                have XX := Lib.hid hxx
                clear S1 S2 G2 G3 W6 hZ hlen hxx hown5 hgrow5 n2 n3 h1 h2 E2 E3 M5 R5 e1 LL D2 D3 M4
                go_roundw
                case rel =>
                  refine ⟨a + s, xs ++ [x], some ⟨g4, 0, none⟩, c4, some ⟨g5, 0, none⟩, c5, by go_num, by omega, PX.out, EX.out, SG2.out, by rw [HLN.out]; exact SG3.out, by rw [HLN.out, IX.out]; exact SS1.out, by rw [HLN.out, AX.out]; exact SS2.out, ?_, by rw [HLN.out]; omega, SW.out⟩
                  intro z hz
                  rcases List.mem_append.1 hz with h | h
                  · exact HX.out z h
                  · obtain rfl : z = x := by simpa using h
                    rw [XX.out]
                    exact ⟨⟨_, _, by rw [VL.out], BP.out⟩, by show 0 ≤ 256 * y0 + y1; omega, by show 256 * y0 + y1 ≤ 65535; omega⟩
                case measure => simp [intOf]; omega
          · have NX : Hid (nextM (bs.drop a) = (3, 0)) := Lib.hid (by rw [NX0.out, if_pos (.inr (.inl s2))])
            have PN := Lib.hid (parse_nil (bs := bs) (a := a) (by rw [NX.out]; simp))
            have EN := Lib.hid (endF_nil (bs := bs) (a := a) (by rw [NX.out]; simp))
            clear NX0 part
            have m2 : ((256 * y2 + y3) % 4 != 0) = true := by simp [s2]
            clear s2
            go_wp2_with fail
            refine read_ret W.heap.size 146 (.slice A1 xs.length c1) (.slice A2 xs.length c2) (.slice none 0 0) (.bool true) rfl rfl (blk_setCell (blk_setCell (blk_setCell (blk_setCell (blk_setCell_ne B2 (show W.heap.size + 1 ≠ W.heap.size by omega) 3 (.bool true)) 0 (.slice A1 xs.length c1)) 1 (.slice A2 xs.length c2)) 2 (.slice none 0 0)) 3 (.bool true)) ?_
            rw [← HR.out]
            refine read_finO HP.out HE.out PN.out EN.out B2 B3 ROW1.out ROW2.out HX.out (by omega) (fun k e2 e3 => ?_) (mo_setCell (mo_setCell (mo_setCell (mo_setCell (mo_setCell hM (g := W.heap.size + 1) (by omega) 3 (.bool true)) (g := W.heap.size) (Nat.le_refl _) 0 (.slice A1 xs.length c1)) (g := W.heap.size) (Nat.le_refl _) 1 (.slice A2 xs.length c2)) (g := W.heap.size) (Nat.le_refl _) 2 (.slice none 0 0)) (g := W.heap.size) (Nat.le_refl _) 3 (.bool true)) ?_ ?_
            · rw [Below.heap_setCell _ _ _ _ e2, Below.heap_setCell _ _ _ _ e2, Below.heap_setCell _ _ _ _ e2, Below.heap_setCell _ _ _ _ e2, Below.heap_setCell _ _ _ _ e3]
            · rw [NX.out]; exact byteV_nil _
            · rw [NX.out]; rfl
end Go.Proofs.Ytcflebggepmmcaa
