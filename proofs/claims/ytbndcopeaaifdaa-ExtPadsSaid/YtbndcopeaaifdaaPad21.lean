/- ext.Pad. -/
import Derived.Test.YtbndcopeaaifdaaByteD
import Derived.Test.YtbndcopeaaifdaaExtW
namespace Go.Proofs.Ytbndcopeaaifdaa
open Go.RowKit

def vLen : Value → Nat
  | .slice _ n _ => n
  | _ => 0
def padL (n : Nat) : Nat := max 12 ((n + 3) / 4 * 4)
theorem padL_lt {n j : Nat} (h1 : n ≤ j) (h2 : j ≤ padL n) : j < padL n ↔ (j < 12 ∨ j % 4 ≠ 0) := by unfold padL at *; omega
def padM (v : List Int) : List Int := v.take 65528 ++ zeros (padL (v.take 65528).length - (v.take 65528).length)
theorem owns_form0 {w : World} {b e sz n : Nat} {v : Value} {xs : List Value} (h : w.ownsRow b e sz v n xs) : ∃ A c, v = .slice A n c := by
  rcases h.2 with ⟨rfl, h0⟩ | ⟨g, cap', cur, rfl, _⟩
  · exact ⟨none, 0, by rw [h0]⟩
  · exact ⟨_, _, rfl⟩
set_option maxRecDepth 20000 in
set_option maxHeartbeats 2000000 in
theorem pad_any (k : Int) (A : Option Addr) (n cap : Nat) (vs : List Int) (W : World) (hn : vs.length = n) (h : ByteS W A cap vs) :
    Calls Try.prog 16 #[.agg #[.int .u16 k, .slice A n cap]] W fun e w' => ∃ v, e = .returned (.agg #[.int .u16 k, v]) ∧ ByteV w' v (padM vs) ∧ Mo W w' := by
  have hlim := h.lim
  have hle := h.le
  rw [hn] at hlim hle
  obtain ⟨q, hq⟩ : ∃ q : Nat, (padM vs).length = q := ⟨_, rfl⟩
  obtain ⟨t, ht⟩ : ∃ t : Nat, (vs.take 65528).length = t := ⟨_, rfl⟩
  have ht' : min n 65528 = t := by rw [← ht, List.length_take, hn]; omega
  have CL := Lib.hid (fun w (m : Mo W w) => cloneO_any A t cap (vs.take 65528) w ht ((h.take 65528).mo m))
  have hP : padM vs = vs.take 65528 ++ zeros (padL t - t) := by unfold padM; rw [ht]
  have ht2 : t ≤ 65528 := by omega
  have hpl : t ≤ padL t ∧ padL t ≤ 65528 := by unfold padL; omega
  have HPL := Lib.hid hpl
  rw [hP]
  have HB := Lib.hid (h.take 65528).byte
  have HT := Lib.hid ht
  generalize vs.take 65528 = ts at *
  clear h hP hq ht q
  go_enter Try.func16, Try.ntmps16
  go_upto_region 1 with (fail)
  go_cut [3] (fun s3 wx => (∃ A2 c2, s3 = .slice A2 t c2) ∧ wx.ownsRow W.heap.size 5 1 s3 t (byteL ts) ∧ Blk wx W.heap.size 43 #[.int .u16 k, .slice A n cap] ∧ Blk wx (W.heap.size + 1) 43 #[.int .u16 0, .slice none 0 0] ∧ Mo W wx)
  case first =>
    by_cases c : n ≤ 65528
    · obtain rfl : t = n := by omega
      have c' : (t : Int) ≤ 65528 := by omega
      clear ht'
      go_wp2_with fail
      all_goals (refine (CL.out _ Mor.out).mono ?_; rintro e w1 ⟨v, rfl, hv, M1⟩; go_wp2_with fail; go_meet)
      all_goals exact ⟨owns_form0 hv, owns_base hv (Mor.out : Mo W _).size, M1.blk inferInstance, M1.blk inferInstance, Mo.trans Mor.out M1⟩
    · obtain rfl : t = 65528 := by omega
      have c' : (65528 : Int) < n := by omega
      clear ht'
      go_wp2_with fail
      all_goals (refine (CL.out _ Mor.out).mono ?_; rintro e w1 ⟨v, rfl, hv, M1⟩; go_wp2_with fail; go_meet)
      all_goals exact ⟨owns_form0 hv, owns_base hv (Mor.out : Mo W _).size, M1.blk inferInstance, M1.blk inferInstance, Mo.trans Mor.out M1⟩
  case rest =>
    obtain ⟨⟨A2, c2, rfl⟩, hv, BX, BR, hM⟩ := hcut
    have b0 : wc.cell? ⟨W.heap.size, 0, none⟩ = some (.int .u16 k) := by rw [blk_cell BX]; rfl
    have HV := Lib.hid hv
    have HX := Lib.hid BX
    have HR := Lib.hid BR
    clear hv BX BR CL ht' b0
    go_wp2_with fail
    go_loopw [3] (fun v wr => ∃ z A2 c2, t ≤ z ∧ z ≤ padL t ∧ v = .slice A2 z c2 ∧ wr.ownsRow W.heap.size 5 1 v z (byteL (ts ++ zeros (z - t))) ∧ Blk wr W.heap.size 43 #[.int .u16 k, .slice A n cap] ∧ Blk wr (W.heap.size + 1) 43 #[.int .u16 0, .slice none 0 0] ∧ Mo W wr) (fun v _ => padL t - vLen v)
    case atStart =>
      exact ⟨t, A2, c2, by omega, by omega, rfl, by simpa using HV.out, HX.out, HR.out, hM⟩
    case round =>
      clear hM
      obtain ⟨z, A2, c2, hz1, hz2, rfl, hv, BX, BR, hM⟩ := hrel
      clear HV HX HR
      have hz3 := padL_lt hz1 hz2
      have hMs := hM.size
      have LX := BX.lt
      have LR := BR.lt
      have b0 : wr.cell? ⟨W.heap.size, 0, none⟩ = some (.int .u16 k) := by rw [blk_cell BX]; rfl
      have b1 : wr.cell? ⟨W.heap.size + 1, 0, none⟩ = some (.int .u16 0) := by rw [blk_cell BR]; rfl
      have b2 : wr.cell? ⟨W.heap.size + 1, 1, none⟩ = some (.slice none 0 0) := by rw [blk_cell BR]; rfl
      have b3 := blk_frozen BR 0
      have b4 := blk_frozen BR 1
      have z0 : ∀ c ∈ [(0 : Int)], 0 ≤ c ∧ c ≤ 255 := fun c hc => by
        obtain rfl : c = 0 := by simpa using hc
        omega
      have Z0 := Lib.hid z0
      clear z0
      by_cases c1 : z < 12
      · have hz4 : z < padL t := hz3.2 (.inl c1)
        go_wp2_with (at_builtin
                     refine wpList_append_bytes rfl (.tmp 22) (.tmp 23) rfl W.heap.size _ z _ rfl (owns_mo hv Mor.out) (some ⟨wr.heap.size, 0, none⟩) 1 1 [0] rfl rfl (byteS_blk (cs := #[.int .u8 0]) inferInstance _ rfl Z0.out (by simp)) (by omega) (by have := hM.size; simp; omega) ?_
                     intro v1 w1 hown1 hgrow1
                     have hM1 : Mo W w1 := mo_grown (hM.trans (Mor.out : Mo wr _)) hgrow1 (fun j e => (hv.lt j e).1)
                     have BX1 : Blk w1 W.heap.size 43 #[.int .u16 k, .slice A n cap] := ⟨(hgrow1.block _ (by simp; omega) (fun e => owns_ne_blk hv BX (by decide) _ e.symm rfl)).trans (inferInstance : Blk (wr.alloc (.cells #[.int .u8 0] 5)) _ _ _).out⟩
                     have BR1 : Blk w1 (W.heap.size + 1) 43 #[.int .u16 0, .slice none 0 0] := ⟨(hgrow1.block _ (by simp; omega) (fun e => owns_ne_blk hv BR (by decide) _ e.symm rfl)).trans (inferInstance : Blk (wr.alloc (.cells #[.int .u8 0] 5)) _ _ _).out⟩)
        go_roundw
        case rel =>
          obtain ⟨g4, c4, rfl⟩ := ownsRow_succ hown1
          exact ⟨z + 1, _, _, by omega, by omega, rfl, by
            have e1 : ts ++ zeros (z + 1 - t) = ts ++ zeros (z - t) ++ [0] := by
              rw [show z + 1 - t = z - t + 1 by omega, List.append_assoc, ← List.replicate_succ']
            rw [e1, show byteL (ts ++ zeros (z - t) ++ [0]) = byteL (ts ++ zeros (z - t)) ++ byteL [0] from List.map_append]
            exact hown1, BX1, BR1, hM1⟩
        case measure =>
          obtain ⟨g4, c4, rfl⟩ := ownsRow_succ hown1
          simp [vLen]; omega
      · by_cases d2 : z % 4 = 0
        · have hz4 : ¬ z < padL t := fun h => (hz3.1 h).elim c1 (fun h => h d2)
          have hz5 : z = padL t := by omega
          have q1 : (z : Int) % 4 = 0 := by omega
          have HZ := Lib.hid hz5
          have q2 : z ≤ 65528 := by omega
          have q3 : ¬ (z : Int) < 12 := by omega
          clear hz5 hz4 hz3 hz1 hz2 hpl
          go_wp2_with fail
          have ne : ∀ g, (Value.slice A2 z c2).ownBlock = some g → g ≠ W.heap.size + 1 := owns_ne_blk hv BR (by decide)
          have hv2 := owns_block (w' := (wr.setCell ⟨W.heap.size + 1, 0, none⟩ (.int .u16 k)).setCell ⟨W.heap.size + 1, 1, none⟩ (.slice A2 z c2)) hv (fun g _ hg => by
            rw [heap_setCell_other _ _ _ _ (ne g hg), heap_setCell_other _ _ _ _ (ne g hg)])
          have c0 := (blk_setCell (blk_setCell BR 0 (.int .u16 k)) 1 (.slice A2 z c2))
          exact bodyPost_ret (v := .agg #[.int .u16 k, .slice A2 z c2]) (by simp [results, Try.results16, go_sem, b1, b2]) rfl ⟨_, rfl, owns_byteS (by rw [← HZ.out]; exact hv2) (by omega) (fun c hc => by
            rcases List.mem_append.1 hc with h | h
            · exact HB.out c h
            · obtain rfl := List.eq_of_mem_replicate h
              omega), mo_setCell (mo_setCell hM (by omega) _ _) (by omega) _ _⟩
        · have hz4 : z < padL t := hz3.2 (.inr d2)
          have q1 : ((z : Int) % 4 != 0) = true := by simp; omega
          have q3 : ¬ (z : Int) < 12 := by omega
          go_wp2_with (at_builtin
                       refine wpList_append_bytes rfl (.tmp 22) (.tmp 23) rfl W.heap.size _ z _ rfl (owns_mo hv Mor.out) (some ⟨wr.heap.size, 0, none⟩) 1 1 [0] rfl rfl (byteS_blk (cs := #[.int .u8 0]) inferInstance _ rfl Z0.out (by simp)) (by omega) (by have := hM.size; simp; omega) ?_
                       intro v1 w1 hown1 hgrow1
                       have hM1 : Mo W w1 := mo_grown (hM.trans (Mor.out : Mo wr _)) hgrow1 (fun j e => (hv.lt j e).1)
                       have BX1 : Blk w1 W.heap.size 43 #[.int .u16 k, .slice A n cap] := ⟨(hgrow1.block _ (by simp; omega) (fun e => owns_ne_blk hv BX (by decide) _ e.symm rfl)).trans (inferInstance : Blk (wr.alloc (.cells #[.int .u8 0] 5)) _ _ _).out⟩
                       have BR1 : Blk w1 (W.heap.size + 1) 43 #[.int .u16 0, .slice none 0 0] := ⟨(hgrow1.block _ (by simp; omega) (fun e => owns_ne_blk hv BR (by decide) _ e.symm rfl)).trans (inferInstance : Blk (wr.alloc (.cells #[.int .u8 0] 5)) _ _ _).out⟩)
          go_roundw
          case rel =>
            obtain ⟨g4, c4, rfl⟩ := ownsRow_succ hown1
            exact ⟨z + 1, _, _, by omega, by omega, rfl, by
              have e1 : ts ++ zeros (z + 1 - t) = ts ++ zeros (z - t) ++ [0] := by
                rw [show z + 1 - t = z - t + 1 by omega, List.append_assoc, ← List.replicate_succ']
              rw [e1, show byteL (ts ++ zeros (z - t) ++ [0]) = byteL (ts ++ zeros (z - t)) ++ byteL [0] from List.map_append]
              exact hown1, BX1, BR1, hM1⟩
          case measure =>
            obtain ⟨g4, c4, rfl⟩ := ownsRow_succ hown1
            simp [vLen]; omega
end Go.Proofs.Ytbndcopeaaifdaa
