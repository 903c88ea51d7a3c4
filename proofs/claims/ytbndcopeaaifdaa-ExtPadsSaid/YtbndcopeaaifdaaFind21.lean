/- ext.Find; slices.IndexFunc of fields. -/
import Derived.Test.YtbndcopeaaifdaaExtB
namespace Go.Proofs.Ytbndcopeaaifdaa
open Go.RowKit

theorem find1_any (a k : Int) (v : Value) (Bk : Nat) (W : World) (hv : ∃ A n c, v = .slice A n c) (h : Blk W Bk 41 #[.int .u16 k]) :
    Calls Try.prog 25 #[.agg #[.int .u16 a, v], .pointer (some ⟨Bk, 0, none⟩)] W fun e w' => e = .returned (.bool (a == k)) ∧ Mo W w' := by
  obtain ⟨A, n, c, rfl⟩ := hv
  have b0 : W.cell? ⟨Bk, 0, none⟩ = some (.int .u16 k) := by rw [blk_cell h]; rfl
  go_enter Try.func25, Try.ntmps25
  go_wp2_with fail
  go_ret
  exact ⟨rfl, Mor.out⟩
def IdxRet (l : List Fld) (k : Int) (W : World) (e : Ending) (w' : World) : Prop := (e = .returned (.int .i64 (-1)) ∧ (∀ x ∈ l, x.kind ≠ k) ∧ Mo W w') ∨ ∃ j : Nat, ∃ h : j < l.length, e = .returned (.int .i64 j) ∧ l[j].kind = k ∧ Mo W w'
set_option maxHeartbeats 2000000 in
theorem index_any (A : Option Addr) (n cap : Nat) (k : Int) (l : List Fld) (Bk : Nat) (W : World) (hn : l.length = n) (h : ExtS W A cap l) (hk : Blk W Bk 41 #[.int .u16 k]) :
    Calls Try.prog 24 #[.slice A n cap, .func (.func 25) #[] #[.pointer (some ⟨Bk, 0, none⟩)]] W (IdxRet l k W) := by
  obtain ⟨R, hR⟩ : ∃ R, IdxRet l k W = R := ⟨_, rfl⟩
  rw [hR]
  have RR := Lib.hid hR
  have hlim := h.lim
  rw [hn] at hlim
  have HN := Lib.hid hn
  have HB := Lib.hid h
  have HK := Lib.hid hk
  clear hR hn h hk
  go_enter Try.func24, Try.ntmps24
  go_wp2_with fail
  go_loopw [8] (fun i wr => ∃ j : Nat, j ≤ n ∧ i = .int .i64 j ∧ (∀ x ∈ l.take j, x.kind ≠ k) ∧ Mo W wr) (fun i _ => n - (intOf i).toNat)
  case atStart => exact ⟨0, by omega, rfl, by simp, Mor.out⟩
  case round =>
    obtain ⟨j, hj, rfl, ht, hM⟩ := hrel
    have HT := Lib.hid ht
    clear ht
    by_cases ck : j < n
    · have hj1 : j < l.length := by rw [HN.out]; exact ck
      obtain ⟨g, off, rfl, LG, hc⟩ := (HB.out.mo hM).get (by omega)
      obtain ⟨xa, xn, xc, a1, a2, a3, a4, a5, a6⟩ := hc j hj1
      have t1 : l.take (j + 1) = l.take j ++ [l[j]] := by rw [List.take_add_one, List.getElem?_eq_getElem hj1]; rfl
      have T1 := Lib.hid t1
      have EK : Hid (l[j].kind = k → l[j].kind = k) := Lib.hid id
      have i0 : (0 : Int) ≤ j := by omega
      have i1 : (j : Int) < n := by omega
      obtain ⟨y, hy⟩ : ∃ y, l[j] = y := ⟨_, rfl⟩
      rw [hy] at a1 a5 T1
      have HY := Lib.hid hy
      obtain ⟨yk, yv⟩ := y
      simp only at a1 a5
      clear hc t1 EK a6 a2 a3 a5 hy
      have FC := Lib.hid (fun w (q : Mo wr w) => find1_any yk k (.slice xa xn xc) Bk w ⟨_, _, _, rfl⟩ (q.blk (hM.blk HK.out)))
      by_cases e : yk = k
      · rw [show (yk == k) = true from by simp [e]] at FC
        have EE := Lib.hid e
        clear e
        go_wp2_with fail
        refine (FC.out _ Mor.out).mono ?_
        rintro e w1 ⟨rfl, M1⟩
        go_wp2_with fail
        rw [← RR.out]
        exact .inr ⟨j, hj1, rfl, by rw [HY.out]; exact EE.out, (hM.trans Mor.out).trans M1⟩
      · rw [show (yk == k) = false from by simp [e]] at FC
        have EE := Lib.hid e
        clear e
        go_wp2_with fail
        refine (FC.out _ Mor.out).mono ?_
        rintro e w1 ⟨rfl, M1⟩
        go_wp2_with fail
        go_roundw
        case rel => exact ⟨j + 1, by omega, by go_num, by
          rw [T1.out]
          intro x hx
          rcases List.mem_append.1 hx with h | h
          · exact HT.out x h
          · obtain rfl : x = _ := by simpa using h
            exact EE.out, (hM.trans Mor.out).trans M1⟩
        case measure => simp [intOf]; omega
    · obtain rfl : j = n := by omega
      go_wp2_with fail
      rw [← RR.out]
      exact .inl ⟨rfl, by have := HT.out; rwa [List.take_of_length_le (by rw [HN.out]; omega)] at this, hM.trans Mor.out⟩
def FindRet (l : List Fld) (k : Int) (W : World) (e : Ending) (w' : World) : Prop := ∃ (x : Fld) (v : Value) (b : Bool), e = .returned (.tuple #[.agg #[.int .u16 x.kind, v], .bool b]) ∧ ByteV w' v x.val ∧ 0 ≤ x.kind ∧ x.kind ≤ 65535 ∧ (b = true → x ∈ l ∧ x.kind = k) ∧ (b = false → ∀ y ∈ l, y.kind ≠ k) ∧ Mo W w'
set_option maxHeartbeats 2000000 in
theorem find_any (A : Option Addr) (n cap : Nat) (k : Int) (l : List Fld) (W : World) (hn : l.length = n) (h : ExtS W A cap l) :
    Calls Try.prog 17 #[.slice A n cap, .int .u16 k] W (FindRet l k W) := by
  have hlim := h.lim
  rw [hn] at hlim
  have HN := Lib.hid hn
  have HB := Lib.hid h
  have IX := Lib.hid (fun Bk w (q : Mo W w) (hb : Blk w Bk 41 #[.int .u16 k]) => index_any A n cap k l Bk w hn (h.mo q) hb)
  clear hn h
  go_enter Try.func17, Try.ntmps17
  go_wp2_with fail
  refine (IX.out _ _ Mor.out inferInstance).mono ?_
  rintro e w1 (⟨rfl, hx, M1⟩ | ⟨j, hj, rfl, hk, M1⟩)
  · have B1 : Blk w1 (W.heap.size + 1) 43 #[.int .u16 0, .slice none 0 0] := M1.blk inferInstance
    have b1 : w1.cell? ⟨W.heap.size + 1, 0, none⟩ = some (.int .u16 0) := by rw [blk_cell B1]; rfl
    have b2 : w1.cell? ⟨W.heap.size + 1, 1, none⟩ = some (.slice none 0 0) := by rw [blk_cell B1]; rfl
    have b3 := blk_frozen B1 0
    have b4 := blk_frozen B1 1
    have M1' := Mo.trans (Mor.out : Mo W _) M1
    clear M1 IX
    have HX := Lib.hid hx
    clear hx
    go_wp2_with fail
    exact bodyPost_ret (v := .tuple #[.agg #[.int .u16 0, .slice none 0 0], .bool false]) (by simp [results, Try.results17, go_sem, b1, b2]) rfl ⟨⟨0, []⟩, _, _, rfl, byteV_nil _, by simp, by simp, fun h => (by cases h), fun _ => HX.out, mo_setCell (mo_setCell M1' (by omega) _ _) (by omega) _ _⟩
  · have B1 : Blk w1 (W.heap.size + 1) 43 #[.int .u16 0, .slice none 0 0] := M1.blk inferInstance
    have b1 : w1.cell? ⟨W.heap.size + 1, 0, none⟩ = some (.int .u16 0) := by rw [blk_cell B1]; rfl
    have b2 : w1.cell? ⟨W.heap.size + 1, 1, none⟩ = some (.slice none 0 0) := by rw [blk_cell B1]; rfl
    have b3 := blk_frozen B1 0
    have b4 := blk_frozen B1 1
    have M1' := Mo.trans (Mor.out : Mo W _) M1
    obtain ⟨g, off, rfl, LG, hc⟩ := HB.out.get (by omega)
    obtain ⟨xa, xn, xc, a1, a2, a3, a4, a5, a6⟩ := hc j hj
    replace a1 := (M1'.cell).trans a1
    replace a4 := (M1'.cell).trans a4
    have LG1 : LtW g w1 := M1'.ltW LG
    have i0 : (0 : Int) ≤ j := by omega
    have i1 : (j : Int) < n := by have := HN.out; omega
    have HMem := Lib.hid (List.getElem_mem hj)
    generalize l[j] = y at *
    obtain ⟨yk, yv⟩ := y
    simp only at a1 a2 a3 a5 a6 hk
    have H5 := Lib.hid a5
    have H6 := Lib.hid a6
    have HK := Lib.hid hk
    clear hc M1 IX a5 a6 hk
    have M2 : Mo W ((w1.setCell ⟨W.heap.size + 1, 0, none⟩ (.int .u16 yk)).setCell ⟨W.heap.size + 1, 1, none⟩ (.slice xa xn xc)) := mo_setCell (mo_setCell M1' (by omega) _ _) (by omega) _ _
    go_wp2_with fail
    exact bodyPost_ret (v := .tuple #[.agg #[.int .u16 yk, .slice xa xn xc], .bool true]) (by simp [results, Try.results17, go_sem, b1, b2]) rfl ⟨⟨yk, yv⟩, _, _, rfl, ⟨xa, xc, by rw [H5.out], H6.out.mo M2⟩, a2, a3, fun _ => ⟨HMem.out, HK.out⟩, fun h => (by cases h), M2⟩
end Go.Proofs.Ytbndcopeaaifdaa
