/- Written by gen/bundle30.py: MatF, MatG, MatH, MatI, MatJ, MatL in one text. -/
import Derived.Test.YtcflebggepmmcaaMatE
import Derived.Test.YtcflebggepmmcaaPackT
import Derived.Great.BuildSlice
/- horologelaw30.Datagram: a request, or a reply. -/
namespace Go.Proofs.Ytcflebggepmmcaa
open Go.RowKit

def e1C : Array Value := #[.bool false, .int .u8 1, .int .u8 0, .int .u8 0, .int .u8 0, .int .u8 0, .int .u8 0, .int .u8 0, .int .u8 0, .int .u8 0, .int .u8 0, .int .u8 0, .int .u8 0, .int .u8 0, .int .u8 0, .int .u8 0, .int .u8 0, .int .u16 0]
def e2C : Array Value := #[.bool false, .int .u8 2, .int .u8 0, .int .u8 0, .int .u8 0, .int .u8 0, .int .u8 0, .int .u8 0, .int .u8 0, .int .u8 0, .int .u8 0, .int .u8 0, .int .u8 0, .int .u8 0, .int .u8 0, .int .u8 0, .int .u8 0, .int .u16 123]
set_option maxRecDepth 20000 in
instance : SzA e1C 18 := ⟨rfl⟩
set_option maxRecDepth 20000 in
instance : SzA e2C 18 := ⟨rfl⟩
set_option maxRecDepth 20000 in
instance : OneA e1C := ⟨by kernel_rfl⟩
set_option maxRecDepth 20000 in
instance : OneA e2C := ⟨by kernel_rfl⟩
set_option maxRecDepth 20000 in
theorem fits_e1 : Fits (ksOf 38) e1C.toList := by
  have e : ksOf 38 = .b :: (List.replicate 16 (.i .u8) ++ [.i .u16]) := by kernel_rfl
  rw [e]
  exact ⟨trivial, ⟨rfl, rfl⟩, ⟨rfl, rfl⟩, ⟨rfl, rfl⟩, ⟨rfl, rfl⟩, ⟨rfl, rfl⟩, ⟨rfl, rfl⟩, ⟨rfl, rfl⟩, ⟨rfl, rfl⟩, ⟨rfl, rfl⟩, ⟨rfl, rfl⟩, ⟨rfl, rfl⟩, ⟨rfl, rfl⟩, ⟨rfl, rfl⟩, ⟨rfl, rfl⟩, ⟨rfl, rfl⟩, ⟨rfl, rfl⟩, ⟨rfl, rfl⟩, trivial⟩
set_option maxRecDepth 20000 in
theorem fits_e2 : Fits (ksOf 38) e2C.toList := by
  have e : ksOf 38 = .b :: (List.replicate 16 (.i .u8) ++ [.i .u16]) := by kernel_rfl
  rw [e]
  exact ⟨trivial, ⟨rfl, rfl⟩, ⟨rfl, rfl⟩, ⟨rfl, rfl⟩, ⟨rfl, rfl⟩, ⟨rfl, rfl⟩, ⟨rfl, rfl⟩, ⟨rfl, rfl⟩, ⟨rfl, rfl⟩, ⟨rfl, rfl⟩, ⟨rfl, rfl⟩, ⟨rfl, rfl⟩, ⟨rfl, rfl⟩, ⟨rfl, rfl⟩, ⟨rfl, rfl⟩, ⟨rfl, rfl⟩, ⟨rfl, rfl⟩, ⟨rfl, rfl⟩, trivial⟩
set_option maxRecDepth 20000 in
theorem fits_wd {x : Int} (h : InW x) : Fits (ksOf 32) (wdC x).toList := by
  have e : ksOf 32 = [.i .i64, .i .u64] := by kernel_rfl
  rw [e]
  have h1 := h.h1
  have h2 := h.h2
  have h3 := lo1 x
  have h4 := lo2 x
  exact ⟨⟨rfl, by simp [Lit.wf, IntKind.min, IntKind.max, IntKind.signed, IntKind.bits]; omega⟩, ⟨rfl, by simp [Lit.wf, IntKind.min, IntKind.max, IntKind.signed, IntKind.bits]; omega⟩, trivial⟩
def hqD (s : Int) : Hd := ⟨0, 4, 3, 0, 0, 0, 0, 0, 0, 0, 0, 0, 0, 0, 0, s⟩
def hrD (s : Int) : Hd := ⟨0, 4, 4, 1, 0, 0, 0, 0, 0, 0, 0, 0, 0, s, 6, 7⟩
def dgQ (a s : Int) : Dg := ⟨wdC a, e1C, e2C, hdB (hqD s)⟩
def dgR (a s : Int) : Dg := ⟨wdC a, e2C, e1C, hdB (hrD s)⟩
set_option maxRecDepth 20000 in
theorem hqD_ok {s : Int} (h : 0 ≤ s ∧ s ≤ 18446744073709551615) : HdOk (hqD s) := by constructor <;> first | exact h | (unfold hqD; simp)
set_option maxRecDepth 20000 in
theorem hrD_ok {s : Int} (h : 0 ≤ s ∧ s ≤ 18446744073709551615) : HdOk (hrD s) := by constructor <;> first | exact h | (unfold hrD; simp)
set_option maxRecDepth 20000 in
theorem dgQ_ok {a s : Int} (h : InW a) : DgOk (dgQ a s) := ⟨fits_wd h, fits_e1, fits_e2⟩
set_option maxRecDepth 20000 in
theorem dgR_ok {a s : Int} (h : InW a) : DgOk (dgR a s) := ⟨fits_wd h, fits_e2, fits_e1⟩
set_option maxRecDepth 20000 in
theorem takeP_hd {h : Hd} (ok : HdOk h) (may : mayH h = true) : takeP (hdB h) = (⟨h, [], []⟩, 0) := by
  have e := hdOf_put h ok may []
  rw [List.append_nil] at e
  unfold takeP
  rw [if_neg (by rw [hdB_len]; omega), List.drop_eq_nil_of_le (by rw [hdB_len]; omega), take_nil, if_pos rfl, e]
set_option maxRecDepth 20000 in
theorem classP_hd {h : Hd} (ok : HdOk h) (may : mayH h = true) : classP (hdB h) = (⟨h, [], []⟩, kindP h) := by
  unfold classP
  rw [takeP_hd ok may, if_pos rfl]
set_option maxRecDepth 20000 in
theorem putM_nil : putM [] [] = ([], 0) := (take_put2 (by simp) take_nil).1
set_option maxRecDepth 20000 in
theorem putP_hd {h : Hd} (may : mayH h = true) : putP ⟨h, [], []⟩ = (hdB h, 0) := by
  unfold putP
  rw [if_pos may]
  simp only [putM_nil, if_true, List.append_nil]
set_option maxRecDepth 20000 in
theorem loadF_ends' (v : Value) : Instr.loadAt 38 v = loadF 38 v := rfl
set_option maxRecDepth 20000 in
theorem storeF_ends' (v x : Value) : Instr.storeAt 38 v x = storeF 38 v x := rfl
set_option maxRecDepth 20000 in
theorem buildF_hd' (l : Array (Nat × Value)) : Instr.build 63 l = buildF 63 l := rfl
set_option maxRecDepth 20000 in
theorem buildF_dg' (l : Array (Nat × Value)) : Instr.build 41 l = buildF 41 l := rfl
set_option maxRecDepth 20000 in
theorem storeF_dg' (v x : Value) : Instr.storeAt 41 v x = storeF 41 v x := rfl
set_option maxRecDepth 20000 in
theorem run_build_hqD (s : Int) (w : World) : (buildF 63 #[(1, .int .u8 4), (2, .int .u8 3), (12, .int .u64 s)]).run Try.prog w = .ok (hdV (hqD s)) w := run_build w _ _ _ (by kernel_rfl)
set_option maxRecDepth 20000 in
theorem run_build_hrD (s : Int) (w : World) : (buildF 63 #[(1, .int .u8 4), (2, .int .u8 4), (3, .int .u8 1), (10, .int .u64 s), (11, .int .u64 6), (12, .int .u64 7)]).run Try.prog w = .ok (hdV (hrD s)) w := run_build w _ _ _ (by kernel_rfl)
set_option maxRecDepth 20000 in
theorem run_build_pkD (h : Hd) (w : World) : (buildF 66 #[(0, hdV h)]).run Try.prog w = .ok (pkV h (.slice none 0 0) (.slice none 0 0)) w := run_build w _ _ _ (by kernel_rfl)
set_option maxRecDepth 20000 in
theorem run_build_dgD (a : Int) (w : World) : (buildF 41 #[(0, WV a)]).run Try.prog w = .ok (.agg (dgC (wdC a) en0 en0 (.slice none 0 0))) w := run_build w _ _ _ (by kernel_rfl)
set_option maxRecDepth 20000 in
theorem dg_set (a : Array Value) (x : Value) [za : SzA a 2] : (((dgC a en0 en0 x).setIfInBounds 3 (.int .u8 1)).setIfInBounds 21 (.int .u8 2)).setIfInBounds 37 (.int .u16 123) = dgC a e1C e2C x := by
  obtain ⟨c0, c1, rfl⟩ := arr2 za.out
  apply Array.toList_inj.1
  simp only [Array.toList_setIfInBounds, dgC, Array.toList_append, en0, e1C, e2C, List.cons_append, List.nil_append, List.set_cons_succ, List.set_cons_zero]
set_option maxRecDepth 20000 in
theorem dg_get3 (a : Array Value) (x : Value) [za : SzA a 2] : (dgC a en0 en0 x)[3]? = some (.int .u8 0) ∧ (dgC a en0 en0 x)[21]? = some (.int .u8 0) ∧ (dgC a en0 en0 x)[37]? = some (.int .u16 0) := by
  obtain ⟨c0, c1, rfl⟩ := arr2 za.out
  simp only [← Array.getElem?_toList, dgC, Array.toList_append, en0, List.cons_append, List.nil_append, List.getElem?_cons_succ, List.getElem?_cons_zero, and_self]
set_option maxRecDepth 20000 in
theorem dg_setb (a s u : Array Value) (x y : Value) [za : SzA a 2] [zs : SzA s 18] [zu : SzA u 18] : (dgC a s u x).setIfInBounds 38 y = dgC a s u y := by
  have h1 := za.out
  have h2 := zs.out
  have h3 := zu.out
  unfold dgC
  rw [Array.setIfInBounds_append_right (by simp [h1, h2, h3])]
  simp [h1, h2, h3]
attribute [local go_sem] blk_cell' blk_frozen' dg_at dg_b dg_src dg_dst
attribute [local go_sem ↓] loadF_pk storeAt_pk loadF_dg storeF_dg' loadF_ends' storeF_ends' buildF_hd' buildF_pk buildF_dg'
attribute [local go_sem] run_loadF0 run_storePk run_storeF0 run_loadFo run_loadFz run_build_hqD run_build_hrD run_build_pkD run_build_dgD
set_option maxRecDepth 20000 in
theorem pk_spl (h h' : Hd) (x m : Value) : spliceA (pkL h x m).toArray 0 (hdC h') = (pkL h' x m).toArray := by
  apply Array.toList_inj.1
  unfold spliceA spliceL
  simp
set_option maxRecDepth 20000 in
theorem dg_spl2 (a s u s' : Array Value) (x : Value) [ha : SzA a 2] [hs : SzA s 18] [hs' : SzA s' 18] : spliceA (dgC a s u x) 2 s' = dgC a s' u x := by
  have h1 := ha.out
  have h2 := hs.out
  have h3 := hs'.out
  apply Array.toList_inj.1
  unfold spliceA spliceL dgC
  have e1 : (a.toList ++ s.toList ++ u.toList ++ [x]).take 2 = a.toList := by rw [List.append_assoc, List.append_assoc, List.take_left' (by rw [Array.length_toList, h1])]
  have e2 : (a.toList ++ s.toList ++ u.toList ++ [x]).drop (2 + 18) = u.toList ++ [x] := by rw [List.append_assoc (a.toList ++ s.toList)]; exact List.drop_left' (by rw [List.length_append, Array.length_toList, Array.length_toList, h1, h2])
  simp only [Array.toList_append, Array.length_toList, h3]
  rw [e1, e2]
  simp
set_option maxRecDepth 20000 in
theorem dg_spl20 (a s u u' : Array Value) (x : Value) [ha : SzA a 2] [hs : SzA s 18] [hu : SzA u 18] [hu' : SzA u' 18] : spliceA (dgC a s u x) 20 u' = dgC a s u' x := by
  have h1 := ha.out
  have h2 := hs.out
  have h3 := hu.out
  have h4 := hu'.out
  apply Array.toList_inj.1
  unfold spliceA spliceL dgC
  have e1 : (a.toList ++ s.toList ++ u.toList ++ [x]).take 20 = a.toList ++ s.toList := by rw [List.append_assoc (a.toList ++ s.toList), List.take_left' (by rw [List.length_append, Array.length_toList, Array.length_toList, h1, h2])]
  have e2 : (a.toList ++ s.toList ++ u.toList ++ [x]).drop (20 + 18) = [x] := List.drop_left' (by rw [List.length_append, List.length_append, Array.length_toList, Array.length_toList, Array.length_toList, h1, h2, h3])
  simp only [Array.toList_append, Array.length_toList, h4]
  rw [e1, e2]
set_option maxRecDepth 20000 in
theorem storeF_hd' (v x : Value) : Instr.storeAt 63 v x = storeF 63 v x := rfl
set_option maxRecDepth 20000 in
instance row_hd' : RowT 63 16 := ⟨by kernel_rfl, by kernel_rfl⟩
set_option maxRecDepth 20000 in
instance one_hd (h : Hd) : OneA (hdC h) := inferInstance
set_option maxRecDepth 20000 in
set_option maxHeartbeats 8000000 in
theorem datagramQ_any (a s : Int) (a1 : -9223372036854775808 ≤ a) (a2 : a ≤ 9223372036854775807) (hs : 0 ≤ s ∧ s ≤ 18446744073709551615) (W : World) :
    Calls Try.prog 23 #[.int .i64 a, .bool false, .int .u64 s] W fun e w' => ∃ v, e = .returned v ∧ DgV w' (dgQ a s) v ∧ Mo W w' := by
  have PT := Lib.hid (fun w => rput_own ⟨hqD s, [], []⟩ (pkV (hqD s) (.slice none 0 0) (.slice none 0 0)) w ⟨none, 0, none, 0, rfl, extS_none w, byteS_none w⟩ (hqD_ok hs) (fun _ => by show totM [] + 0 ≤ 100000; decide))
  rw [putP_hd (by unfold hqD; rfl)] at PT
  have OF := Lib.hid (fun w => of_any a a1 a2 w)
  have lenB := hdB_len (hqD s)
  clear hs
  go_enter Try.func23, Try.ntmps23
  go_wp2_with fail
  refine (OF.out _).mono ?_
  rintro e w1 ⟨rfl, M1⟩
  have b6 : Blk w1 W.heap.size 41 (dgC wd0 en0 en0 (.slice none 0 0)) := M1.blk inferInstance
  have N1 : Mo W w1 := Mo.trans Mor.out M1
  have b7 : Blk w1 (W.heap.size + 1) 66 (pkL (hqD s) (.slice none 0 0) (.slice none 0 0)).toArray := M1.blk inferInstance
  have l7 := b7.lt
  clear M1
  go_upto_region 3 with (fail)
  refine wp_name ?_
  intro w2 hw2
  have c6 : Blk w2 W.heap.size 41 (dgC wd0 en0 en0 (.slice none 0 0)) := by rw [hw2]; infer_instance
  have c7 : Blk w2 (W.heap.size + 1) 66 (pkL (hqD s) (.slice none 0 0) (.slice none 0 0)).toArray := by rw [hw2]; infer_instance
  have c8 : Blk w2 w1.heap.size 41 (dgC (wdC a) en0 en0 (.slice none 0 0)) := by rw [hw2]; infer_instance
  have N2 : Mo W w2 := by rw [hw2]; exact N1.trans Mor.out
  obtain ⟨h3, h21, h37⟩ := dg_get3 (wdC a) (.slice none 0 0)
  have lw := N1.size
  clear hw2 b6 b7
  go_upto_region 7 with (fail)
  refine wp_name ?_
  intro w3 hw3
  have d6 : Blk w3 W.heap.size 41 (dgC wd0 en0 en0 (.slice none 0 0)) := by rw [hw3]; exact blk_setCell_ne (blk_setCell_ne (blk_setCell_ne c6 (by omega) _ _) (by omega) _ _) (by omega) _ _
  have d7 : Blk w3 (W.heap.size + 1) 66 (pkL (hqD s) (.slice none 0 0) (.slice none 0 0)).toArray := by rw [hw3]; exact blk_setCell_ne (blk_setCell_ne (blk_setCell_ne c7 (by omega) _ _) (by omega) _ _) (by omega) _ _
  have d8 : Blk w3 w1.heap.size 41 (dgC (wdC a) e1C e2C (.slice none 0 0)) := by rw [hw3, ← dg_set]; exact blk_setCell (blk_setCell (blk_setCell c8 3 _) 21 _) 37 _
  have N3 : Mo W w3 := by rw [hw3]; exact mo_setCell (mo_setCell (mo_setCell N2 lw _ _) lw _ _) lw _ _
  clear hw3 c6 c7 c8 h3 h21 h37 N2
  go_wp2_with fail
  refine (PT.out _).mono ?_
  rintro e w6 ⟨v, rfl, FB, M6⟩
  obtain ⟨A, cap, rfl, -⟩ := FB.now
  have j6 := M6.blk d6
  have j8 := M6.blk d8
  have N6 := N3.trans M6
  have l8 := d8.lt
  have FB' := Lib.hid FB
  have q38 := dg_b (wdC a) e1C e2C (.slice none 0 0)
  clear M6 FB d6 d7 d8 N3
  dsimp only at FB' ⊢
  rw [lenB] at FB' ⊢
  go_upto_region 8 with (fail)
  refine wp_name ?_
  intro w7 hw7
  have k6 : Blk w7 W.heap.size 41 (dgC wd0 en0 en0 (.slice none 0 0)) := by rw [hw7]; exact blk_setCell_ne j6 (by omega) _ _
  have k8 : Blk w7 w1.heap.size 41 (dgC (wdC a) e1C e2C (.slice A 48 cap)) := by
    have := blk_setCell j8 38 (.slice A 48 cap)
    rw [dg_setb] at this
    rw [hw7]
    exact this
  have N7 : Mo W w7 := by rw [hw7]; exact mo_setCell N6 lw _ _
  have S7 : w7.heap.size = w6.heap.size := by rw [hw7]; simp [World.setCell]
  have H7 : ∀ k, k ≠ w1.heap.size → w7.heap[k]? = w6.heap[k]? := fun k hk => by rw [hw7]; exact heap_setCell_other _ _ _ _ hk
  clear hw7 j6 j8 N6
  go_wp2_with fail
  refine ret_c1 rfl W.heap.size (dgC (wdC a) e1C e2C (.slice A 48 cap)) rfl rfl (z := inferInstance) (blk_setRow k6) ?_
  refine ⟨_, rfl, ?_, mo_setRow N7 (Nat.le_refl _) _⟩
  have hv := FB'.out (w7.setRow W.heap.size (dgC (wdC a) e1C e2C (.slice A 48 cap))) fun k h1 h2 => (setRow_get_ne _ _ _ _ (by omega)).trans (H7 k (by omega))
  obtain ⟨A', cap', e, hb⟩ := hv
  injection e with e1 e2 e3
  subst e1 e3
  exact ⟨A, cap, by unfold dgQ; rw [lenB], by unfold dgQ; exact hb⟩
attribute [local go_sem ↓] storeF_hd'
attribute [local go_sem] run_storeFA
set_option maxRecDepth 20000 in
set_option maxHeartbeats 8000000 in
theorem datagramR_any (a s : Int) (a1 : -9223372036854775808 ≤ a) (a2 : a ≤ 9223372036854775807) (hs : 0 ≤ s ∧ s ≤ 18446744073709551615) (W : World) :
    Calls Try.prog 23 #[.int .i64 a, .bool true, .int .u64 s] W fun e w' => ∃ v, e = .returned v ∧ DgV w' (dgR a s) v ∧ Mo W w' := by
  have PT := Lib.hid (fun w => rput_own ⟨hrD s, [], []⟩ (pkV (hrD s) (.slice none 0 0) (.slice none 0 0)) w ⟨none, 0, none, 0, rfl, extS_none w, byteS_none w⟩ (hrD_ok hs) (fun _ => by show totM [] + 0 ≤ 100000; decide))
  rw [putP_hd (by unfold hrD; rfl)] at PT
  have OF := Lib.hid (fun w => of_any a a1 a2 w)
  have lenB := hdB_len (hrD s)
  clear hs
  go_enter Try.func23, Try.ntmps23
  go_wp2_with fail
  refine (OF.out _).mono ?_
  rintro e w1 ⟨rfl, M1⟩
  have b6 : Blk w1 W.heap.size 41 (dgC wd0 en0 en0 (.slice none 0 0)) := M1.blk inferInstance
  have N1 : Mo W w1 := Mo.trans Mor.out M1
  have b7 : Blk w1 (W.heap.size + 1) 66 (pkL (hqD s) (.slice none 0 0) (.slice none 0 0)).toArray := M1.blk inferInstance
  have l7 := b7.lt
  clear M1
  go_upto_region 3 with (fail)
  refine wp_name ?_
  intro w2 hw2
  have c6 : Blk w2 W.heap.size 41 (dgC wd0 en0 en0 (.slice none 0 0)) := by rw [hw2]; infer_instance
  have c7 : Blk w2 (W.heap.size + 1) 66 (pkL (hqD s) (.slice none 0 0) (.slice none 0 0)).toArray := by rw [hw2]; infer_instance
  have c8 : Blk w2 w1.heap.size 41 (dgC (wdC a) en0 en0 (.slice none 0 0)) := by rw [hw2]; infer_instance
  have N2 : Mo W w2 := by rw [hw2]; exact N1.trans Mor.out
  obtain ⟨h3, h21, h37⟩ := dg_get3 (wdC a) (.slice none 0 0)
  have lw := N1.size
  clear hw2 b6 b7
  go_upto_region 5 with (fail)
  refine wp_name ?_
  intro w3 hw3
  have d6 : Blk w3 W.heap.size 41 (dgC wd0 en0 en0 (.slice none 0 0)) := by rw [hw3]; exact blk_setCell_ne (blk_setCell_ne (blk_setCell_ne c6 (by omega) _ _) (by omega) _ _) (by omega) _ _
  have d7 : Blk w3 (W.heap.size + 1) 66 (pkL (hqD s) (.slice none 0 0) (.slice none 0 0)).toArray := by rw [hw3]; exact blk_setCell_ne (blk_setCell_ne (blk_setCell_ne c7 (by omega) _ _) (by omega) _ _) (by omega) _ _
  have d8 : Blk w3 w1.heap.size 41 (dgC (wdC a) e1C e2C (.slice none 0 0)) := by rw [hw3, ← dg_set]; exact blk_setCell (blk_setCell (blk_setCell c8 3 _) 21 _) 37 _
  have N3 : Mo W w3 := by rw [hw3]; exact mo_setCell (mo_setCell (mo_setCell N2 lw _ _) lw _ _) lw _ _
  clear hw3 c6 c7 c8 h3 h21 h37 N2
  go_upto_region 6 with (fail)
  refine wp_name ?_
  intro w4 hw4
  have f6 : Blk w4 W.heap.size 41 (dgC wd0 en0 en0 (.slice none 0 0)) := by rw [hw4]; exact blk_setRow_ne d6 (by omega)
  have f7 : Blk w4 (W.heap.size + 1) 66 (pkL (hrD s) (.slice none 0 0) (.slice none 0 0)).toArray := by rw [hw4, ← pk_spl (hqD s) (hrD s)]; exact blk_setRow d7
  have f8 : Blk w4 w1.heap.size 41 (dgC (wdC a) e1C e2C (.slice none 0 0)) := by rw [hw4]; exact blk_setRow_ne d8 (by omega)
  have N4 : Mo W w4 := by rw [hw4]; exact mo_setRow N3 (by omega) _
  clear hw4 d6 d7 d8 N3
  have u8 : ∀ y : Value, Blk (w4.setRow w1.heap.size (spliceA (dgC (wdC a) e1C e2C (.slice none 0 0)) 2 e2C)) w1.heap.size 41 (dgC (wdC a) e2C e2C (.slice none 0 0)) := fun _ => by rw [dg_spl2]; exact blk_setRow f8
  have u8' := u8 undef
  go_upto_region 7 with (fail)
  refine wp_name ?_
  intro w5 hw5
  have g6 : Blk w5 W.heap.size 41 (dgC wd0 en0 en0 (.slice none 0 0)) := by rw [hw5]; exact blk_setRow_ne (blk_setRow_ne f6 (by omega)) (by omega)
  have g7 : Blk w5 (W.heap.size + 1) 66 (pkL (hrD s) (.slice none 0 0) (.slice none 0 0)).toArray := by rw [hw5]; exact blk_setRow_ne (blk_setRow_ne f7 (by omega)) (by omega)
  have g8 : Blk w5 w1.heap.size 41 (dgC (wdC a) e2C e1C (.slice none 0 0)) := by rw [hw5, ← dg_spl20 (wdC a) e2C e2C e1C]; exact blk_setRow u8'
  have N5 : Mo W w5 := by rw [hw5]; exact mo_setRow (mo_setRow N4 lw _) lw _
  clear hw5 f6 f7 f8 N4 u8 u8'
  go_wp2_with fail
  refine (PT.out _).mono ?_
  rintro e w6 ⟨v, rfl, FB, M6⟩
  obtain ⟨A, cap, rfl, -⟩ := FB.now
  have j6 := M6.blk g6
  have j8 := M6.blk g8
  have N6 := N5.trans M6
  have l8 := g8.lt
  have FB' := Lib.hid FB
  have q38 := dg_b (wdC a) e2C e1C (.slice none 0 0)
  clear M6 FB g6 g7 g8 N5
  dsimp only at FB' ⊢
  rw [lenB] at FB' ⊢
  go_upto_region 8 with (fail)
  refine wp_name ?_
  intro w7 hw7
  have k6 : Blk w7 W.heap.size 41 (dgC wd0 en0 en0 (.slice none 0 0)) := by rw [hw7]; exact blk_setCell_ne j6 (by omega) _ _
  have k8 : Blk w7 w1.heap.size 41 (dgC (wdC a) e2C e1C (.slice A 48 cap)) := by
    have := blk_setCell j8 38 (.slice A 48 cap)
    rw [dg_setb] at this
    rw [hw7]
    exact this
  have N7 : Mo W w7 := by rw [hw7]; exact mo_setCell N6 lw _ _
  have S7 : w7.heap.size = w6.heap.size := by rw [hw7]; simp [World.setCell]
  have H7 : ∀ k, k ≠ w1.heap.size → w7.heap[k]? = w6.heap[k]? := fun k hk => by rw [hw7]; exact heap_setCell_other _ _ _ _ hk
  clear hw7 j6 j8 N6
  go_wp2_with fail
  refine ret_c1 rfl W.heap.size (dgC (wdC a) e2C e1C (.slice A 48 cap)) rfl rfl (z := inferInstance) (blk_setRow k6) ?_
  refine ⟨_, rfl, ?_, mo_setRow N7 (Nat.le_refl _) _⟩
  have hv := FB'.out (w7.setRow W.heap.size (dgC (wdC a) e2C e1C (.slice A 48 cap))) fun k h1 h2 => (setRow_get_ne _ _ _ _ (by omega)).trans (H7 k (by omega))
  obtain ⟨A', cap', e, hb⟩ := hv
  injection e with e1 e2 e3
  subst e1 e3
  exact ⟨A, cap, by unfold dgR; rw [lenB], by unfold dgR; exact hb⟩
end Go.Proofs.Ytcflebggepmmcaa
/- horologelaw30: datagrams ([]Datagram) in memory; Great, becomes. -/
namespace Go.Proofs.Ytcflebggepmmcaa
open Go.RowKit

/-- datagrams at a slice's address -/
structure DgsS (W : World) (A : Option Addr) (cap : Nat) (l : List Dg) : Prop where
  le : l.length ≤ cap
  lim : l.length ≤ 4398046511104
  ok : ∀ d ∈ l, DgOk d
  nil : A = none → cap = 0
  at_ : l = [] ∨ ∃ g off, A = some ⟨g, off, none⟩ ∧ ∀ i, (h : i < l.length) → ∃ B bc, ByteS W B bc l[i].bs ∧ ∀ j v, (dgC l[i].at_ l[i].src l[i].dst (.slice B l[i].bs.length bc)).toList[j]? = some v → W.cell? ⟨g, off + i * 39 + j, none⟩ = some v
set_option maxRecDepth 20000 in
theorem DgsS.mo {W w : World} {A : Option Addr} {cap : Nat} {l : List Dg} (h : DgsS W A cap l) (k : Mo W w) : DgsS w A cap l := by
  refine ⟨h.le, h.lim, h.ok, h.nil, ?_⟩
  rcases h.at_ with e | ⟨g, off, rfl, hc⟩
  · exact .inl e
  · refine .inr ⟨g, off, rfl, fun i hi => ?_⟩
    obtain ⟨B, bc, hb, hv⟩ := hc i hi
    refine ⟨B, bc, hb.mo k, fun j v q => ?_⟩
    have := hv j v q
    have : LtW g W := LtW.of_cell this
    rw [k.cell, hv j v q]
set_option maxRecDepth 20000 in
theorem dg_sz {a s u : Array Value} {x : Value} (ha : SzA a 2) (hs : SzA s 18) (hu : SzA u 18) : (dgC a s u x).size = 39 := (inferInstance : SzA (dgC a s u x) 39).out
set_option maxRecDepth 20000 in
theorem DgsS.get {W : World} {A : Option Addr} {cap : Nat} {l : List Dg} (h : DgsS W A cap l) (i : Nat) (hi : i < l.length) : ∃ g off B bc, A = some ⟨g, off, none⟩ ∧
    (loadF 41 (.pointer (some ⟨g, off + i * 39, none⟩))).run Try.prog W = .ok (.agg (dgC l[i].at_ l[i].src l[i].dst (.slice B l[i].bs.length bc))) W ∧ ByteS W B bc l[i].bs := by
  rcases h.at_ with e | ⟨g, off, rfl, hc⟩
  · rw [e] at hi; cases hi
  · obtain ⟨B, bc, hb, hv⟩ := hc i hi
    have ok := h.ok _ (List.getElem_mem hi)
    exact ⟨g, off, B, bc, rfl, run_loadC 41 39 W g (off + i * 39) _ (dg_sz (sz_wide ok.at_) (sz_ends ok.src) (sz_ends ok.dst)) hv, hb⟩
/-- what is kept behind so many datagrams -/
noncomputable def playM (room : Int) (l : List Dg) : Nat → List En
  | 0 => []
  | n + 1 => match l[n]? with
    | none => playM room l n
    | some d => entM room (playM room l n) d
set_option maxRecDepth 20000 in
theorem playM_succ (room : Int) (l : List Dg) (n : Nat) (h : n < l.length) : playM room l (n + 1) = entM room (playM room l n) l[n] := by
  rw [playM, List.getElem?_eq_getElem h]
set_option maxRecDepth 20000 in
theorem entM_len {room : Int} {E : List En} (h : (E.length : Int) ≤ room) (d : Dg) : ((entM room E d).length : Int) ≤ room := by
  unfold entM
  split
  · unfold askE
    split
    · assumption
    · rename_i c
      have hs : (strike E (keyC d (classP d.bs).1.h)).length ≤ E.length := List.length_filter_le _ _
      simp only [List.length_tail, List.length_append, List.length_singleton]
      omega
  · split
    · unfold ansE; rw [List.length_map]; exact h
    · exact h
set_option maxRecDepth 20000 in
theorem playM_len {room : Int} (h1 : 1 ≤ room) (l : List Dg) : ∀ n, ((playM room l n).length : Int) ≤ room
  | 0 => by simp [playM]; omega
  | n + 1 => by
    rw [playM]
    split
    · exact playM_len h1 l n
    · exact entM_len (playM_len h1 l n) _
set_option maxRecDepth 20000 in
theorem upC_bd {c : Nat → Int} {n : Int} (h : ∀ i, 0 ≤ c i ∧ c i ≤ n) (q : Int) : ∀ i, 0 ≤ upC c q i ∧ upC c q i ≤ n + 1 := fun i => by
  have := h i
  unfold upC
  split <;> omega
set_option maxRecDepth 20000 in
theorem smM_sz {win : Int} {E : List En} {d : Dg} (kd : DgOk d) : SzA (smM win E d) 48 := by
  have zs := sz_ends kd.src
  have zt := sz_ends kd.dst
  have zf : SzA (d.dst ++ d.src) 36 := ⟨by rw [Array.size_append, zs.out, zt.out]⟩
  unfold smM
  split
  · unfold smpC; infer_instance
  · infer_instance
set_option maxRecDepth 20000 in
theorem smM_one {win : Int} {E : List En} {d : Dg} (kd : DgOk d) : OneA (smM win E d) := by
  have os := one_of_fits kd.src
  have ot := one_of_fits kd.dst
  unfold smM
  split
  · unfold smpC; infer_instance
  · infer_instance
def GreatM (l : List Dg) : Bool := l.any (fun d => decide (300 < d.bs.length)) || decide (80 < l.length)
attribute [local go_sem] blk_cell' blk_frozen' dg_at dg_b dg_src dg_dst
attribute [local go_sem ↓] loadF_dg storeF_dg' storeF_samp loadF_samp
attribute [local go_sem] run_loadF0 run_storeF0 run_loadFo run_loadFz
set_option maxRecDepth 20000 in
set_option maxHeartbeats 8000000 in
theorem great_any (A : Option Addr) (cap L : Nat) (l : List Dg) (W : World) (hL : l.length = L) (h : DgsS W A cap l) :
    Calls Try.prog 9 #[.slice A L cap] W fun e w' => e = .returned (.bool (GreatM l)) ∧ Mo W w' := by
  have HD := Lib.hid h
  have hlim := h.lim
  rw [hL] at hlim
  have HL := Lib.hid hL
  clear h hL
  go_enter Try.func9, Try.ntmps9
  go_wp2_with fail
  go_loopw [7] (fun i wr => ∃ j : Nat, j ≤ L ∧ i = .int .i64 j ∧ Mo W wr ∧ ∀ k, (h : k < l.length) → k < j → l[k].bs.length ≤ 300) (fun i _ => L - (intOf i).toNat)
  case atStart => exact ⟨0, by omega, rfl, Mor.out, fun k _ c => absurd c (by omega)⟩
  case round =>
    obtain ⟨j, hj, rfl, hM, hp⟩ := hrel
    have HPP := Lib.hid hp
    clear hp
    by_cases cj : j < L
    · have hjl : j < l.length := by rw [HL.out]; exact cj
      obtain ⟨g, off, B, bc, rfl, ld, hb⟩ := (HD.out.mo hM).get j hjl
      have XO := HD.out.ok _ (List.getElem_mem hjl)
      have i0 : (0 : Int) ≤ j := by omega
      have i1 : (j : Int) < L := by omega
      have za := sz_wide XO.at_
      have zs := sz_ends XO.src
      have zt := sz_ends XO.dst
      have oa := one_of_fits XO.at_
      have os := one_of_fits XO.src
      have ot := one_of_fits XO.dst
      have eb : Hid (∀ x, l[j].bs.length = x → (300 < x → GreatM l = true) ∧ (x ≤ 300 → ∀ k, (h : k < l.length) → k < j + 1 → l[k].bs.length ≤ 300)) := Lib.hid fun x hx => ⟨fun c => by
        unfold GreatM
        rw [Bool.or_eq_true, List.any_eq_true]
        exact .inl ⟨_, List.getElem_mem hjl, decide_eq_true (by omega)⟩, fun c k hk hk' => by
        by_cases e : k = j
        · subst e; omega
        · exact HPP.out k hk (by omega)⟩
      clear hb
      generalize l[j].at_ = da at *
      generalize l[j].src = ds at *
      generalize l[j].dst = dd at *
      generalize l[j].bs.length = n at *
      have EB := Lib.hid (eb.out n rfl)
      have hw : IntKind.i64.wrap ((j : Int) + 1) = j + 1 := by rw [IntKind.wrap_i64]; omega
      clear eb hjl XO
      by_cases c3 : 300 < n
      · have d3 : decide (300 < (n : Int)) = true := decide_eq_true (by omega)
        go_wp2_with fail
        go_ret
        exact ⟨by rw [EB.out.1 c3]; rfl, hM.trans Mor.out⟩
      · have d3 : decide (300 < (n : Int)) = false := decide_eq_false (by omega)
        go_wp2_with fail
        go_roundw
        case rel => exact ⟨j + 1, by omega, by go_num, hM.trans Mor.out, EB.out.2 (by omega)⟩
        case measure => simp [intOf]; omega
    · have ej : j = L := by omega
      subst ej
      have hg : GreatM l = decide (80 < (j : Int)) := by
        unfold GreatM
        have : l.any (fun d => decide (300 < d.bs.length)) = false := by
          rw [Bool.eq_false_iff]
          intro c
          obtain ⟨d, hd, q⟩ := List.any_eq_true.1 c
          obtain ⟨k, hk, rfl⟩ := List.getElem_of_mem hd
          have := HPP.out k hk (by rw [← HL.out]; exact hk)
          have := of_decide_eq_true q
          omega
        rw [this, Bool.false_or, HL.out]
        exact decide_eq_decide.2 (by omega)
      have HG := Lib.hid hg
      clear hg
      go_wp2_with fail
      go_ret
      exact ⟨by rw [HG.out]; rfl, hM.trans Mor.out⟩
set_option maxRecDepth 20000 in
set_option maxHeartbeats 16000000 in
theorem becomes_any (A A' : Option Addr) (cap cap' L : Nat) (l : List Dg) (ws : List Int) (W : World) (hL : l.length = L) (hL' : ws.length = L) (hm : L ≤ 1000) (h : DgsS W A cap l) (h' : ByteS W A' cap' ws)
    (hc : ∀ i, (h : i < l.length) → (k : i < ws.length) → clsM 4294967296 (playM 2 l i) l[i] = ws[i]) :
    Calls Try.prog 24 #[.slice A L cap, .slice A' L cap'] W fun e w' => e = .returned (.bool true) ∧ Mo W w' := by
  have HD := Lib.hid h
  have HB := Lib.hid h'
  have HL := Lib.hid hL
  have HL' := Lib.hid hL'
  have HC := Lib.hid hc
  clear h h' hL hL' hc
  go_enter Try.func24, Try.ntmps24
  go_wp2_with fail
  refine (mnew_in 2 4294967296 (by omega) (by omega) _).mono ?_
  rintro e w2 ⟨M, T, B, rfl, V2, lM, M2⟩
  have N2 : Mo W w2 := Mo.trans Mor.out M2
  have lM' : W.heap.size ≤ M := Nat.le_trans (Mo.size Mor.out) lM
  have V2' := Lib.hid (show MatV w2 M T B 2 4294967296 (fun _ => 0) [] (fun i => W.heap.size ≤ i ∧ i ≠ M) from ⟨V2.m, V2.t.weak fun i _ q => ⟨Nat.le_trans (Mo.size Mor.out) q.1, q.2⟩, fun q => q.2 rfl⟩)
  clear V2 M2 lM
  go_wp2_with fail
  go_loopw [30] (fun i wr => ∃ (j : Nat) (c : Nat → Int), j ≤ L ∧ i = .int .i64 j ∧ Mo W wr ∧ (∀ i, 0 ≤ c i ∧ c i ≤ j) ∧ MatV wr M T B 2 4294967296 c (playM 2 l j) (fun i => W.heap.size ≤ i ∧ i ≠ M)) (fun i _ => L - (intOf i).toNat)
  case atStart => exact ⟨0, fun _ => 0, by omega, rfl, N2, fun i => ⟨by simp, by simp⟩, V2'.out⟩
  case round =>
    obtain ⟨j, c, hj, rfl, hM, hcb, hV⟩ := hrel
    have HV := Lib.hid hV
    have HCB := Lib.hid hcb
    clear hV hcb
    by_cases cj : j < L
    · have hjl : j < l.length := by rw [HL.out]; exact cj
      have hjw : j < ws.length := by rw [HL'.out]; exact cj
      obtain ⟨g, off, B1, bc, rfl, ld, hb⟩ := (HD.out.mo hM).get j hjl
      have XO := HD.out.ok _ (List.getElem_mem hjl)
      obtain ⟨g', off', rfl, lt', lb⟩ := HB.out.get (by omega)
      have LB := Lib.hid (fun w (m : Mo W w) => show w.cell? ⟨g', off' + j, none⟩ = some (.int .u8 ws[j]) by rw [m.cell]; exact (lb j hjw).1)
      have i0 : (0 : Int) ≤ j := by omega
      have i1 : (j : Int) < L := by omega
      have za := sz_wide XO.at_
      have zs := sz_ends XO.src
      have zt := sz_ends XO.dst
      have oa := one_of_fits XO.at_
      have os := one_of_fits XO.src
      have ot := one_of_fits XO.dst
      have PL := playM_len (room := 2) (by omega) l j
      have CL := HC.out j hjl hjw
      have PE := playM_succ 2 l j hjl
      have TK := Lib.hid (fun w (m : Mo wr w) => mtake_any M T B 2 4294967296 c (playM 2 l j) (fun i => W.heap.size ≤ i ∧ i ≠ M) l[j] _ w (HV.out.mo m) ⟨B1, bc, rfl, hb.mo m⟩ XO (by omega) (fun i => by have := HCB.out i; omega) (by omega) (by omega))
      rw [CL, ← PE] at TK
      have zq : SzA (smM 4294967296 (playM 2 l j) l[j]) 48 := smM_sz XO
      have oq : OneA (smM 4294967296 (playM 2 l j) l[j]) := smM_one XO
      generalize smM 4294967296 (playM 2 l j) l[j] = SM at *
      generalize ws[j] = q at *
      generalize l[j].at_ = da at *
      generalize l[j].src = ds at *
      generalize l[j].dst = dd at *
      generalize l[j].bs.length = n at *
      have hw : IntKind.i64.wrap ((j : Int) + 1) = j + 1 := by rw [IntKind.wrap_i64]; omega
      clear hjl hjw XO CL PE hb lb
      go_wp2_with fail
      refine (TK.out _ Mor.out).mono ?_
      rintro e w5 ⟨rfl, V5, K5⟩
      have N5 : Mo W w5 := K5.mo (hM.trans Mor.out) fun i _ q => by
        rcases q with q | rfl
        · exact q.1
        · exact lM'
      have V5' := Lib.hid (show MatV w5 M T B 2 4294967296 (upC c q) (playM 2 l (j + 1)) (fun i => W.heap.size ≤ i ∧ i ≠ M) from ⟨V5.m, V5.t.weak fun i _ p => by
        rcases p with p | p
        · exact p
        · have h1 := HV.out.m.lt
          have h2 := hM.size
          have h4 := Nat.le_trans (Mo.size (Mor.out : Mo wr _)) p
          exact ⟨by omega, by omega⟩, fun q => q.2 rfl⟩)
      have lb5 := LB.out w5 N5
      have lt5 : LtW g' w5 := N5.ltW lt'
      clear V5 K5 TK LB ld
      go_wp2_with fail
      go_roundw
      case rel => exact ⟨j + 1, upC c q, by omega, by go_num, N5.trans Mor.out, fun i => by have := upC_bd HCB.out q i; omega, V5'.out.mo Mor.out⟩
      case measure => simp [intOf]; omega
    · have ej : j = L := by omega
      subst ej
      go_wp2_with fail
      go_ret
      exact ⟨rfl, hM.trans Mor.out⟩
end Go.Proofs.Ytcflebggepmmcaa
/- horologelaw30: slices of datagrams, built. -/
namespace Go.Proofs.Ytcflebggepmmcaa
open Go.RowKit

set_option maxRecDepth 20000 in
theorem foldl_splice (off : Nat) : ∀ (v : List Value) (k : Nat) (cs : Array Value), off + k + v.length ≤ cs.size → ((v.zipIdx k).foldl (fun (cs : Array Value) (p : Value × Nat) => cs.setIfInBounds (off + p.2) p.1) cs).toList = spliceL cs.toList (off + k) v
  | [], k, cs, _ => by unfold spliceL; simp
  | x :: v, k, cs, h => by
    rw [List.length_cons] at h
    rw [List.zipIdx_cons, List.foldl_cons, foldl_splice off v (k + 1) _ (by simp; omega), Array.toList_setIfInBounds, show off + (k + 1) = off + k + 1 by omega, spliceL_cons _ _ _ _ (by simp; omega)]
set_option maxRecDepth 20000 in
theorem splice_mid (P Z v : List Value) : spliceL (P ++ Z) P.length v = (P ++ v) ++ Z.drop v.length := by
  unfold spliceL
  rw [List.take_left, List.drop_append]
  simp
set_option maxRecDepth 20000 in
theorem fill_rows : ∀ (vs : List (Array Value)) (i : Nat) (P Z : List Value) (cells : Array Value), (∀ v ∈ vs, v.size = 39) → P.length = i * 39 → cells.toList = P ++ Z → Z.length = vs.length * 39 →
    Instr.fill (fun i => some (i * 39, 39)) cells ((vs.zipIdx i).map fun p => (p.2, Value.agg p.1)) = some (P ++ vs.flatMap (·.toList)).toArray
  | [], i, P, Z, cells, _, _, hc, hz => by
    have : Z = [] := List.eq_nil_of_length_eq_zero (by simpa using hz)
    subst this
    simp only [List.zipIdx_nil, List.map_nil, Instr.fill, List.flatMap_nil]
    rw [← hc]
  | v :: vs, i, P, Z, cells, h, hp, hc, hz => by
    have h0 := h v List.mem_cons_self
    rw [List.length_cons] at hz
    have hs : cells.size = P.length + Z.length := by rw [← Array.length_toList, hc, List.length_append]
    rw [List.zipIdx_cons, List.map_cons]
    unfold Instr.fill
    have e1 : (Value.agg v).cells = v := rfl
    simp only [e1]
    rw [if_neg (by simp [h0]; omega)]
    have e2 : (v.zipIdx.foldl (fun (cs : Array Value) (p : Value × Nat) => cs.setIfInBounds (i * 39 + p.2) p.1) cells).toList = (P ++ v.toList) ++ Z.drop 39 := by
      rw [← Array.foldl_toList, Array.toList_zipIdx, foldl_splice (i * 39) v.toList 0 cells (by simp [h0]; omega), hc, show i * 39 + 0 = P.length by omega, splice_mid P Z _]
      simp [h0]
    have := fill_rows vs (i + 1) (P ++ v.toList) (Z.drop 39) _ (fun x hx => h x (List.mem_cons_of_mem _ hx)) (by simp [h0]; omega) e2 (by rw [List.length_drop]; omega)
    rw [List.flatMap_cons, ← List.append_assoc]
    exact this
def rowsD (vs : List (Array Value)) : Array Value := (vs.flatMap (·.toList)).toArray
def buildDg (n : Nat) (l : Array (Nat × Value)) : Sem Value := Instr.buildSlice 22 n l
set_option maxRecDepth 20000 in
theorem buildDg_fold (n : Nat) (l : Array (Nat × Value)) : Instr.buildSlice 22 n l = buildDg n l := rfl
set_option maxRecDepth 20000 in
theorem zero_dg : ∃ ie z, Try.prog.info? 41 = some ie ∧ ie.zero = some z ∧ ie.size = 39 := by
  have h1 : (Try.prog.info? 41).map (·.size) = some 39 := by kernel_rfl
  have h2 : ((Try.prog.info? 41).bind (·.zero)).isSome = true := by kernel_rfl
  cases h : Try.prog.info? 41 with
  | none => rw [h] at h1; cases h1
  | some ie =>
    rw [h] at h1 h2
    obtain ⟨z, hz⟩ := Option.isSome_iff_exists.1 h2
    exact ⟨ie, z, rfl, hz, by simpa using h1⟩
set_option maxRecDepth 20000 in
theorem run_buildDg (vs : List (Array Value)) (h : ∀ v ∈ vs, v.size = 39) (n : Nat) (hn : vs.length = n) (h0 : 0 < n) (h1 : n ≤ 10) (w : World) :
    (buildDg n (vs.zipIdx.map fun p => (p.2, Value.agg p.1)).toArray).run Try.prog w = .ok (.slice (some ⟨w.heap.size, 0, none⟩) n n) (w.alloc (.cells (rowsD vs) 41)) := by
  obtain ⟨ie, z, e1, e2, e3⟩ := zero_dg
  refine run_buildSlice w _ _ n _ _ ie z Try.underlying22 e1 e2 (by rw [e3]; omega) (by rw [e3]; omega) ?_
  rw [e3]
  have := fill_rows vs 0 [] _ ((Array.range (n * 39)).map (z.cells[· % z.cells.size]!)) h rfl rfl (by rw [Array.length_toList, Array.size_map, Array.size_range, hn])
  exact this
set_option maxRecDepth 20000 in
theorem run_bd2 (c1 c2 : Array Value) [h1 : SzA c1 39] [h2 : SzA c2 39] (w : World) : (buildDg 2 #[(0, .agg c1), (1, .agg c2)]).run Try.prog w = .ok (.slice (some ⟨w.heap.size, 0, none⟩) 2 2) (w.alloc (.cells (rowsD [c1, c2]) 41)) :=
  run_buildDg [c1, c2] (fun v hv => by simp at hv; rcases hv with rfl | rfl <;> exact SzA.out) 2 rfl (by omega) (by omega) w
set_option maxRecDepth 20000 in
theorem run_bd3 (c1 c2 c3 : Array Value) [h1 : SzA c1 39] [h2 : SzA c2 39] [h3 : SzA c3 39] (w : World) : (buildDg 3 #[(0, .agg c1), (1, .agg c2), (2, .agg c3)]).run Try.prog w = .ok (.slice (some ⟨w.heap.size, 0, none⟩) 3 3) (w.alloc (.cells (rowsD [c1, c2, c3]) 41)) :=
  run_buildDg [c1, c2, c3] (fun v hv => by simp at hv; rcases hv with rfl | rfl | rfl <;> exact SzA.out) 3 rfl (by omega) (by omega) w
set_option maxRecDepth 20000 in
theorem run_bd4 (c1 c2 c3 c4 : Array Value) [h1 : SzA c1 39] [h2 : SzA c2 39] [h3 : SzA c3 39] [h4 : SzA c4 39] (w : World) : (buildDg 4 #[(0, .agg c1), (1, .agg c2), (2, .agg c3), (3, .agg c4)]).run Try.prog w = .ok (.slice (some ⟨w.heap.size, 0, none⟩) 4 4) (w.alloc (.cells (rowsD [c1, c2, c3, c4]) 41)) :=
  run_buildDg [c1, c2, c3, c4] (fun v hv => by simp at hv; rcases hv with rfl | rfl | rfl | rfl <;> exact SzA.out) 4 rfl (by omega) (by omega) w
set_option maxRecDepth 20000 in
theorem run_bd5 (c1 c2 c3 c4 c5 : Array Value) [h1 : SzA c1 39] [h2 : SzA c2 39] [h3 : SzA c3 39] [h4 : SzA c4 39] [h5 : SzA c5 39] (w : World) : (buildDg 5 #[(0, .agg c1), (1, .agg c2), (2, .agg c3), (3, .agg c4), (4, .agg c5)]).run Try.prog w = .ok (.slice (some ⟨w.heap.size, 0, none⟩) 5 5) (w.alloc (.cells (rowsD [c1, c2, c3, c4, c5]) 41)) :=
  run_buildDg [c1, c2, c3, c4, c5] (fun v hv => by simp at hv; rcases hv with rfl | rfl | rfl | rfl | rfl <;> exact SzA.out) 5 rfl (by omega) (by omega) w
set_option maxRecDepth 20000 in
theorem rowsD_get : ∀ (vs : List (Array Value)) (i j : Nat) (v : Array Value) (x : Value), (∀ v ∈ vs, v.size = 39) → vs[i]? = some v → v.toList[j]? = some x → (rowsD vs)[i * 39 + j]? = some x
  | [], i, j, v, x, _, hi, _ => by simp at hi
  | u :: vs, 0, j, v, x, h, hi, hj => by
    have : u = v := by simpa using hi
    subst this
    have hl : j < u.toList.length := (List.getElem?_eq_some_iff.1 hj).1
    unfold rowsD
    rw [← Array.getElem?_toList, List.flatMap_cons, Nat.zero_mul, Nat.zero_add, List.getElem?_append_left hl, hj]
  | u :: vs, i + 1, j, v, x, h, hi, hj => by
    have hu := h u List.mem_cons_self
    have := rowsD_get vs i j v x (fun a ha => h a (List.mem_cons_of_mem _ ha)) (by simpa using hi) hj
    unfold rowsD at this ⊢
    rw [← Array.getElem?_toList] at this ⊢
    rw [List.flatMap_cons, List.getElem?_append_right (by rw [Array.length_toList, hu]; omega), Array.length_toList, hu, show (i + 1) * 39 + j - 39 = i * 39 + j by omega]
    exact this
set_option maxRecDepth 20000 in
/-- datagrams that a block holds, one behind the other -/
theorem dgs_blk {w : World} {g : Nat} {vs : List (Array Value)} (b : Blk w g 41 (rowsD vs)) (ds : List Dg) (hl : ds.length ≤ 1000) (hv : ∀ v ∈ vs, v.size = 39) (ok : ∀ d ∈ ds, DgOk d)
    (h : ∀ i, (h : i < ds.length) → ∃ B bc, vs[i]? = some (dgC ds[i].at_ ds[i].src ds[i].dst (.slice B ds[i].bs.length bc)) ∧ ByteS w B bc ds[i].bs) : DgsS w (some ⟨g, 0, none⟩) ds.length ds :=
  ⟨Nat.le_refl _, by omega, ok, fun e => (by cases e), .inr ⟨g, 0, rfl, fun i hi => by
    obtain ⟨B, bc, e, hb⟩ := h i hi
    refine ⟨B, bc, hb, fun j v q => ?_⟩
    rw [blk_cell b, Nat.zero_add]
    exact rowsD_get vs i j _ v hv e q⟩⟩
end Go.Proofs.Ytcflebggepmmcaa
/- horologelaw30: what becomes of the document's examples; plain. -/
namespace Go.Proofs.Ytcflebggepmmcaa
open Go.RowKit

def kS (s : Int) : Array Value := kyC e1C e2C s
def eS (s a : Int) (d : Bool) : En := ⟨kS s, wdC a, d⟩
set_option maxRecDepth 20000 in
theorem kS_inj {s t : Int} (h : kS s = kS t) : s = t := by
  have := congrArg (fun c : Array Value => c[36]?) h
  simp only [kS, ky_cell] at this
  injection this with this
  injection this
set_option maxRecDepth 20000 in
theorem eqK (s t : Int) : eqA (kS s) (kS t) = decide (s = t) := by
  by_cases c : s = t
  · subst c; rw [decide_eq_true rfl]; exact eqA_self _
  · rw [decide_eq_false c, Bool.eq_false_iff]; exact fun h => c (kS_inj (eqA_iff.1 h))
set_option maxRecDepth 20000 in
theorem cls_Q {a s : Int} (h : 0 ≤ s ∧ s ≤ 18446744073709551615) : classP (dgQ a s).bs = (⟨hqD s, [], []⟩, if s = 0 then 3 else 1) := by
  show classP (hdB (hqD s)) = _
  rw [classP_hd (hqD_ok h) (by unfold hqD; rfl)]
  congr 1
  unfold kindP hqD
  simp
set_option maxRecDepth 20000 in
theorem cls_R {a s : Int} (h : 0 ≤ s ∧ s ≤ 18446744073709551615) : classP (dgR a s).bs = (⟨hrD s, [], []⟩, if s = 0 then 3 else 4) := by
  show classP (hdB (hrD s)) = _
  rw [classP_hd (hrD_ok h) (by unfold hrD; rfl)]
  congr 1
  unfold kindP hrD
  simp
set_option maxRecDepth 20000 in
theorem key_Q (a s : Int) : keyC (dgQ a s) (hqD s) = kS s := rfl
set_option maxRecDepth 20000 in
theorem key_R (a s : Int) : keyC (dgR a s) (hrD s) = kS s := rfl
set_option maxRecDepth 20000 in
theorem clsM_Q (win : Int) (E : List En) {a s : Int} (h : 0 < s ∧ s ≤ 1000) : clsM win E (dgQ a s) = if hasE E (kS s) = true then 2 else 1 := by
  unfold clsM
  rw [cls_Q (by omega), if_neg (by omega : ¬ s = 0), if_pos rfl, key_Q]
set_option maxRecDepth 20000 in
theorem clsM_R (win : Int) (E : List En) {a s : Int} (h : 0 < s ∧ s ≤ 1000) : clsM win E (dgR a s) = match findE E (kS s) with
    | none => 7
    | some e => if e.d = true then 6 else if insB win (wI e.a) a = true then 4 else 5 := by
  unfold clsM
  rw [cls_R (by omega), if_neg (by omega : ¬ s = 0), if_neg (show ¬ (4 : Int) = 1 by decide), if_pos rfl, key_R, show (dgR a s).at_ = wdC a from rfl, wI_wd]
  cases findE E (kS s) <;> rfl
set_option maxRecDepth 20000 in
theorem clsM_R0 (win : Int) (E : List En) (a : Int) : clsM win E (dgR a 0) = 3 := by
  unfold clsM
  rw [cls_R (by omega), if_pos rfl, if_neg (show ¬ (3 : Int) = 1 by decide), if_neg (show ¬ (3 : Int) = 4 by decide)]
set_option maxRecDepth 20000 in
theorem entM_Q (room : Int) (E : List En) {a s : Int} (h : 0 < s ∧ s ≤ 1000) : entM room E (dgQ a s) = (askE room E (kS s) (wdC a)).2.2 := by
  unfold entM
  rw [cls_Q (by omega), if_neg (by omega : ¬ s = 0), if_pos rfl, key_Q]
  rfl
set_option maxRecDepth 20000 in
theorem entM_R (room : Int) (E : List En) {a s : Int} (h : 0 < s ∧ s ≤ 1000) : entM room E (dgR a s) = ansE E (kS s) := by
  unfold entM
  rw [cls_R (by omega), if_neg (by omega : ¬ s = 0), if_neg (show ¬ (4 : Int) = 1 by decide), if_pos rfl, key_R]
set_option maxRecDepth 20000 in
theorem askS_nil (s a : Int) : (askE 2 [] (kS s) (wdC a)).2.2 = [eS s a false] := rfl
set_option maxRecDepth 20000 in
theorem hasS_nil (s : Int) : hasE [] (kS s) = false := rfl
set_option maxRecDepth 20000 in
theorem hasS (E : List En) (s t a : Int) (d : Bool) : hasE (eS s a d :: E) (kS t) = (decide (s = t) || hasE E (kS t)) := by
  unfold hasE
  rw [List.any_cons]
  congr 1
  exact eqK s t
set_option maxRecDepth 20000 in
theorem findS_nil (t : Int) : findE [] (kS t) = none := rfl
set_option maxRecDepth 20000 in
theorem findS (E : List En) (s t a : Int) (d : Bool) : findE (eS s a d :: E) (kS t) = if s = t then some (eS s a d) else findE E (kS t) := by
  unfold findE
  rw [List.find?_cons]
  have : eqA (eS s a d).k (kS t) = decide (s = t) := eqK s t
  rw [this]
  by_cases c : s = t
  · rw [decide_eq_true c, if_pos c]
  · rw [decide_eq_false c, if_neg c]
set_option maxRecDepth 20000 in
theorem ansS_nil (t : Int) : ansE [] (kS t) = [] := rfl
set_option maxRecDepth 20000 in
theorem ansS (E : List En) (s t a : Int) (d : Bool) : ansE (eS s a d :: E) (kS t) = (if s = t then eS s a true else eS s a d) :: ansE E (kS t) := by
  unfold ansE
  rw [List.map_cons]
  congr 1
  have : eqA (eS s a d).k (kS t) = decide (s = t) := eqK s t
  rw [this]
  by_cases c : s = t
  · rw [decide_eq_true c, if_pos rfl, if_pos c]; rfl
  · rw [decide_eq_false c, if_neg c]; rfl
set_option maxRecDepth 20000 in
theorem strikeS_nil (t : Int) : strike [] (kS t) = [] := rfl
set_option maxRecDepth 20000 in
theorem strikeS (E : List En) (s t a : Int) (d : Bool) : strike (eS s a d :: E) (kS t) = if s = t then strike E (kS t) else eS s a d :: strike E (kS t) := by
  unfold strike
  rw [List.filter_cons]
  have : eqA (eS s a d).k (kS t) = decide (s = t) := eqK s t
  rw [this]
  by_cases c : s = t
  · rw [decide_eq_true c, if_neg (by simp), if_pos c]
  · rw [decide_eq_false c, if_pos (by simp), if_neg c]
set_option maxRecDepth 20000 in
theorem askS (E : List En) (t b : Int) : (askE 2 E (kS t) (wdC b)).2.2 = if ((strike E (kS t) ++ [eS t b false]).length : Int) ≤ 2 then strike E (kS t) ++ [eS t b false] else (strike E (kS t) ++ [eS t b false]).tail := by
  by_cases c : ((strike E (kS t) ++ [eS t b false]).length : Int) ≤ 2
  · rw [if_pos c]; exact congrArg (fun x : Bool × Option En × List En => x.2.2) (if_pos c)
  · rw [if_neg c]; exact congrArg (fun x : Bool × Option En × List En => x.2.2) (if_neg c)
set_option maxRecDepth 20000 in
theorem eS_d (s a : Int) (d : Bool) : (eS s a d).d = d := rfl
set_option maxRecDepth 20000 in
theorem eS_a (s a : Int) (d : Bool) : wI (eS s a d).a = a := wI_wd a
set_option maxRecDepth 20000 in
theorem ex1 : ∀ i, (h : i < [dgQ 10 5, dgR 20 5, dgR 20 5].length) → (k : i < [(1 : Int), 4, 6].length) → clsM 4294967296 (playM 2 [dgQ 10 5, dgR 20 5, dgR 20 5] i) [dgQ 10 5, dgR 20 5, dgR 20 5][i] = [(1 : Int), 4, 6][i] := fun i h k => by
  match i, h with
  | 0, _ => show clsM _ [] (dgQ 10 5) = 1; rw [clsM_Q _ _ (by decide), hasS_nil]; rfl
  | 1, _ => show clsM _ (entM 2 [] (dgQ 10 5)) (dgR 20 5) = 4; rw [clsM_R _ _ (by decide), entM_Q _ _ (by decide), askS_nil, findS, if_pos rfl]; simp only [eS_d, eS_a]; decide
  | 2, _ => show clsM _ (entM 2 (entM 2 [] (dgQ 10 5)) (dgR 20 5)) (dgR 20 5) = 6; rw [clsM_R _ _ (by decide), entM_R _ _ (by decide), entM_Q _ _ (by decide), askS_nil, ansS, if_pos rfl, findS, if_pos rfl]; rfl
set_option maxRecDepth 20000 in
theorem ex2 : ∀ i, (h : i < [dgQ 10 5, dgQ 10 5, dgR 4294967307 5, dgR 4294967307 5].length) → (k : i < [(1 : Int), 2, 5, 6].length) → clsM 4294967296 (playM 2 [dgQ 10 5, dgQ 10 5, dgR 4294967307 5, dgR 4294967307 5] i) [dgQ 10 5, dgQ 10 5, dgR 4294967307 5, dgR 4294967307 5][i] = [(1 : Int), 2, 5, 6][i] := fun i h k => by
  have e2 : entM 2 (entM 2 [] (dgQ 10 5)) (dgQ 10 5) = [eS 5 10 false] := by rw [entM_Q _ _ (by decide), entM_Q _ _ (by decide), askS_nil, askS, strikeS, if_pos rfl, strikeS_nil]; rfl
  match i, h with
  | 0, _ => show clsM _ [] (dgQ 10 5) = 1; rw [clsM_Q _ _ (by decide), hasS_nil]; rfl
  | 1, _ => show clsM _ (entM 2 [] (dgQ 10 5)) (dgQ 10 5) = 2; rw [clsM_Q _ _ (by decide), entM_Q _ _ (by decide), askS_nil, hasS]; rfl
  | 2, _ => show clsM _ (entM 2 (entM 2 [] (dgQ 10 5)) (dgQ 10 5)) (dgR 4294967307 5) = 5; rw [e2, clsM_R _ _ (by decide), findS, if_pos rfl]; simp only [eS_d, eS_a]; decide
  | 3, _ => show clsM _ (entM 2 (entM 2 (entM 2 [] (dgQ 10 5)) (dgQ 10 5)) (dgR 4294967307 5)) (dgR 4294967307 5) = 6; rw [e2, clsM_R _ _ (by decide), entM_R _ _ (by decide), ansS, if_pos rfl, findS, if_pos rfl]; rfl
set_option maxRecDepth 20000 in
theorem ex3 : ∀ i, (h : i < [dgR 20 5, dgR 1 0].length) → (k : i < [(7 : Int), 3].length) → clsM 4294967296 (playM 2 [dgR 20 5, dgR 1 0] i) [dgR 20 5, dgR 1 0][i] = [(7 : Int), 3][i] := fun i h k => by
  match i, h with
  | 0, _ => show clsM _ [] (dgR 20 5) = 7; rw [clsM_R _ _ (by decide), findS_nil]
  | 1, _ => exact clsM_R0 _ _ _
set_option maxRecDepth 20000 in
theorem ex4 (b q : Int) (hq : (if insB 4294967296 10 b = true then (4 : Int) else 5) = q) : ∀ i, (h : i < [dgQ 10 5, dgR b 5].length) → (k : i < [(1 : Int), q].length) → clsM 4294967296 (playM 2 [dgQ 10 5, dgR b 5] i) [dgQ 10 5, dgR b 5][i] = [(1 : Int), q][i] := fun i h k => by
  match i, h with
  | 0, _ => show clsM _ [] (dgQ 10 5) = 1; rw [clsM_Q _ _ (by decide), hasS_nil]; rfl
  | 1, _ => show clsM _ (entM 2 [] (dgQ 10 5)) (dgR b 5) = q; rw [clsM_R _ _ (by decide), entM_Q _ _ (by decide), askS_nil, findS, if_pos rfl]; simp only [eS_d, eS_a]; rw [← hq]; simp
set_option maxRecDepth 20000 in
theorem ex5 : ∀ i, (h : i < [dgQ 10 5, dgQ 1 6, dgQ 2 7, dgR 20 5, dgR 20 6].length) → (k : i < [(1 : Int), 1, 1, 7, 4].length) → clsM 4294967296 (playM 2 [dgQ 10 5, dgQ 1 6, dgQ 2 7, dgR 20 5, dgR 20 6] i) [dgQ 10 5, dgQ 1 6, dgQ 2 7, dgR 20 5, dgR 20 6][i] = [(1 : Int), 1, 1, 7, 4][i] := fun i h k => by
  have e1 : entM 2 [] (dgQ 10 5) = [eS 5 10 false] := by rw [entM_Q _ _ (by decide), askS_nil]
  have e2 : entM 2 [eS 5 10 false] (dgQ 1 6) = [eS 5 10 false, eS 6 1 false] := by rw [entM_Q _ _ (by decide), askS, strikeS, if_neg (show ¬ (5 : Int) = 6 by decide), strikeS_nil]; rfl
  have e3 : entM 2 [eS 5 10 false, eS 6 1 false] (dgQ 2 7) = [eS 6 1 false, eS 7 2 false] := by rw [entM_Q _ _ (by decide), askS, strikeS, if_neg (show ¬ (5 : Int) = 7 by decide), strikeS, if_neg (show ¬ (6 : Int) = 7 by decide), strikeS_nil]; rfl
  have e4 : entM 2 [eS 6 1 false, eS 7 2 false] (dgR 20 5) = [eS 6 1 false, eS 7 2 false] := by rw [entM_R _ _ (by decide), ansS, if_neg (by decide), ansS, if_neg (by decide), ansS_nil]
  match i, h with
  | 0, _ => show clsM _ [] (dgQ 10 5) = 1; rw [clsM_Q _ _ (by decide), hasS_nil]; rfl
  | 1, _ => show clsM _ (entM 2 [] (dgQ 10 5)) (dgQ 1 6) = 1; rw [e1, clsM_Q _ _ (by decide), hasS, hasS_nil]; rfl
  | 2, _ => show clsM _ (entM 2 (entM 2 [] (dgQ 10 5)) (dgQ 1 6)) (dgQ 2 7) = 1; rw [e1, e2, clsM_Q _ _ (by decide), hasS, hasS, hasS_nil]; rfl
  | 3, _ => show clsM _ (entM 2 (entM 2 (entM 2 [] (dgQ 10 5)) (dgQ 1 6)) (dgQ 2 7)) (dgR 20 5) = 7; rw [e1, e2, e3, clsM_R _ _ (by decide), findS, if_neg (by decide), findS, if_neg (by decide), findS_nil]
  | 4, _ => show clsM _ (entM 2 (entM 2 (entM 2 (entM 2 [] (dgQ 10 5)) (dgQ 1 6)) (dgQ 2 7)) (dgR 20 5)) (dgR 20 6) = 4; rw [e1, e2, e3, e4, clsM_R _ _ (by decide), findS, if_pos rfl]; simp only [eS_d, eS_a]; decide
end Go.Proofs.Ytcflebggepmmcaa
/- horologelaw30.works: the document's examples. -/
namespace Go.Proofs.Ytcflebggepmmcaa
open Go.RowKit

/-- a datagram's cells in a world that holds its bytes -/
def DgC (w : World) (d : Dg) (C : Array Value) : Prop := ∃ A cap, C = dgC d.at_ d.src d.dst (.slice A d.bs.length cap) ∧ ByteS w A cap d.bs
set_option maxRecDepth 20000 in
theorem DgC.mo {W w : World} {d : Dg} {C : Array Value} (h : DgC W d C) (k : Mo W w) : DgC w d C := by
  obtain ⟨A, cap, e, hb⟩ := h
  exact ⟨A, cap, e, hb.mo k⟩
set_option maxRecDepth 20000 in
theorem DgV.c {W : World} {d : Dg} {v : Value} (h : DgV W d v) (kd : DgOk d) : ∃ C, v = .agg C ∧ SzA C 39 ∧ OneA C ∧ DgC W d C := by
  obtain ⟨A, cap, rfl, hb⟩ := h
  have za := sz_wide kd.at_
  have zs := sz_ends kd.src
  have zt := sz_ends kd.dst
  have oa := one_of_fits kd.at_
  have os := one_of_fits kd.src
  have ot := one_of_fits kd.dst
  exact ⟨_, rfl, inferInstance, inferInstance, A, cap, rfl, hb⟩
set_option maxRecDepth 20000 in
theorem dgQ_c (a s : Int) (a1 : -9223372036854775808 ≤ a ∧ a ≤ 9223372036854775807) (hs : 0 ≤ s ∧ s ≤ 18446744073709551615) (W : World) :
    Calls Try.prog 23 #[.int .i64 a, .bool false, .int .u64 s] W fun e w' => ∃ C, e = .returned (.agg C) ∧ SzA C 39 ∧ OneA C ∧ DgC w' (dgQ a s) C ∧ Mo W w' := by
  refine (datagramQ_any a s a1.1 a1.2 hs W).mono ?_
  rintro e w' ⟨v, rfl, hv, M⟩
  obtain ⟨C, rfl, h1, h2, h3⟩ := hv.c (dgQ_ok (inW_i64 a1.1 a1.2))
  exact ⟨C, rfl, h1, h2, h3, M⟩
set_option maxRecDepth 20000 in
theorem dgR_c (a s : Int) (a1 : -9223372036854775808 ≤ a ∧ a ≤ 9223372036854775807) (hs : 0 ≤ s ∧ s ≤ 18446744073709551615) (W : World) :
    Calls Try.prog 23 #[.int .i64 a, .bool true, .int .u64 s] W fun e w' => ∃ C, e = .returned (.agg C) ∧ SzA C 39 ∧ OneA C ∧ DgC w' (dgR a s) C ∧ Mo W w' := by
  refine (datagramR_any a s a1.1 a1.2 hs W).mono ?_
  rintro e w' ⟨v, rfl, hv, M⟩
  obtain ⟨C, rfl, h1, h2, h3⟩ := hv.c (dgR_ok (inW_i64 a1.1 a1.2))
  exact ⟨C, rfl, h1, h2, h3, M⟩
set_option maxRecDepth 20000 in
theorem bec_any {w : World} (vs : List (Array Value)) (ds : List Dg) (ws : List Int) (g g' L : Nat) (hL : ds.length = L) (hw : ws.length = L) (hm : L ≤ 1000) (b : Blk w g 41 (rowsD vs)) (b' : Blk w g' 5 (byteL ws).toArray)
    (ok : ∀ d ∈ ds, DgOk d) (h : ∀ i, (h : i < ds.length) → ∃ C, vs[i]? = some C ∧ DgC w ds[i] C) (hl : vs.length = ds.length) (hb : ∀ c ∈ ws, 0 ≤ c ∧ c ≤ 255)
    (hc : ∀ i, (h : i < ds.length) → (k : i < ws.length) → clsM 4294967296 (playM 2 ds i) ds[i] = ws[i]) :
    Calls Try.prog 24 #[.slice (some ⟨g, 0, none⟩) L L, .slice (some ⟨g', 0, none⟩) L L] w fun e w' => e = .returned (.bool true) ∧ Mo w w' := by
  subst hL
  refine becomes_any _ _ ds.length ds.length ds.length ds ws w rfl hw hm ?_ ?_ hc
  · refine dgs_blk b ds hm (fun v hv => ?_) ok fun i hi => ?_
    · obtain ⟨i, hi, rfl⟩ := List.getElem_of_mem hv
      obtain ⟨C, e, A, cap, rfl, -⟩ := h i (by omega)
      rw [List.getElem?_eq_getElem hi] at e
      injection e with e
      rw [e]
      have kd := ok _ (List.getElem_mem (by omega : i < ds.length))
      exact dg_sz (sz_wide kd.at_) (sz_ends kd.src) (sz_ends kd.dst)
    · obtain ⟨C, e, A, cap, rfl, hb⟩ := h i hi
      exact ⟨A, cap, e, hb⟩
  · have := byteS_byteL ws b' hb (by omega)
    rwa [hw] at this
attribute [local go_sem] blk_cell' blk_frozen'
attribute [local go_sem ↓] loadF_dg storeF_dg' buildDg_fold
attribute [local go_sem] run_loadF0 run_storeF0 run_bd2 run_bd3 run_bd4
set_option maxRecDepth 20000 in
set_option maxHeartbeats 16000000 in
theorem works30_any (W : World) : Calls Try.prog 10 #[] W fun e w' => e = .returned (.bool true) ∧ Mo W w' := by
  have K5 : (0 : Int) ≤ 5 ∧ (5 : Int) ≤ 18446744073709551615 := by decide
  have D1 := Lib.hid (fun w => dgQ_c 10 5 (by decide) K5 w)
  have D2 := Lib.hid (fun w => dgR_c 4294967307 5 (by decide) K5 w)
  have D3 := Lib.hid (fun w => dgR_c 20 5 (by decide) K5 w)
  have D4 := Lib.hid (fun w => dgR_c 1 0 (by decide) (by decide) w)
  clear K5
  have B1 := Lib.hid (fun (w : World) g g' C1 C3 (b : Blk w g 41 (rowsD [C1, C3, C3])) (b' : Blk w g' 5 #[.int .u8 1, .int .u8 4, .int .u8 6]) (c1 : DgC w (dgQ 10 5) C1) (c3 : DgC w (dgR 20 5) C3) =>
    bec_any [C1, C3, C3] [dgQ 10 5, dgR 20 5, dgR 20 5] [1, 4, 6] g g' 3 rfl rfl (by decide) b b' (fun d hd => by simp at hd; rcases hd with rfl | rfl; exact dgQ_ok (inW_i64 (by decide) (by decide)); exact dgR_ok (inW_i64 (by decide) (by decide)))
      (fun i h => match i, h with | 0, _ => ⟨C1, rfl, c1⟩ | 1, _ => ⟨C3, rfl, c3⟩ | 2, _ => ⟨C3, rfl, c3⟩) rfl (by decide) ex1)
  have B2 := Lib.hid (fun (w : World) g g' C1 C2 (b : Blk w g 41 (rowsD [C1, C1, C2, C2])) (b' : Blk w g' 5 #[.int .u8 1, .int .u8 2, .int .u8 5, .int .u8 6]) (c1 : DgC w (dgQ 10 5) C1) (c2 : DgC w (dgR 4294967307 5) C2) =>
    bec_any [C1, C1, C2, C2] [dgQ 10 5, dgQ 10 5, dgR 4294967307 5, dgR 4294967307 5] [1, 2, 5, 6] g g' 4 rfl rfl (by decide) b b' (fun d hd => by simp at hd; rcases hd with rfl | rfl; exact dgQ_ok (inW_i64 (by decide) (by decide)); exact dgR_ok (inW_i64 (by decide) (by decide)))
      (fun i h => match i, h with | 0, _ => ⟨C1, rfl, c1⟩ | 1, _ => ⟨C1, rfl, c1⟩ | 2, _ => ⟨C2, rfl, c2⟩ | 3, _ => ⟨C2, rfl, c2⟩) rfl (by decide) ex2)
  have B3 := Lib.hid (fun (w : World) g g' C3 C4 (b : Blk w g 41 (rowsD [C3, C4])) (b' : Blk w g' 5 #[.int .u8 7, .int .u8 3]) (c3 : DgC w (dgR 20 5) C3) (c4 : DgC w (dgR 1 0) C4) =>
    bec_any [C3, C4] [dgR 20 5, dgR 1 0] [7, 3] g g' 2 rfl rfl (by decide) b b' (fun d hd => by simp at hd; rcases hd with rfl | rfl; exact dgR_ok (inW_i64 (by decide) (by decide)); exact dgR_ok (inW_i64 (by decide) (by decide)))
      (fun i h => match i, h with | 0, _ => ⟨C3, rfl, c3⟩ | 1, _ => ⟨C4, rfl, c4⟩) rfl (by decide) ex3)
  go_enter Try.func10, Try.ntmps10
  go_wp2_with fail
  refine (D1.out _).mono ?_
  rintro e w1 ⟨C1, rfl, z1, o1, c1, M1⟩
  have N1 : Mo W w1 := Mo.trans Mor.out M1
  clear M1
  go_wp2_with fail
  refine (D2.out _).mono ?_
  rintro e w2 ⟨C2, rfl, z2, o2, c2, M2⟩
  have c1' := c1.mo (Mo.trans (Mor.out : Mo w1 _) M2)
  have N2 : Mo W w2 := N1.trans (Mo.trans (Mor.out : Mo w1 _) M2)
  clear M2 c1 N1
  go_upto_region 2 with (fail)
  refine wp_name ?_
  intro w3 hw3
  have b1 : Blk w3 w2.heap.size 41 C1 := by rw [hw3]; infer_instance
  have b2 : Blk w3 (w2.heap.size + 1) 41 C2 := by rw [hw3]; infer_instance
  have c13 : DgC w3 (dgQ 10 5) C1 := by rw [hw3]; exact c1'.mo Mor.out
  have c23 : DgC w3 (dgR 4294967307 5) C2 := by rw [hw3]; exact c2.mo Mor.out
  have N3 : Mo W w3 := by rw [hw3]; exact N2.trans Mor.out
  clear hw3 c1' c2 N2
  go_wp2_with fail
  refine (D3.out _).mono ?_
  rintro e w4 ⟨C3, rfl, z3, o3, c3, M4⟩
  have b14 := M4.blk b1
  have b24 := M4.blk b2
  have c14 := c13.mo M4
  have c24 := c23.mo M4
  have N4 := N3.trans M4
  clear b1 b2 c13 c23 N3 M4
  go_upto_region 3 with (fail)
  refine wp_name ?_
  intro w5 hw5
  have b15 : Blk w5 w2.heap.size 41 C1 := by rw [hw5]; infer_instance
  have b25 : Blk w5 (w2.heap.size + 1) 41 C2 := by rw [hw5]; infer_instance
  have b35 : Blk w5 w4.heap.size 41 C3 := by rw [hw5]; infer_instance
  have c15 : DgC w5 (dgQ 10 5) C1 := by rw [hw5]; exact c14.mo Mor.out
  have c25 : DgC w5 (dgR 4294967307 5) C2 := by rw [hw5]; exact c24.mo Mor.out
  have c35 : DgC w5 (dgR 20 5) C3 := by rw [hw5]; exact c3.mo Mor.out
  have N5 : Mo W w5 := by rw [hw5]; exact N4.trans Mor.out
  clear hw5 b14 b24 c14 c24 c3 N4
  --@@ cut
  go_cut [0] (fun s0 wx => s0 = .bool true ∧ Mo w5 wx)
  case first =>
    go_region_held3 (fun w' => MoC w5 w') (exact ⟨Mor.out⟩)
      (first
        | ((with_reducible refine (B1.out _ _ _ C1 C3 inferInstance inferInstance (c15.mo Mor.out) (c35.mo Mor.out)).mono ?_)
           rintro e w9 ⟨rfl, M9⟩
           have iM9 : MoC _ w9 := ⟨M9⟩
           have iR9 : Mor w5 w9 := ⟨(Mor.out : Mo w5 _).trans M9⟩)
        | ((with_reducible refine (B2.out _ _ _ C1 C2 inferInstance inferInstance (c15.mo Mor.out) (c25.mo Mor.out)).mono ?_)
           rintro e w9 ⟨rfl, M9⟩
           have iM9 : MoC _ w9 := ⟨M9⟩
           have iR9 : Mor w5 w9 := ⟨(Mor.out : Mo w5 _).trans M9⟩)
        | ((with_reducible refine (D4.out _).mono ?_)
           rintro e w9 ⟨C4, rfl, z4, o4, c4, M9⟩
           have iM9 : MoC _ w9 := ⟨M9⟩
           have iR9 : Mor w5 w9 := ⟨(Mor.out : Mo w5 _).trans M9⟩)
        | ((with_reducible refine (B3.out _ _ _ C3 C4 inferInstance inferInstance (c35.mo Mor.out) (c4.mo Mor.out)).mono ?_)
           rintro e w9 ⟨rfl, M9⟩
           have iM9 : MoC _ w9 := ⟨M9⟩
           have iR9 : Mor w5 w9 := ⟨(Mor.out : Mo w5 _).trans M9⟩))
    --@@ held
    all_goals (
      go_wp2_with fail
      go_meet
      exact ⟨rfl, Mor.out⟩)
  --@@ rest
  obtain ⟨rfl, M6⟩ := hcut
  go_wp2_with fail
  go_ret
  exact ⟨rfl, (N5.trans M6).trans Mor.out⟩
end Go.Proofs.Ytcflebggepmmcaa
/- match: a missing matcher; Len; Run of what is refused. -/
namespace Go.Proofs.Ytcflebggepmmcaa
open Go.RowKit

set_option maxRecDepth 20000 in
instance row_cnt : RowT 29 9 := ⟨by kernel_rfl, by kernel_rfl⟩
abbrev cn0 : Array Value := #[.int .i64 0, .int .i64 0, .int .i64 0, .int .i64 0, .int .i64 0, .int .i64 0, .int .i64 0, .int .i64 0, .int .i64 0]
set_option maxRecDepth 20000 in
theorem buildF_cnt (l : Array (Nat × Value)) : Instr.build 29 l = buildF 29 l := rfl
set_option maxRecDepth 20000 in
theorem run_build_cn0 (w : World) : (buildF 29 #[]).run Try.prog w = .ok (.agg cn0) w := run_build w _ _ _ (by kernel_rfl)
attribute [local go_sem] blk_cell' blk_frozen'
attribute [local go_sem ↓] loadF_cnt storeF_cnt buildF_cnt loadF_samp storeF_samp buildF_samp loadF_dg
attribute [local go_sem] run_loadF0 run_storeF0 run_build_cn0 run_build_samp0
set_option maxRecDepth 20000 in
theorem mlen_nil (W : World) : Calls Try.prog 15 #[nilp] W fun e w' => e = .returned (.int .i64 0) ∧ Mo W w' := by
  go_enter Try.func15, Try.ntmps15
  go_wp2_with fail
  go_ret
  exact ⟨rfl, Mor.out⟩
set_option maxRecDepth 20000 in
theorem mlen_any (M T B : Nat) (room win : Int) (c : Nat → Int) (E : List En) (P : Nat → Prop) (W : World) (h : MatV W M T B room win c E P) :
    Calls Try.prog 15 #[ptr M] W fun e w' => e = .returned (.int .i64 E.length) ∧ Mo W w' := by
  have LN := Lib.hid (fun w (m : Mo W w) => len_e T B room E P w (h.t.mo m))
  have hm := h.m
  clear h
  go_enter Try.func15, Try.ntmps15
  go_wp2_with fail
  refine (LN.out _ Mor.out).mono ?_
  rintro e w1 ⟨rfl, M1⟩
  go_wp2_with fail
  go_ret
  exact ⟨rfl, Mo.trans (Mo.trans Mor.out M1) Mor.out⟩
set_option maxRecDepth 20000 in
theorem mcopy_nil (W : World) : Calls Try.prog 22 #[nilp] W fun e w' => e = .returned nilp ∧ Mo W w' := by
  go_enter Try.func22, Try.ntmps22
  go_wp2_with fail
  go_ret
  exact ⟨rfl, Mor.out⟩
set_option maxRecDepth 20000 in
theorem mcounts_nil (W : World) : Calls Try.prog 17 #[nilp] W fun e w' => e = .returned (.agg cn0) ∧ Mo W w' := by
  go_enter Try.func17, Try.ntmps17
  go_wp2_with fail
  refine ret_c1 rfl W.heap.size cn0 rfl rfl (z := ⟨rfl⟩) ?_ ⟨rfl, ?_⟩
  · first | infer_instance | exact blk_setRow inferInstance
  · first | exact Mor.out | exact mo_setRow Mor.out (Nat.le_refl _) _
set_option maxRecDepth 20000 in
theorem mtake_nil (C : Array Value) (W : World) : Calls Try.prog 12 #[nilp, .agg C] W fun e w' => e = .returned (.tuple #[.int .u8 0, .agg sm0]) ∧ Mo W w' := by
  go_enter Try.func12, Try.ntmps12
  go_wp2_with fail
  exact ret_tc rfl (W.heap.size + 1) sm0 rfl rfl (z := inferInstance) inferInstance ⟨rfl, Mor.out⟩
set_option maxRecDepth 20000 in
theorem mrun_out (A : Option Addr) (n cap : Nat) (k win : Int) (h : ¬ ((1 ≤ k ∧ k ≤ 65536) ∧ 0 ≤ win ∧ win ≤ 1152921504606846976)) (W : World) :
    Calls Try.prog 18 #[.slice A n cap, .int .i64 k, .int .i64 win] W fun e w' => e = .returned (.tuple #[.slice none 0 0, .agg cn0, .int .i64 2]) ∧ Mo W w' := by
  go_enter Try.func18, Try.ntmps18
  go_wp2_with fail
  refine (mnew_out k win h _).mono ?_
  rintro e w1 ⟨rfl, M1⟩
  have b7 : Blk w1 W.heap.size 29 cn0 := M1.blk inferInstance
  have N1 : Mo W w1 := Mo.trans Mor.out M1
  go_wp2_with fail
  refine ret_tct rfl W.heap.size cn0 rfl rfl (z := ⟨rfl⟩) (blk_setRow b7) ⟨rfl, mo_setRow N1 (Nat.le_refl _) _⟩
end Go.Proofs.Ytcflebggepmmcaa
