/- horologelaw23.PacketKnown: the walk. -/
import Derived.Test.YtofbhkodnijkjaaAnswers23
namespace Go.Proofs.Ytofbhkodnijkjaa
open Go.RowKit

def h8 : Hd := ⟨0, 0, 8, 0, 0, 0, 0, 0, 0, 0, 0, 0, 0, 0, 0, 0⟩
def hq : Hd := ⟨0, 4, 3, 0, 0, 0, 0, 0, 0, 0, 0, 0, 0, 0, 0, 9⟩
def hq2 : Hd := ⟨0, 4, 4, 1, 0, 0, 0, 0, 0, 0, 0, 0, 0, 9, 11, 12⟩
abbrev enP (n : Int) : Array Value := #[.bool false, .int .u8 0, .int .u8 0, .int .u8 0, .int .u8 0, .int .u8 0, .int .u8 0, .int .u8 0, .int .u8 0, .int .u8 0, .int .u8 0, .int .u8 0, .int .u8 0, .int .u8 0, .int .u8 0, .int .u8 0, .int .u8 0, .int .u16 n]
def en1 : Array Value := enP 1
def en123 : Array Value := enP 123
def wd7 : Array Value := #[.int .i64 0, .int .u64 7]
set_option maxRecDepth 20000 in
theorem fits_wd7 : Fits (ksOf 24) wd7.toList := by
  have e : ksOf 24 = [.i .i64, .i .u64] := by kernel_rfl
  rw [e]
  exact ⟨⟨rfl, rfl⟩, ⟨rfl, rfl⟩, trivial⟩
set_option maxRecDepth 20000 in
theorem fits_en1 : Fits (ksOf 30) en1.toList := by
  have e : ksOf 30 = .b :: (List.replicate 16 (.i .u8) ++ [.i .u16]) := by kernel_rfl
  rw [e]
  exact ⟨trivial, ⟨rfl, rfl⟩, ⟨rfl, rfl⟩, ⟨rfl, rfl⟩, ⟨rfl, rfl⟩, ⟨rfl, rfl⟩, ⟨rfl, rfl⟩, ⟨rfl, rfl⟩, ⟨rfl, rfl⟩, ⟨rfl, rfl⟩, ⟨rfl, rfl⟩, ⟨rfl, rfl⟩, ⟨rfl, rfl⟩, ⟨rfl, rfl⟩, ⟨rfl, rfl⟩, ⟨rfl, rfl⟩, ⟨rfl, rfl⟩, ⟨rfl, rfl⟩, trivial⟩
set_option maxRecDepth 20000 in
theorem fits_en123 : Fits (ksOf 30) en123.toList := by
  have e : ksOf 30 = .b :: (List.replicate 16 (.i .u8) ++ [.i .u16]) := by kernel_rfl
  rw [e]
  exact ⟨trivial, ⟨rfl, rfl⟩, ⟨rfl, rfl⟩, ⟨rfl, rfl⟩, ⟨rfl, rfl⟩, ⟨rfl, rfl⟩, ⟨rfl, rfl⟩, ⟨rfl, rfl⟩, ⟨rfl, rfl⟩, ⟨rfl, rfl⟩, ⟨rfl, rfl⟩, ⟨rfl, rfl⟩, ⟨rfl, rfl⟩, ⟨rfl, rfl⟩, ⟨rfl, rfl⟩, ⟨rfl, rfl⟩, ⟨rfl, rfl⟩, ⟨rfl, rfl⟩, trivial⟩
set_option maxRecDepth 20000 in
instance : SzA wd7 2 := ⟨rfl⟩
set_option maxRecDepth 20000 in
instance : SzA en1 18 := ⟨rfl⟩
set_option maxRecDepth 20000 in
instance : SzA en123 18 := ⟨rfl⟩
set_option maxRecDepth 20000 in
instance : OneA wd7 := ⟨by kernel_rfl⟩
set_option maxRecDepth 20000 in
instance : OneA en1 := ⟨by kernel_rfl⟩
set_option maxRecDepth 20000 in
instance : OneA en123 := ⟨by kernel_rfl⟩
set_option maxRecDepth 20000 in
theorem buildF_hd (l : Array (Nat × Value)) : Instr.build 39 l = buildF 39 l := rfl
set_option maxRecDepth 20000 in
theorem buildF_wide (l : Array (Nat × Value)) : Instr.build 24 l = buildF 24 l := rfl
set_option maxRecDepth 20000 in
theorem run_build_h8 (w : World) : (buildF 39 #[(2, .int .u8 8)]).run Try.prog w = .ok (hdV h8) w := run_build w _ _ _ (by kernel_rfl)
set_option maxRecDepth 20000 in
theorem run_build_hq (w : World) : (buildF 39 #[(1, .int .u8 4), (2, .int .u8 3), (12, .int .u64 9)]).run Try.prog w = .ok (hdV hq) w := run_build w _ _ _ (by kernel_rfl)
set_option maxRecDepth 20000 in
theorem run_build_p8 (w : World) : (buildF 42 #[(0, hdV h8)]).run Try.prog w = .ok (pkV h8 (.slice none 0 0) (.slice none 0 0)) w := run_build w _ _ _ (by kernel_rfl)
set_option maxRecDepth 20000 in
theorem run_build_pq (w : World) : (buildF 42 #[(0, hdV hq)]).run Try.prog w = .ok (pkV hq (.slice none 0 0) (.slice none 0 0)) w := run_build w _ _ _ (by kernel_rfl)
set_option maxRecDepth 20000 in
theorem run_build_p5 (w : World) (A : Option Addr) (n c : Nat) : (buildF 42 #[(2, .slice A n c)]).run Try.prog w = .ok (pkV ⟨0, 0, 0, 0, 0, 0, 0, 0, 0, 0, 0, 0, 0, 0, 0, 0⟩ (.slice none 0 0) (.slice A n c)) w := run_build w _ _ _ (by kernel_rfl)
set_option maxRecDepth 20000 in
theorem run_build_wd7 (w : World) : (buildF 24 #[(1, .int .u64 7)]).run Try.prog w = .ok (.agg wd7) w := run_build w _ _ _ (by kernel_rfl)
set_option maxRecDepth 20000 in
theorem run_build_en1 (w : World) : (buildF 30 #[(1, .int .u16 1)]).run Try.prog w = .ok (.agg en1) w := run_build w _ _ _ (by kernel_rfl)
set_option maxRecDepth 20000 in
theorem run_build_en123 (w : World) : (buildF 30 #[(1, .int .u16 123)]).run Try.prog w = .ok (.agg en123) w := run_build w _ _ _ (by kernel_rfl)
set_option maxRecDepth 20000 in
theorem run_build_d7 (w : World) : (buildF 33 #[(0, .agg wd7), (1, .agg en1), (2, .agg en123)]).run Try.prog w = .ok (.agg (dgC wd7 en1 en123 (.slice none 0 0))) w := run_build w _ _ _ (by kernel_rfl)
set_option maxRecDepth 20000 in
theorem run_eql_wd7 (w : World) : (eqlF 24 (.agg wd7) (.agg wd7)).run Try.prog w = .ok (.bool true) w := run_eqlF_self fl_wide w fits_wd7
set_option maxRecDepth 20000 in
theorem run_eql_en1 (w : World) : (eqlF 30 (.agg en1) (.agg en1)).run Try.prog w = .ok (.bool true) w := run_eqlF_self fl_ends w fits_en1
set_option maxRecDepth 20000 in
theorem run_eql_en123 (w : World) : (eqlF 30 (.agg en123) (.agg en123)).run Try.prog w = .ok (.bool true) w := run_eqlF_self fl_ends w fits_en123
set_option maxRecDepth 20000 in
theorem putP_8 : putP ⟨h8, [], []⟩ = ([], 2) := by
  unfold putP
  rw [if_neg (by decide)]
set_option maxRecDepth 20000 in
theorem putM_5 : putM [] (zeros 5) = ([], 2) := by
  have h : ¬ (nextM ((encM [] ++ zeros 5).drop 0)).1 = 2 := by decide
  have h2 : (nextM ((encM [] ++ zeros 5).drop 0)).1 = 3 := by decide
  have t : takeM (encM [] ++ zeros 5) = ([], [], 8) := by
    unfold takeM
    rw [parse_nil h, endF_nil h]
    simp only [List.map_nil, List.length_nil]
    rw [if_neg (by decide), if_pos h2]
  unfold putM
  rw [t, if_neg (by decide), if_neg (by decide), if_pos (.inl (by decide))]
set_option maxRecDepth 20000 in
theorem putP_5 : putP ⟨hd0, [], zeros 5⟩ = ([], 2) := by
  unfold putP
  simp only
  rw [if_pos (by decide), putM_5, if_neg (by decide)]
set_option maxRecDepth 20000 in
theorem h8_ok : HdOk h8 := by constructor <;> decide
set_option maxRecDepth 20000 in
theorem hq_ok : HdOk hq := by constructor <;> decide
set_option maxRecDepth 20000 in
theorem ansD_0 : ansD (dgZ []) hd0 1 2 = (⟨wd0, en0, en0, []⟩, 2) := if_neg (fun h => absurd h.1 (by decide))
set_option maxRecDepth 20000 in
theorem ansD_7 : ansD ⟨wd7, en1, en123, []⟩ hq 11 12 = (⟨wd7, en123, en1, hdB hq2⟩, 0) := if_pos ⟨rfl, rfl⟩
set_option maxRecDepth 20000 in
theorem class_7 : classP (hdB hq2) = (⟨hq2, [], []⟩, 4) := by
  have := ans_class hq_ok rfl rfl (recv := 11) (xmit := 12) (by decide) (by decide)
  rw [if_neg (by decide)] at this
  exact this
attribute [local go_sem] blk_cell' blk_frozen' dg_at dg_src dg_dst dg_b
attribute [local go_sem ↓] loadF_pk storeAt_pk loadF_dg storeF_dg loadF_ends buildF_ends eqlF_ends loadF_w eqlF_wide buildF_hd buildF_wide buildF_pk buildF_dg
attribute [local go_sem] run_loadF0 run_storePk run_storeF0 run_loadFo run_loadFz run_build_h8 run_build_hq run_build_p8 run_build_pq run_build_p5 run_build_wd7 run_build_en1 run_build_en123 run_build_d7 run_eql_wd7 run_eql_en1 run_eql_en123 run_build_dg0 run_build_pk0
set_option maxRecDepth 20000 in
set_option maxHeartbeats 16000000 in
theorem known23_any (W : World) : Calls Try.prog 7 #[] W fun e w' => e = .returned (.bool true) ∧ Mo W w' := by
  have WK := Lib.hid works23_any
  have m5 : ∀ w : World, (Instr.makeSlice 31 (.int .i64 5) (.int .i64 5)).run Try.prog w = .ok (.slice (some ⟨w.heap.size, 0, none⟩) 5 5) (w.alloc (.cells (byteL (zeros 5)).toArray 5)) := make_byteN 5 (by omega)
  go_enter Try.func7, Try.ntmps7
  go_wp2_with fail
  refine (pput_any ⟨h8, [], []⟩ _ _ ⟨none, 0, none, 0, rfl, extS_none _, byteS_none _⟩ h8_ok (fun _ => by decide)).mono ?_
  rw [putP_8]
  rintro e w1 ⟨v1, rfl, ⟨A1, c1, rfl, -⟩, M1⟩
  have M1' := (Mor.out : Mo W _).trans M1
  clear M1
  simp only [List.length_nil]
  go_wp2_with fail
  refine (pput_any ⟨hd0, [], zeros 5⟩ _ _ ⟨none, 0, some ⟨w1.heap.size, 0, none⟩, 5, rfl, extS_none _, byteS_byteL (zeros 5) inferInstance (zeros_byte _) (by decide)⟩ hd0_ok (fun _ => by decide)).mono ?_
  rw [putP_5]
  rintro e w2 ⟨v2, rfl, ⟨A2, c2, rfl, -⟩, M2⟩
  have M2' := M1'.trans ((Mor.out : Mo w1 _).trans M2)
  clear M2 M1' m5
  simp only [List.length_nil]
  go_wp2_with fail
  refine (answer_any (dgZ []) pk0 _ _ 1 2 _ ⟨none, 0, rfl, byteS_none _⟩ (dgZ_ok _) (pkv0 _) hd0_ok (by decide) (by decide)).mono ?_
  rw [show ansD (dgZ []) pk0.h 1 2 = _ from ansD_0]
  rintro e w3 ⟨v3, rfl, ⟨A3, c3, rfl, -⟩, M3⟩
  have M3' := M2'.trans ((Mor.out : Mo w2 _).trans M3)
  clear M3 M2'
  simp only [List.length_nil]
  go_upto_region 6 with (fail)
  refine wp_name ?_
  intro w4 hw4
  have D4 : Blk w4 (w3.heap.size + 1) 33 (dgC wd7 en1 en123 (.slice none 0 0)) := by rw [hw4]; infer_instance
  have P4 : Blk w4 (w3.heap.size + 2) 42 (pkL hq (.slice none 0 0) (.slice none 0 0)).toArray := by rw [hw4]; infer_instance
  have M4' : Mo W w4 := by rw [hw4]; exact M3'.trans Mor.out
  clear hw4 M3'
  go_wp2_with fail
  refine (answer_any ⟨wd7, en1, en123, []⟩ ⟨hq, [], []⟩ _ _ 11 12 _ ⟨none, 0, rfl, byteS_none _⟩ ⟨fits_wd7, fits_en1, fits_en123⟩ ⟨none, 0, none, 0, rfl, extS_none _, byteS_none _⟩ hq_ok (by decide) (by decide)).mono ?_
  rw [show ansD ⟨wd7, en1, en123, []⟩ (Pk.mk hq [] []).h 11 12 = _ from ansD_7]
  rintro e w5 ⟨v5, rfl, ⟨A5, c5, rfl, hb5⟩, M5⟩
  have N5 := (Mor.out : Mo w4 _).trans M5
  simp only at hb5 ⊢
  have LB := hdB_len hq2
  have CL := Lib.hid (fun w v (hv : DgV w ⟨wd7, en123, en1, hdB hq2⟩ v) => class_any _ v w hv ⟨fits_wd7, fits_en123, fits_en1⟩)
  rw [class_7] at CL
  generalize hdB hq2 = hb at *
  have HB : Hid (DgV w5 ⟨wd7, en123, en1, hb⟩ (.agg (dgC wd7 en123 en1 (.slice A5 48 c5)))) := Lib.hid ⟨A5, c5, by rw [LB], hb5⟩
  rw [LB]
  have D5 : Blk w5 (w3.heap.size + 1) 33 (dgC wd7 en1 en123 (.slice none 0 0)) := N5.blk D4
  have M5' := M4'.trans N5
  clear M5 N5 D4 P4 M4' hb5 LB
  go_upto_region 7 with (fail)
  refine wp_name ?_
  intro w6 hw6
  have D6 : Blk w6 (w3.heap.size + 1) 33 (dgC wd7 en1 en123 (.slice none 0 0)) := by rw [hw6]; infer_instance
  have E6 : Blk w6 w5.heap.size 33 (dgC wd7 en123 en1 (.slice A5 48 c5)) := by rw [hw6]; infer_instance
  have N6 : Mo w5 w6 := by rw [hw6]; exact Mor.out
  have M6' := M5'.trans N6
  have HB6 := Lib.hid (HB.out.mo N6)
  clear hw6 N6 D5 M5' HB
  go_wp2_with fail
  refine (CL.out _ _ (HB6.out.mo Mor.out)).mono ?_
  rintro e w7 ⟨x, rfl, X, M7⟩
  have N7 := (Mor.out : Mo w6 _).trans M7
  obtain ⟨b1, e1, b2, e2, rfl, X1, X2⟩ := X.at
  simp only [List.length_nil]
  have D7 : Blk w7 (w3.heap.size + 1) 33 (dgC wd7 en1 en123 (.slice none 0 0)) := N7.blk D6
  have E7 : Blk w7 w5.heap.size 33 (dgC wd7 en123 en1 (.slice A5 48 c5)) := N7.blk E6
  have M7' := M6'.trans N7
  clear M7 N7 D6 E6 M6' HB6 CL X X1 X2
  go_upto_region 8 with (fail)
  refine wp_name ?_
  intro w8 hw8
  have D8 : Blk w8 (w3.heap.size + 1) 33 (dgC wd7 en1 en123 (.slice none 0 0)) := by rw [hw8]; infer_instance
  have E8 : Blk w8 w5.heap.size 33 (dgC wd7 en123 en1 (.slice A5 48 c5)) := by rw [hw8]; infer_instance
  have P8 : Blk w8 w7.heap.size 42 (pkL hq2 (.slice b1 0 e1) (.slice b2 0 e2)).toArray := by rw [hw8]; infer_instance
  have M8' : Mo W w8 := by rw [hw8]; exact M7'.trans Mor.out
  clear hw8 M7' D7 E7
  go_wp2_with fail
  refine (WK.out _).mono ?_
  rintro e w9 ⟨rfl, M9⟩
  have N9 := (Mor.out : Mo w8 _).trans M9
  have D9 : Blk w9 (w3.heap.size + 1) 33 (dgC wd7 en1 en123 (.slice none 0 0)) := N9.blk D8
  have E9 : Blk w9 w5.heap.size 33 (dgC wd7 en123 en1 (.slice A5 48 c5)) := N9.blk E8
  have P9 : Blk w9 w7.heap.size 42 (pkL hq2 (.slice b1 0 e1) (.slice b2 0 e2)).toArray := N9.blk P8
  have M9' := M8'.trans N9
  have t1 : (hq2.o == 9) = true := rfl
  have t2 : (hq2.r == 11) = true := rfl
  have t3 : (hq2.x == 12) = true := rfl
  have t4 : (hq2.s == 1) = true := rfl
  clear N9 M9 M8' D8 E8 P8
  go_wp2_with fail
  go_ret
  exact ⟨rfl, M9'.trans Mor.out⟩
end Go.Proofs.Ytofbhkodnijkjaa
