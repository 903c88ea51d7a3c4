/- horologelaw30.MatchKnown returns true: the walk. -/
import Derived.Test.YtcflebggepmmcaaMatX
import Derived.Test.YtcflebggepmmcaaRegF
namespace Go.Proofs.Ytcflebggepmmcaa
open Go.RowKit

set_option maxRecDepth 20000 in
theorem fits_sm0 : Fits (ksOf 45) sm0.toList := by
  have e1 : ksOf 38 = .b :: (List.replicate 16 (.i .u8) ++ [.i .u16]) := by kernel_rfl
  have e : ksOf 45 = (ksOf 38 ++ ksOf 38) ++ [.i .i64, .i .u64, .i .i64, .i .u64, .i .i64, .i .u64, .i .i64, .i .u64, .i .i64, .i .i64, .i .i64, .i .u8] := by rw [e1]; kernel_rfl
  rw [e]
  unfold sm0 smC
  rw [Array.toList_append, Array.toList_append]
  refine fits_append (fits_append fits_en0 fits_en0) ?_
  exact ⟨⟨rfl, rfl⟩, ⟨rfl, rfl⟩, ⟨rfl, rfl⟩, ⟨rfl, rfl⟩, ⟨rfl, rfl⟩, ⟨rfl, rfl⟩, ⟨rfl, rfl⟩, ⟨rfl, rfl⟩, ⟨rfl, rfl⟩, ⟨rfl, rfl⟩, ⟨rfl, rfl⟩, ⟨rfl, rfl⟩, trivial⟩
set_option maxRecDepth 20000 in
theorem fits_cn0 : Fits (ksOf 29) cn0.toList := by
  have e : ksOf 29 = [.i .i64, .i .i64, .i .i64, .i .i64, .i .i64, .i .i64, .i .i64, .i .i64, .i .i64] := by kernel_rfl
  rw [e]
  exact ⟨⟨rfl, rfl⟩, ⟨rfl, rfl⟩, ⟨rfl, rfl⟩, ⟨rfl, rfl⟩, ⟨rfl, rfl⟩, ⟨rfl, rfl⟩, ⟨rfl, rfl⟩, ⟨rfl, rfl⟩, ⟨rfl, rfl⟩, trivial⟩
set_option maxRecDepth 20000 in
theorem eqlF_samp (x y : Value) : binOp .eql 45 x y = eqlF 45 x y := rfl
set_option maxRecDepth 20000 in
theorem eqlF_cnt (x y : Value) : binOp .eql 29 x y = eqlF 29 x y := rfl
set_option maxRecDepth 20000 in
theorem run_eql_sm0 (w : World) : (eqlF 45 (.agg sm0) (.agg sm0)).run Try.prog w = .ok (.bool true) w := run_eqlF_self fl_samp w fits_sm0
set_option maxRecDepth 20000 in
theorem run_eql_cn0 (w : World) : (eqlF 29 (.agg cn0) (.agg cn0)).run Try.prog w = .ok (.bool true) w := run_eqlF_self fl_cnt w fits_cn0
/-- what each operation of MatchKnown's second region yields -/
def FL11 (M : Nat) (C0 : Array Value) : List (Value → World → Prop) := [
  fun v _ => v = .bool true,
  fun v _ => v = .bool true,
  fun v _ => v = .int .i64 2,
  fun v _ => v = .bool true,
  fun v _ => v = .bool true,
  fun v _ => v = .bool true,
  fun v _ => v = .int .i64 2,
  fun v _ => v = .bool true,
  fun v _ => v = .bool true,
  fun v _ => v = .bool true,
  fun v _ => v = .int .i64 2,
  fun v _ => v = .bool true,
  fun v _ => v = .bool true,
  fun v _ => v = .bool true,
  fun v _ => v = .int .i64 2,
  fun v _ => v = .bool true,
  fun v _ => v = .bool true,
  fun v _ => v = .bool true,
  fun v _ => v = .int .i64 0,
  fun v _ => v = .bool true,
  fun v _ => v = .bool true,
  fun v _ => v = .bool true,
  fun v _ => v = .pointer (some ⟨M, 0, none⟩),
  fun v _ => v = .int .i64 0,
  fun v _ => v = .bool true,
  fun v _ => v = .bool true,
  fun v _ => v = .bool true,
  fun v _ => v = .int .i64 2,
  fun v _ => v = .bool true,
  fun v _ => v = .bool true,
  fun v _ => v = .bool true,
  fun v _ => v = .int .u8 0,
  fun v _ => v = .bool true,
  fun v _ => v = .bool true,
  fun v _ => v = .bool true,
  fun v _ => v = .agg sm0,
  fun v _ => v = .agg sm0,
  fun v _ => v = .bool true,
  fun v _ => v = .bool true,
  fun v _ => v = .bool true,
  fun v _ => v = .pointer none,
  fun v _ => v = .int .i64 0,
  fun v _ => v = .bool true,
  fun v _ => v = .bool true,
  fun v _ => v = .bool true,
  fun v _ => v = .pointer none,
  fun v _ => v = .pointer none,
  fun v _ => v = .bool true,
  fun v _ => v = .bool true,
  fun v _ => v = .bool true,
  fun v _ => v = .pointer none,
  fun v _ => v = .agg cn0,
  fun v _ => v = .agg cn0,
  fun v _ => v = .bool true,
  fun v _ => v = .bool true,
  fun v _ => v = .bool true,
  fun v _ => v = .agg C0,
  fun v w => ∃ C, v = .agg C ∧ SzA C 39 ∧ OneA C ∧ DgC w (dgQ 1 6) C,
  fun v w => ∃ C, v = .agg C ∧ SzA C 39 ∧ OneA C ∧ DgC w (dgQ 2 7) C,
  fun v w => ∃ C, v = .agg C ∧ SzA C 39 ∧ OneA C ∧ DgC w (dgR 20 5) C,
  fun v w => ∃ C, v = .agg C ∧ SzA C 39 ∧ OneA C ∧ DgC w (dgR 20 6) C,
  fun v w => ∃ g C5 C6 C7 C8, v = .slice (some ⟨g, 0, none⟩) 5 5 ∧ Blk w g 41 (rowsD [C0, C5, C6, C7, C8]) ∧ DgC w (dgQ 1 6) C5 ∧ DgC w (dgQ 2 7) C6 ∧ DgC w (dgR 20 5) C7 ∧ DgC w (dgR 20 6) C8,
  fun v w => ∃ g, v = .slice (some ⟨g, 0, none⟩) 5 5 ∧ Blk w g 5 #[.int .u8 1, .int .u8 1, .int .u8 1, .int .u8 7, .int .u8 4],
  fun v _ => v = .bool true,
  fun v _ => v = .bool true,
  fun v _ => v = .bool true,
  fun v _ => v = .bool true,
  fun v _ => v = .bool true,
  fun v _ => v = .bool true]
def F11 (M : Nat) (C0 : Array Value) (k : Nat) (v : Value) (w : World) : Prop := (FL11 M C0).getD k (fun _ _ => True) v w
def deps11 : List (List Nat) := [[], [0], [1], [1, 2], [1, 3], [4], [5], [5, 6], [5, 7], [8], [9], [9, 10], [9, 11], [12], [13], [13, 14], [13, 15], [16], [17], [17, 18], [17, 19], [20], [21], [21, 22], [21, 23], [21, 24], [25], [26], [26, 27], [26, 28], [29], [30], [30, 31], [30, 32], [33], [34], [34], [34, 35, 36], [34, 37], [38], [39], [39, 40], [39, 41], [39, 42], [43], [44], [44, 45], [44, 46], [44, 47], [48], [49], [49, 50], [49], [49, 51, 52], [49, 53], [54], [55], [55], [55], [55], [55], [55, 56, 57, 58, 59, 60], [55], [55, 61, 62], [55, 63], [64], [65], [65, 66], [67]]
set_option maxRecDepth 20000 in
theorem FL11_mono (M : Nat) (C0 : Array Value) : ∀ f ∈ FL11 M C0, ∀ v w w', f v w → Mo w w' → f v w' := by
  intro f hf v w w' h m
  simp only [FL11, List.mem_cons, List.not_mem_nil, or_false] at hf
  rcases hf with rfl | rfl | rfl | rfl | rfl | rfl | rfl | rfl | rfl | rfl | rfl | rfl | rfl | rfl | rfl | rfl | rfl | rfl | rfl | rfl | rfl | rfl | rfl | rfl | rfl | rfl | rfl | rfl | rfl | rfl | rfl | rfl | rfl | rfl | rfl | rfl | rfl | rfl | rfl | rfl | rfl | rfl | rfl | rfl | rfl | rfl | rfl | rfl | rfl | rfl | rfl | rfl | rfl | rfl | rfl | rfl | rfl | rfl | rfl | rfl | rfl | rfl | rfl | rfl | rfl | rfl | rfl | rfl | rfl
  all_goals first
    | exact h
    | (obtain ⟨C, h1, h2, h3, h4⟩ := h; exact ⟨C, h1, h2, h3, h4.mo m⟩)
    | (obtain ⟨g, C5, C6, C7, C8, h1, h2, h3, h4, h5, h6⟩ := h; exact ⟨g, C5, C6, C7, C8, h1, m.blk h2, h3.mo m, h4.mo m, h5.mo m, h6.mo m⟩)
    | (obtain ⟨g, h1, h2⟩ := h; exact ⟨g, h1, m.blk h2⟩)
set_option maxRecDepth 20000 in
theorem F11_mono (M : Nat) (C0 : Array Value) (k : Nat) (v : Value) (w w' : World) (h : F11 M C0 k v w) (m : Mo w w') : F11 M C0 k v w' := by
  unfold F11 at h ⊢
  rw [List.getD_eq_getElem?_getD] at h ⊢
  cases e : (FL11 M C0)[k]? with
  | none => trivial
  | some f => rw [e] at h; exact FL11_mono M C0 f (List.mem_of_getElem? e) v w w' h m
section
variable {P : Program} {ops : Array Oper} {Q : Exit → Act → World → Prop} {F : Nat → Value → World → Prop} {k : Nat} {o : Oper} {a : Act} {w : World}
set_option maxRecDepth 20000 in
theorem rf_dst (ho : ops[k]? = some o) : dstK ops k = o.dst := by unfold dstK; rw [ho]; rfl
set_option maxRecDepth 20000 in
theorem rf_dep {j t : Nat} (h : F j (valK ops a j) w) (e : dstK ops j = some t) : F j (a.tmps.getD t undef) w := by
  unfold valK at h
  rw [e] at h
  exact h
set_option maxRecDepth 20000 in
theorem rf_w0 {y : Nat → Option Bool} (hg : o.guard = none) : Region.wanted o y = true := by unfold Region.wanted; rw [hg]
set_option maxRecDepth 20000 in
theorem rf_w1 {g t : Nat} (hg : o.guard = some (g, true)) (e : dstK ops g = some t) (h : a.tmps.getD t undef = .bool true) : Region.wanted o (yielded ops a.tmps) = true := by
  unfold Region.wanted
  rw [hg]
  have : yielded ops a.tmps g = some true := by
    unfold yielded
    have e' : (ops[g]?).bind (·.dst) = some t := e
    rw [e']
    show (match a.tmps[t]? with | some (.bool b) => some b | _ => none) = some true
    rw [Array.getD_eq_getD_getElem?] at h
    cases q : a.tmps[t]? with
    | none => rw [q] at h; cases h
    | some v => rw [q] at h; have h' : v = .bool true := h; rw [h']
  simp only [this]
  rfl
set_option maxRecDepth 20000 in
theorem rf_val {v : Value} {w2 : World} (ho : ops[k]? = some o) (hw : Region.wanted o (yielded ops a.tmps) = true) (hr : (execOp a.eval o).run P w = .ok (.value v) w2) (hM : Mo w w2) (hF : F k v w2) :
    wpOp P ops Q k (fun a2 w2 => ∃ v, a2 = a.put (dstK ops k) v ∧ Mo w w2 ∧ F k v w2) a w := by
  unfold wpOp
  rw [ho]
  simp only
  rw [if_pos hw]
  refine .inl ?_
  unfold Oper.wp
  rw [hr, Oper.upon_value]
  exact ⟨v, by rw [rf_dst ho], hM, hF⟩
set_option maxRecDepth 20000 in
theorem rf_call {f : FuncId} {args : Array Value} (ho : ops[k]? = some o) (hw : Region.wanted o (yielded ops a.tmps) = true) (hr : (execOp a.eval o).run P w = .ok (.enter f args) w)
    (hC : Calls P f args w fun e w' => ∃ v, e = .returned v ∧ Mo w w' ∧ F k v w') :
    wpOp P ops Q k (fun a2 w2 => ∃ v, a2 = a.put (dstK ops k) v ∧ Mo w w2 ∧ F k v w2) a w := by
  unfold wpOp
  rw [ho]
  simp only
  rw [if_pos hw]
  refine .inl ?_
  unfold Oper.wp
  rw [hr, Oper.upon_enter]
  refine hC.mono ?_
  rintro e w' ⟨v, rfl, hM, hF⟩
  exact ⟨v, by rw [rf_dst ho], hM, hF⟩
set_option maxRecDepth 20000 in
theorem rf_free {t : Nat} (h : ((List.range ops.size).all fun k => !(dstK ops k == some t)) = true) : ∀ k, dstK ops k ≠ some t := fun k e => by
  have hk : k < ops.size := by
    unfold dstK at e
    cases ho : ops[k]? with
    | none => rw [ho] at e; cases e
    | some _ => exact (Array.getElem?_eq_some_iff.1 ho).1
  have := (List.all_eq_true.1 h) k (List.mem_range.2 hk)
  rw [e] at this
  simp at this
end
set_option maxRecDepth 20000 in
theorem arr_eqD {a l : Array Value} (h : a.size = l.size) (k : ∀ i, i < l.size → a.getD i undef = l.getD i undef) : a = l := by
  refine Array.ext h fun i h1 h2 => ?_
  have := k i h2
  rw [Array.getD_eq_getD_getElem?, Array.getD_eq_getD_getElem?, Array.getElem?_eq_getElem h1, Array.getElem?_eq_getElem h2] at this
  exact this
set_option maxRecDepth 20000 in
theorem act_eqD {a : Act} {l : Array Value} (h1 : a.defers = []) (h2 : a.tmps = l) : a = { tmps := l, defers := [] } := by
  obtain ⟨t, d⟩ := a
  simp only at h1 h2
  rw [h1, h2]
attribute [local go_sem] blk_cell' blk_frozen'
attribute [local go_sem ↓] loadF_dg storeF_dg' loadF_cnt storeF_cnt loadF_samp storeF_samp buildDg_fold buildF_cnt buildF_samp eqlF_samp eqlF_cnt
attribute [local go_sem] run_loadF0 run_storeF0 run_bd2 run_bd5 run_build_cn0 run_build_samp0 run_eql_sm0 run_eql_cn0
set_option maxRecDepth 20000 in
set_option maxHeartbeats 16000000 in
theorem known30_any (W : World) : Calls Try.prog 7 #[] W fun e w' => e = .returned (.bool true) ∧ Mo W w' := by
  have K5 : (0 : Int) ≤ 5 ∧ (5 : Int) ≤ 18446744073709551615 := by decide
  have D1 := Lib.hid (fun w => dgQ_c 10 5 (by decide) K5 w)
  have N1 := Lib.hid (fun w => mnew_out 0 1 (by omega) w)
  have N2 := Lib.hid (fun w => mnew_out 65537 1 (by omega) w)
  have N3 := Lib.hid (fun w => mnew_out 1 (-1) (by omega) w)
  have N4 := Lib.hid (fun w => mnew_out 1 1152921504606846977 (by omega) w)
  have N5 := Lib.hid (fun w => mnew_in 65536 1152921504606846976 (by omega) (by omega) w)
  have R1 := Lib.hid (fun w => mrun_out none 0 0 1 (-1) (by omega) w)
  have T1 := Lib.hid (fun C w => mtake_nil C w)
  have D2 := Lib.hid (fun w => dgR_c 4294967306 5 (by decide) (by decide) w)
  have D3 := Lib.hid (fun w => dgR_c 9 5 (by decide) (by decide) w)
  have D4 := Lib.hid (fun w => dgR_c 10 5 (by decide) (by decide) w)
  have D5 := Lib.hid (fun w => dgQ_c 1 6 (by decide) (by decide) w)
  have D6 := Lib.hid (fun w => dgQ_c 2 7 (by decide) (by decide) w)
  have D7 := Lib.hid (fun w => dgR_c 20 5 (by decide) (by decide) w)
  have D8 := Lib.hid (fun w => dgR_c 20 6 (by decide) (by decide) w)
  have B1 := Lib.hid (fun (w : World) g g' C1 (c1 : DgC w (dgQ 10 5) C1) C2 (c2 : DgC w (dgR 4294967306 5) C2) (b : Blk w g 41 (rowsD [C1, C2])) (b' : Blk w g' 5 #[.int .u8 1, .int .u8 4]) =>
    bec_any [C1, C2] [dgQ 10 5, dgR 4294967306 5] [1, 4] g g' 2 rfl rfl (by decide) b b' (fun d hd => by simp at hd; rcases hd with rfl | rfl; exact dgQ_ok (inW_i64 (by decide) (by decide)); exact dgR_ok (inW_i64 (by decide) (by decide)))
      (fun i h => match i, h with | 0, _ => ⟨C1, rfl, c1⟩ | 1, _ => ⟨C2, rfl, c2⟩) rfl (by decide) (ex4 4294967306 4 (by decide)))
  have B2 := Lib.hid (fun (w : World) g g' C1 (c1 : DgC w (dgQ 10 5) C1) C2 (c2 : DgC w (dgR 9 5) C2) (b : Blk w g 41 (rowsD [C1, C2])) (b' : Blk w g' 5 #[.int .u8 1, .int .u8 5]) =>
    bec_any [C1, C2] [dgQ 10 5, dgR 9 5] [1, 5] g g' 2 rfl rfl (by decide) b b' (fun d hd => by simp at hd; rcases hd with rfl | rfl; exact dgQ_ok (inW_i64 (by decide) (by decide)); exact dgR_ok (inW_i64 (by decide) (by decide)))
      (fun i h => match i, h with | 0, _ => ⟨C1, rfl, c1⟩ | 1, _ => ⟨C2, rfl, c2⟩) rfl (by decide) (ex4 9 5 (by decide)))
  have B3 := Lib.hid (fun (w : World) g g' C1 (c1 : DgC w (dgQ 10 5) C1) C2 (c2 : DgC w (dgR 10 5) C2) (b : Blk w g 41 (rowsD [C1, C2])) (b' : Blk w g' 5 #[.int .u8 1, .int .u8 4]) =>
    bec_any [C1, C2] [dgQ 10 5, dgR 10 5] [1, 4] g g' 2 rfl rfl (by decide) b b' (fun d hd => by simp at hd; rcases hd with rfl | rfl; exact dgQ_ok (inW_i64 (by decide) (by decide)); exact dgR_ok (inW_i64 (by decide) (by decide)))
      (fun i h => match i, h with | 0, _ => ⟨C1, rfl, c1⟩ | 1, _ => ⟨C2, rfl, c2⟩) rfl (by decide) (ex4 10 4 (by decide)))
  have B5 := Lib.hid (fun (w : World) g g' C1 (c1 : DgC w (dgQ 10 5) C1) C2 (c2 : DgC w (dgQ 1 6) C2) C3 (c3 : DgC w (dgQ 2 7) C3) C4 (c4 : DgC w (dgR 20 5) C4) C5 (c5 : DgC w (dgR 20 6) C5) (b : Blk w g 41 (rowsD [C1, C2, C3, C4, C5])) (b' : Blk w g' 5 #[.int .u8 1, .int .u8 1, .int .u8 1, .int .u8 7, .int .u8 4]) =>
    bec_any [C1, C2, C3, C4, C5] [dgQ 10 5, dgQ 1 6, dgQ 2 7, dgR 20 5, dgR 20 6] [1, 1, 1, 7, 4] g g' 5 rfl rfl (by decide) b b' (fun d hd => by simp at hd; rcases hd with rfl | rfl | rfl | rfl | rfl; exact dgQ_ok (inW_i64 (by decide) (by decide)); exact dgQ_ok (inW_i64 (by decide) (by decide)); exact dgQ_ok (inW_i64 (by decide) (by decide)); exact dgR_ok (inW_i64 (by decide) (by decide)); exact dgR_ok (inW_i64 (by decide) (by decide)))
      (fun i h => match i, h with | 0, _ => ⟨C1, rfl, c1⟩ | 1, _ => ⟨C2, rfl, c2⟩ | 2, _ => ⟨C3, rfl, c3⟩ | 3, _ => ⟨C4, rfl, c4⟩ | 4, _ => ⟨C5, rfl, c5⟩) rfl (by decide) ex5)
  have L0 := Lib.hid (fun w => mlen_nil w)
  have P0 := Lib.hid (fun w => mcopy_nil w)
  have Q0 := Lib.hid (fun w => mcounts_nil w)
  have WK := Lib.hid (fun w => works30_any w)
  clear K5
  go_enter Try.func7, Try.ntmps7
  go_wp2_with fail
  refine (D1.out _).mono ?_
  rintro e w1 ⟨C0, rfl, z0, o0, c0, m1⟩
  have M1 : Mo W w1 := Mo.trans Mor.out m1
  clear m1
  go_upto_region 2 with (fail)
  refine wp_name ?_
  intro w2 hw2
  have b2 : Blk w2 w1.heap.size 41 C0 := by rw [hw2]; infer_instance
  have c2 : DgC w2 (dgQ 10 5) C0 := by rw [hw2]; exact c0.mo Mor.out
  have M2 : Mo W w2 := by rw [hw2]; exact M1.trans Mor.out
  clear hw2 c0 M1
  obtain ⟨b1, hb1⟩ : ∃ b, w1.heap.size = b := ⟨_, rfl⟩
  rw [hb1] at b2 ⊢
  clear hb1
  go_wp2_with fail
  refine (N1.out _).mono ?_
  rintro e w3 ⟨rfl, m3⟩
  have B3 : Mo w2 w3 := m3
  clear m3
  go_wp2_with fail
  refine (N2.out _).mono ?_
  rintro e w4 ⟨rfl, m4⟩
  have B4 := B3.trans (Mo.trans (Mor.out : Mo w3 _) m4)
  clear m4 B3
  go_wp2_with fail
  refine (N3.out _).mono ?_
  rintro e w5 ⟨rfl, m5⟩
  have B5 := B4.trans (Mo.trans (Mor.out : Mo w4 _) m5)
  clear m5 B4
  go_wp2_with fail
  refine (N4.out _).mono ?_
  rintro e w6 ⟨rfl, m6⟩
  have B6 := B5.trans (Mo.trans (Mor.out : Mo w5 _) m6)
  clear m6 B5
  go_wp2_with fail
  refine (N5.out _).mono ?_
  rintro e w7 ⟨M, T, B, rfl, V7, -, m7⟩
  have B7 := B6.trans (Mo.trans (Mor.out : Mo w6 _) m7)
  clear m7 B6
  go_wp2_with fail
  refine (R1.out _).mono ?_
  rintro e w8 ⟨rfl, m8⟩
  have E78 := Mo.trans (Mor.out : Mo w7 _) m8
  have V8 := Lib.hid (V7.mo E78)
  have B8 := B7.trans E78
  have b8 := B8.blk b2
  clear m8 B7 E78 V7
  go_wp2_with fail
  refine (T1.out C0 _).mono ?_
  rintro e w9 ⟨rfl, m9⟩
  have E89 := Mo.trans (Mor.out : Mo w8 _) m9
  have V9 := Lib.hid (V8.out.mo E89)
  have B9 := B8.trans E89
  clear m9 E89 V8 B8 b8
  go_upto_region 10 with (fail)
  refine wp_name ?_
  intro wA hwA
  have bA : Blk wA b1 41 C0 := by rw [hwA]; exact (B9.trans Mor.out).blk b2
  have cA : DgC wA (dgQ 10 5) C0 := by rw [hwA]; exact c2.mo (B9.trans Mor.out)
  have sA : Blk wA w9.heap.size 45 sm0 := by rw [hwA]; infer_instance
  have VA := Lib.hid (show MatV wA M T B 65536 1152921504606846976 (fun _ => 0) [] _ by rw [hwA]; exact V9.out.mo Mor.out)
  have MA : Mo W wA := by rw [hwA]; exact M2.trans (B9.trans Mor.out)
  clear hwA B9 V9 b2 c2 M2
  go_cut [18] (fun s18 wx => s18 = .bool true ∧ Mo wA wx)
  case first =>
    as_aux_lemma =>
    go_region_held3 (fun w' => MoC wA w') (exact ⟨Mor.out⟩)
      (first
        | ((with_reducible refine (D2.out _).mono ?_)
           rintro e wz ⟨C2, rfl, z2, o2, c2, M9⟩
           have iM9 : MoC _ wz := ⟨M9⟩
           have iR9 : Mor wA wz := ⟨(Mor.out : Mo wA _).trans M9⟩)
        | ((with_reducible refine (B1.out _ _ _ C0 (cA.mo Mor.out) C2 (c2.mo Mor.out) inferInstance inferInstance).mono ?_)
           rintro e wz ⟨rfl, M9⟩
           have iM9 : MoC _ wz := ⟨M9⟩
           have iR9 : Mor wA wz := ⟨(Mor.out : Mo wA _).trans M9⟩)
        | ((with_reducible refine (D3.out _).mono ?_)
           rintro e wz ⟨C3, rfl, z3, o3, c3, M9⟩
           have iM9 : MoC _ wz := ⟨M9⟩
           have iR9 : Mor wA wz := ⟨(Mor.out : Mo wA _).trans M9⟩)
        | ((with_reducible refine (B2.out _ _ _ C0 (cA.mo Mor.out) C3 (c3.mo Mor.out) inferInstance inferInstance).mono ?_)
           rintro e wz ⟨rfl, M9⟩
           have iM9 : MoC _ wz := ⟨M9⟩
           have iR9 : Mor wA wz := ⟨(Mor.out : Mo wA _).trans M9⟩)
        | ((with_reducible refine (D4.out _).mono ?_)
           rintro e wz ⟨C4, rfl, z4, o4, c4, M9⟩
           have iM9 : MoC _ wz := ⟨M9⟩
           have iR9 : Mor wA wz := ⟨(Mor.out : Mo wA _).trans M9⟩)
        | ((with_reducible refine (B3.out _ _ _ C0 (cA.mo Mor.out) C4 (c4.mo Mor.out) inferInstance inferInstance).mono ?_)
           rintro e wz ⟨rfl, M9⟩
           have iM9 : MoC _ wz := ⟨M9⟩
           have iR9 : Mor wA wz := ⟨(Mor.out : Mo wA _).trans M9⟩)
)
    all_goals (
      go_wp2_with fail
      go_meet
      exact ⟨rfl, Mor.out⟩)
  obtain ⟨rfl, mB⟩ := hcut
  rename World => wB
  have bB := mB.blk bA
  have cB := cA.mo mB
  have sB := mB.blk sA
  have LM := Lib.hid (fun w (m : Mo wB w) => mlen_any M T B 65536 1152921504606846976 _ [] _ w (VA.out.mo (mB.trans m)))
  have MB := MA.trans mB
  clear bA cA sA MA D2 D3 B1 B2 B3
  go_upto_region 11 with (fail)
  go_cut [0] (fun s0 wx => s0 = .bool true ∧ Mo wB wx)
  case first =>
    rename_i K0 h0 J0 K1 hJ hK
    refine wp_region_facts (fun k => deps11.getD k []) (F11 M C0) (by kernel_rfl) (by kernel_rfl) (F11_mono M C0) ?_ ?_
    · intro k hk a' w' hs hM hb hd
      have b18 : a'.tmps.getD 18 undef = .bool true := (hb 18 (rf_free (by kernel_rfl))).trans rfl
      have b3 : a'.tmps.getD 3 undef = .int .i64 2 := (hb 3 (rf_free (by kernel_rfl))).trans rfl
      have b5 : a'.tmps.getD 5 undef = .int .i64 2 := (hb 5 (rf_free (by kernel_rfl))).trans rfl
      have b7 : a'.tmps.getD 7 undef = .int .i64 2 := (hb 7 (rf_free (by kernel_rfl))).trans rfl
      have b9 : a'.tmps.getD 9 undef = .int .i64 2 := (hb 9 (rf_free (by kernel_rfl))).trans rfl
      have b11 : a'.tmps.getD 11 undef = .int .i64 0 := (hb 11 (rf_free (by kernel_rfl))).trans rfl
      have b10 : a'.tmps.getD 10 undef = .pointer (some ⟨M, 0, none⟩) := (hb 10 (rf_free (by kernel_rfl))).trans rfl
      have b14 : a'.tmps.getD 14 undef = .int .i64 2 := (hb 14 (rf_free (by kernel_rfl))).trans rfl
      have b16 : a'.tmps.getD 16 undef = .int .u8 0 := (hb 16 (rf_free (by kernel_rfl))).trans rfl
      have b15 : a'.tmps.getD 15 undef = .pointer none := (hb 15 (rf_free (by kernel_rfl))).trans rfl
      have b17 : a'.tmps.getD 17 undef = .pointer (some ⟨w9.heap.size, 0, none⟩) := (hb 17 (rf_free (by kernel_rfl))).trans rfl
      have b1 : a'.tmps.getD 1 undef = .pointer (some ⟨b1, 0, none⟩) := (hb 1 (rf_free (by kernel_rfl))).trans rfl
      have hk' : k < 69 := hk
      clear hs hk hb
      rcases (show k = 0 ∨ k = 1 ∨ k = 2 ∨ k = 3 ∨ k = 4 ∨ k = 5 ∨ k = 6 ∨ k = 7 ∨ k = 8 ∨ k = 9 ∨ k = 10 ∨ k = 11 ∨ k = 12 ∨ k = 13 ∨ k = 14 ∨ k = 15 ∨ k = 16 ∨ k = 17 ∨ k = 18 ∨ k = 19 ∨ k = 20 ∨ k = 21 ∨ k = 22 ∨ k = 23 ∨ k = 24 ∨ k = 25 ∨ k = 26 ∨ k = 27 ∨ k = 28 ∨ k = 29 ∨ k = 30 ∨ k = 31 ∨ k = 32 ∨ k = 33 ∨ k = 34 ∨ k = 35 ∨ k = 36 ∨ k = 37 ∨ k = 38 ∨ k = 39 ∨ k = 40 ∨ k = 41 ∨ k = 42 ∨ k = 43 ∨ k = 44 ∨ k = 45 ∨ k = 46 ∨ k = 47 ∨ k = 48 ∨ k = 49 ∨ k = 50 ∨ k = 51 ∨ k = 52 ∨ k = 53 ∨ k = 54 ∨ k = 55 ∨ k = 56 ∨ k = 57 ∨ k = 58 ∨ k = 59 ∨ k = 60 ∨ k = 61 ∨ k = 62 ∨ k = 63 ∨ k = 64 ∨ k = 65 ∨ k = 66 ∨ k = 67 ∨ k = 68 by omega) with rfl | rfl | rfl | rfl | rfl | rfl | rfl | rfl | rfl | rfl | rfl | rfl | rfl | rfl | rfl | rfl | rfl | rfl | rfl | rfl | rfl | rfl | rfl | rfl | rfl | rfl | rfl | rfl | rfl | rfl | rfl | rfl | rfl | rfl | rfl | rfl | rfl | rfl | rfl | rfl | rfl | rfl | rfl | rfl | rfl | rfl | rfl | rfl | rfl | rfl | rfl | rfl | rfl | rfl | rfl | rfl | rfl | rfl | rfl | rfl | rfl | rfl | rfl | rfl | rfl | rfl | rfl | rfl | rfl
      · -- 0
        exact rf_val rfl (rf_w0 rfl) rfl (Mo.refl _) b18
      · -- 1
        have e0 : a'.tmps.getD 70 undef = .bool true := (rf_dep (hd 0 (by decide)) (by kernel_rfl) : F11 M C0 0 (a'.tmps.getD 70 undef) w')
        exact rf_val rfl (rf_w0 rfl) rfl (Mo.refl _) e0
      · -- 2
        have e1 : a'.tmps.getD 71 undef = .bool true := (rf_dep (hd 1 (by decide)) (by kernel_rfl) : F11 M C0 1 (a'.tmps.getD 71 undef) w')
        exact rf_val rfl (rf_w1 (g := 1) (t := 71) rfl (by kernel_rfl) e1) rfl (Mo.refl _) b3
      · -- 3
        have e1 : a'.tmps.getD 71 undef = .bool true := (rf_dep (hd 1 (by decide)) (by kernel_rfl) : F11 M C0 1 (a'.tmps.getD 71 undef) w')
        have e2 : a'.tmps.getD 72 undef = .int .i64 2 := (rf_dep (hd 2 (by decide)) (by kernel_rfl) : F11 M C0 2 (a'.tmps.getD 72 undef) w')
        exact rf_val (v := .bool true) rfl (rf_w1 (g := 1) (t := 71) rfl (by kernel_rfl) e1) (by simp [execOp, Act.eval, go_sem, e2]) (Mo.refl _) rfl
      · -- 4
        have e1 : a'.tmps.getD 71 undef = .bool true := (rf_dep (hd 1 (by decide)) (by kernel_rfl) : F11 M C0 1 (a'.tmps.getD 71 undef) w')
        have e3 : a'.tmps.getD 73 undef = .bool true := (rf_dep (hd 3 (by decide)) (by kernel_rfl) : F11 M C0 3 (a'.tmps.getD 73 undef) w')
        exact rf_val (v := .bool true) rfl (rf_w0 rfl) (by simp [execOp, Act.eval, go_sem, e1, e3]) (Mo.refl _) rfl
      · -- 5
        have e4 : a'.tmps.getD 74 undef = .bool true := (rf_dep (hd 4 (by decide)) (by kernel_rfl) : F11 M C0 4 (a'.tmps.getD 74 undef) w')
        exact rf_val rfl (rf_w0 rfl) rfl (Mo.refl _) e4
      · -- 6
        have e5 : a'.tmps.getD 75 undef = .bool true := (rf_dep (hd 5 (by decide)) (by kernel_rfl) : F11 M C0 5 (a'.tmps.getD 75 undef) w')
        exact rf_val rfl (rf_w1 (g := 5) (t := 75) rfl (by kernel_rfl) e5) rfl (Mo.refl _) b5
      · -- 7
        have e5 : a'.tmps.getD 75 undef = .bool true := (rf_dep (hd 5 (by decide)) (by kernel_rfl) : F11 M C0 5 (a'.tmps.getD 75 undef) w')
        have e6 : a'.tmps.getD 76 undef = .int .i64 2 := (rf_dep (hd 6 (by decide)) (by kernel_rfl) : F11 M C0 6 (a'.tmps.getD 76 undef) w')
        exact rf_val (v := .bool true) rfl (rf_w1 (g := 5) (t := 75) rfl (by kernel_rfl) e5) (by simp [execOp, Act.eval, go_sem, e6]) (Mo.refl _) rfl
      · -- 8
        have e5 : a'.tmps.getD 75 undef = .bool true := (rf_dep (hd 5 (by decide)) (by kernel_rfl) : F11 M C0 5 (a'.tmps.getD 75 undef) w')
        have e7 : a'.tmps.getD 77 undef = .bool true := (rf_dep (hd 7 (by decide)) (by kernel_rfl) : F11 M C0 7 (a'.tmps.getD 77 undef) w')
        exact rf_val (v := .bool true) rfl (rf_w0 rfl) (by simp [execOp, Act.eval, go_sem, e5, e7]) (Mo.refl _) rfl
      · -- 9
        have e8 : a'.tmps.getD 78 undef = .bool true := (rf_dep (hd 8 (by decide)) (by kernel_rfl) : F11 M C0 8 (a'.tmps.getD 78 undef) w')
        exact rf_val rfl (rf_w0 rfl) rfl (Mo.refl _) e8
      · -- 10
        have e9 : a'.tmps.getD 79 undef = .bool true := (rf_dep (hd 9 (by decide)) (by kernel_rfl) : F11 M C0 9 (a'.tmps.getD 79 undef) w')
        exact rf_val rfl (rf_w1 (g := 9) (t := 79) rfl (by kernel_rfl) e9) rfl (Mo.refl _) b7
      · -- 11
        have e9 : a'.tmps.getD 79 undef = .bool true := (rf_dep (hd 9 (by decide)) (by kernel_rfl) : F11 M C0 9 (a'.tmps.getD 79 undef) w')
        have e10 : a'.tmps.getD 80 undef = .int .i64 2 := (rf_dep (hd 10 (by decide)) (by kernel_rfl) : F11 M C0 10 (a'.tmps.getD 80 undef) w')
        exact rf_val (v := .bool true) rfl (rf_w1 (g := 9) (t := 79) rfl (by kernel_rfl) e9) (by simp [execOp, Act.eval, go_sem, e10]) (Mo.refl _) rfl
      · -- 12
        have e9 : a'.tmps.getD 79 undef = .bool true := (rf_dep (hd 9 (by decide)) (by kernel_rfl) : F11 M C0 9 (a'.tmps.getD 79 undef) w')
        have e11 : a'.tmps.getD 81 undef = .bool true := (rf_dep (hd 11 (by decide)) (by kernel_rfl) : F11 M C0 11 (a'.tmps.getD 81 undef) w')
        exact rf_val (v := .bool true) rfl (rf_w0 rfl) (by simp [execOp, Act.eval, go_sem, e9, e11]) (Mo.refl _) rfl
      · -- 13
        have e12 : a'.tmps.getD 82 undef = .bool true := (rf_dep (hd 12 (by decide)) (by kernel_rfl) : F11 M C0 12 (a'.tmps.getD 82 undef) w')
        exact rf_val rfl (rf_w0 rfl) rfl (Mo.refl _) e12
      · -- 14
        have e13 : a'.tmps.getD 83 undef = .bool true := (rf_dep (hd 13 (by decide)) (by kernel_rfl) : F11 M C0 13 (a'.tmps.getD 83 undef) w')
        exact rf_val rfl (rf_w1 (g := 13) (t := 83) rfl (by kernel_rfl) e13) rfl (Mo.refl _) b9
      · -- 15
        have e13 : a'.tmps.getD 83 undef = .bool true := (rf_dep (hd 13 (by decide)) (by kernel_rfl) : F11 M C0 13 (a'.tmps.getD 83 undef) w')
        have e14 : a'.tmps.getD 84 undef = .int .i64 2 := (rf_dep (hd 14 (by decide)) (by kernel_rfl) : F11 M C0 14 (a'.tmps.getD 84 undef) w')
        exact rf_val (v := .bool true) rfl (rf_w1 (g := 13) (t := 83) rfl (by kernel_rfl) e13) (by simp [execOp, Act.eval, go_sem, e14]) (Mo.refl _) rfl
      · -- 16
        have e13 : a'.tmps.getD 83 undef = .bool true := (rf_dep (hd 13 (by decide)) (by kernel_rfl) : F11 M C0 13 (a'.tmps.getD 83 undef) w')
        have e15 : a'.tmps.getD 85 undef = .bool true := (rf_dep (hd 15 (by decide)) (by kernel_rfl) : F11 M C0 15 (a'.tmps.getD 85 undef) w')
        exact rf_val (v := .bool true) rfl (rf_w0 rfl) (by simp [execOp, Act.eval, go_sem, e13, e15]) (Mo.refl _) rfl
      · -- 17
        have e16 : a'.tmps.getD 86 undef = .bool true := (rf_dep (hd 16 (by decide)) (by kernel_rfl) : F11 M C0 16 (a'.tmps.getD 86 undef) w')
        exact rf_val rfl (rf_w0 rfl) rfl (Mo.refl _) e16
      · -- 18
        have e17 : a'.tmps.getD 87 undef = .bool true := (rf_dep (hd 17 (by decide)) (by kernel_rfl) : F11 M C0 17 (a'.tmps.getD 87 undef) w')
        exact rf_val rfl (rf_w1 (g := 17) (t := 87) rfl (by kernel_rfl) e17) rfl (Mo.refl _) b11
      · -- 19
        have e17 : a'.tmps.getD 87 undef = .bool true := (rf_dep (hd 17 (by decide)) (by kernel_rfl) : F11 M C0 17 (a'.tmps.getD 87 undef) w')
        have e18 : a'.tmps.getD 88 undef = .int .i64 0 := (rf_dep (hd 18 (by decide)) (by kernel_rfl) : F11 M C0 18 (a'.tmps.getD 88 undef) w')
        exact rf_val (v := .bool true) rfl (rf_w1 (g := 17) (t := 87) rfl (by kernel_rfl) e17) (by simp [execOp, Act.eval, go_sem, e18]) (Mo.refl _) rfl
      · -- 20
        have e17 : a'.tmps.getD 87 undef = .bool true := (rf_dep (hd 17 (by decide)) (by kernel_rfl) : F11 M C0 17 (a'.tmps.getD 87 undef) w')
        have e19 : a'.tmps.getD 89 undef = .bool true := (rf_dep (hd 19 (by decide)) (by kernel_rfl) : F11 M C0 19 (a'.tmps.getD 89 undef) w')
        exact rf_val (v := .bool true) rfl (rf_w0 rfl) (by simp [execOp, Act.eval, go_sem, e17, e19]) (Mo.refl _) rfl
      · -- 21
        have e20 : a'.tmps.getD 90 undef = .bool true := (rf_dep (hd 20 (by decide)) (by kernel_rfl) : F11 M C0 20 (a'.tmps.getD 90 undef) w')
        exact rf_val rfl (rf_w0 rfl) rfl (Mo.refl _) e20
      · -- 22
        have e21 : a'.tmps.getD 91 undef = .bool true := (rf_dep (hd 21 (by decide)) (by kernel_rfl) : F11 M C0 21 (a'.tmps.getD 91 undef) w')
        exact rf_val rfl (rf_w1 (g := 21) (t := 91) rfl (by kernel_rfl) e21) rfl (Mo.refl _) b10
      · -- 23
        have e21 : a'.tmps.getD 91 undef = .bool true := (rf_dep (hd 21 (by decide)) (by kernel_rfl) : F11 M C0 21 (a'.tmps.getD 91 undef) w')
        have e22 : a'.tmps.getD 92 undef = .pointer (some ⟨M, 0, none⟩) := (rf_dep (hd 22 (by decide)) (by kernel_rfl) : F11 M C0 22 (a'.tmps.getD 92 undef) w')
        refine rf_call rfl (rf_w1 (g := 21) (t := 91) rfl (by kernel_rfl) e21) (by simp [execOp, Act.eval, go_sem, e22]) ((LM.out _ hM).mono ?_)
        rintro e wz ⟨rfl, M9⟩
        exact ⟨_, rfl, M9, rfl⟩
      · -- 24
        have e21 : a'.tmps.getD 91 undef = .bool true := (rf_dep (hd 21 (by decide)) (by kernel_rfl) : F11 M C0 21 (a'.tmps.getD 91 undef) w')
        have e23 : a'.tmps.getD 93 undef = .int .i64 0 := (rf_dep (hd 23 (by decide)) (by kernel_rfl) : F11 M C0 23 (a'.tmps.getD 93 undef) w')
        exact rf_val (v := .bool true) rfl (rf_w1 (g := 21) (t := 91) rfl (by kernel_rfl) e21) (by simp [execOp, Act.eval, go_sem, e23]) (Mo.refl _) rfl
      · -- 25
        have e21 : a'.tmps.getD 91 undef = .bool true := (rf_dep (hd 21 (by decide)) (by kernel_rfl) : F11 M C0 21 (a'.tmps.getD 91 undef) w')
        have e24 : a'.tmps.getD 94 undef = .bool true := (rf_dep (hd 24 (by decide)) (by kernel_rfl) : F11 M C0 24 (a'.tmps.getD 94 undef) w')
        exact rf_val (v := .bool true) rfl (rf_w0 rfl) (by simp [execOp, Act.eval, go_sem, e21, e24]) (Mo.refl _) rfl
      · -- 26
        have e25 : a'.tmps.getD 95 undef = .bool true := (rf_dep (hd 25 (by decide)) (by kernel_rfl) : F11 M C0 25 (a'.tmps.getD 95 undef) w')
        exact rf_val rfl (rf_w0 rfl) rfl (Mo.refl _) e25
      · -- 27
        have e26 : a'.tmps.getD 96 undef = .bool true := (rf_dep (hd 26 (by decide)) (by kernel_rfl) : F11 M C0 26 (a'.tmps.getD 96 undef) w')
        exact rf_val rfl (rf_w1 (g := 26) (t := 96) rfl (by kernel_rfl) e26) rfl (Mo.refl _) b14
      · -- 28
        have e26 : a'.tmps.getD 96 undef = .bool true := (rf_dep (hd 26 (by decide)) (by kernel_rfl) : F11 M C0 26 (a'.tmps.getD 96 undef) w')
        have e27 : a'.tmps.getD 97 undef = .int .i64 2 := (rf_dep (hd 27 (by decide)) (by kernel_rfl) : F11 M C0 27 (a'.tmps.getD 97 undef) w')
        exact rf_val (v := .bool true) rfl (rf_w1 (g := 26) (t := 96) rfl (by kernel_rfl) e26) (by simp [execOp, Act.eval, go_sem, e27]) (Mo.refl _) rfl
      · -- 29
        have e26 : a'.tmps.getD 96 undef = .bool true := (rf_dep (hd 26 (by decide)) (by kernel_rfl) : F11 M C0 26 (a'.tmps.getD 96 undef) w')
        have e28 : a'.tmps.getD 98 undef = .bool true := (rf_dep (hd 28 (by decide)) (by kernel_rfl) : F11 M C0 28 (a'.tmps.getD 98 undef) w')
        exact rf_val (v := .bool true) rfl (rf_w0 rfl) (by simp [execOp, Act.eval, go_sem, e26, e28]) (Mo.refl _) rfl
      · -- 30
        have e29 : a'.tmps.getD 99 undef = .bool true := (rf_dep (hd 29 (by decide)) (by kernel_rfl) : F11 M C0 29 (a'.tmps.getD 99 undef) w')
        exact rf_val rfl (rf_w0 rfl) rfl (Mo.refl _) e29
      · -- 31
        have e30 : a'.tmps.getD 100 undef = .bool true := (rf_dep (hd 30 (by decide)) (by kernel_rfl) : F11 M C0 30 (a'.tmps.getD 100 undef) w')
        exact rf_val rfl (rf_w1 (g := 30) (t := 100) rfl (by kernel_rfl) e30) rfl (Mo.refl _) b16
      · -- 32
        have e30 : a'.tmps.getD 100 undef = .bool true := (rf_dep (hd 30 (by decide)) (by kernel_rfl) : F11 M C0 30 (a'.tmps.getD 100 undef) w')
        have e31 : a'.tmps.getD 101 undef = .int .u8 0 := (rf_dep (hd 31 (by decide)) (by kernel_rfl) : F11 M C0 31 (a'.tmps.getD 101 undef) w')
        exact rf_val (v := .bool true) rfl (rf_w1 (g := 30) (t := 100) rfl (by kernel_rfl) e30) (by simp [execOp, Act.eval, go_sem, e31]) (Mo.refl _) rfl
      · -- 33
        have e30 : a'.tmps.getD 100 undef = .bool true := (rf_dep (hd 30 (by decide)) (by kernel_rfl) : F11 M C0 30 (a'.tmps.getD 100 undef) w')
        have e32 : a'.tmps.getD 102 undef = .bool true := (rf_dep (hd 32 (by decide)) (by kernel_rfl) : F11 M C0 32 (a'.tmps.getD 102 undef) w')
        exact rf_val (v := .bool true) rfl (rf_w0 rfl) (by simp [execOp, Act.eval, go_sem, e30, e32]) (Mo.refl _) rfl
      · -- 34
        have e33 : a'.tmps.getD 103 undef = .bool true := (rf_dep (hd 33 (by decide)) (by kernel_rfl) : F11 M C0 33 (a'.tmps.getD 103 undef) w')
        exact rf_val rfl (rf_w0 rfl) rfl (Mo.refl _) e33
      · -- 35
        have e34 : a'.tmps.getD 104 undef = .bool true := (rf_dep (hd 34 (by decide)) (by kernel_rfl) : F11 M C0 34 (a'.tmps.getD 104 undef) w')
        have q := hM.blk sB
        exact rf_val (v := .agg sm0) rfl (rf_w1 (g := 34) (t := 104) rfl (by kernel_rfl) e34) (by simp [execOp, Act.eval, go_sem, b17]) (Mo.refl _) rfl
      · -- 36
        have e34 : a'.tmps.getD 104 undef = .bool true := (rf_dep (hd 34 (by decide)) (by kernel_rfl) : F11 M C0 34 (a'.tmps.getD 104 undef) w')
        exact rf_val (v := .agg sm0) rfl (rf_w1 (g := 34) (t := 104) rfl (by kernel_rfl) e34) (by simp [execOp, Act.eval, go_sem]) (Mo.refl _) rfl
      · -- 37
        have e34 : a'.tmps.getD 104 undef = .bool true := (rf_dep (hd 34 (by decide)) (by kernel_rfl) : F11 M C0 34 (a'.tmps.getD 104 undef) w')
        have e35 : a'.tmps.getD 105 undef = .agg sm0 := (rf_dep (hd 35 (by decide)) (by kernel_rfl) : F11 M C0 35 (a'.tmps.getD 105 undef) w')
        have e36 : a'.tmps.getD 106 undef = .agg sm0 := (rf_dep (hd 36 (by decide)) (by kernel_rfl) : F11 M C0 36 (a'.tmps.getD 106 undef) w')
        exact rf_val (v := .bool true) rfl (rf_w1 (g := 34) (t := 104) rfl (by kernel_rfl) e34) (by simp [execOp, Act.eval, go_sem, e35, e36]) (Mo.refl _) rfl
      · -- 38
        have e34 : a'.tmps.getD 104 undef = .bool true := (rf_dep (hd 34 (by decide)) (by kernel_rfl) : F11 M C0 34 (a'.tmps.getD 104 undef) w')
        have e37 : a'.tmps.getD 107 undef = .bool true := (rf_dep (hd 37 (by decide)) (by kernel_rfl) : F11 M C0 37 (a'.tmps.getD 107 undef) w')
        exact rf_val (v := .bool true) rfl (rf_w0 rfl) (by simp [execOp, Act.eval, go_sem, e34, e37]) (Mo.refl _) rfl
      · -- 39
        have e38 : a'.tmps.getD 108 undef = .bool true := (rf_dep (hd 38 (by decide)) (by kernel_rfl) : F11 M C0 38 (a'.tmps.getD 108 undef) w')
        exact rf_val rfl (rf_w0 rfl) rfl (Mo.refl _) e38
      · -- 40
        have e39 : a'.tmps.getD 109 undef = .bool true := (rf_dep (hd 39 (by decide)) (by kernel_rfl) : F11 M C0 39 (a'.tmps.getD 109 undef) w')
        exact rf_val rfl (rf_w1 (g := 39) (t := 109) rfl (by kernel_rfl) e39) rfl (Mo.refl _) b15
      · -- 41
        have e39 : a'.tmps.getD 109 undef = .bool true := (rf_dep (hd 39 (by decide)) (by kernel_rfl) : F11 M C0 39 (a'.tmps.getD 109 undef) w')
        have e40 : a'.tmps.getD 110 undef = .pointer none := (rf_dep (hd 40 (by decide)) (by kernel_rfl) : F11 M C0 40 (a'.tmps.getD 110 undef) w')
        refine rf_call rfl (rf_w1 (g := 39) (t := 109) rfl (by kernel_rfl) e39) (by simp [execOp, Act.eval, go_sem, e40]) ((L0.out _).mono ?_)
        rintro e wz ⟨rfl, M9⟩
        exact ⟨_, rfl, M9, rfl⟩
      · -- 42
        have e39 : a'.tmps.getD 109 undef = .bool true := (rf_dep (hd 39 (by decide)) (by kernel_rfl) : F11 M C0 39 (a'.tmps.getD 109 undef) w')
        have e41 : a'.tmps.getD 111 undef = .int .i64 0 := (rf_dep (hd 41 (by decide)) (by kernel_rfl) : F11 M C0 41 (a'.tmps.getD 111 undef) w')
        exact rf_val (v := .bool true) rfl (rf_w1 (g := 39) (t := 109) rfl (by kernel_rfl) e39) (by simp [execOp, Act.eval, go_sem, e41]) (Mo.refl _) rfl
      · -- 43
        have e39 : a'.tmps.getD 109 undef = .bool true := (rf_dep (hd 39 (by decide)) (by kernel_rfl) : F11 M C0 39 (a'.tmps.getD 109 undef) w')
        have e42 : a'.tmps.getD 112 undef = .bool true := (rf_dep (hd 42 (by decide)) (by kernel_rfl) : F11 M C0 42 (a'.tmps.getD 112 undef) w')
        exact rf_val (v := .bool true) rfl (rf_w0 rfl) (by simp [execOp, Act.eval, go_sem, e39, e42]) (Mo.refl _) rfl
      · -- 44
        have e43 : a'.tmps.getD 113 undef = .bool true := (rf_dep (hd 43 (by decide)) (by kernel_rfl) : F11 M C0 43 (a'.tmps.getD 113 undef) w')
        exact rf_val rfl (rf_w0 rfl) rfl (Mo.refl _) e43
      · -- 45
        have e44 : a'.tmps.getD 114 undef = .bool true := (rf_dep (hd 44 (by decide)) (by kernel_rfl) : F11 M C0 44 (a'.tmps.getD 114 undef) w')
        exact rf_val rfl (rf_w1 (g := 44) (t := 114) rfl (by kernel_rfl) e44) rfl (Mo.refl _) b15
      · -- 46
        have e44 : a'.tmps.getD 114 undef = .bool true := (rf_dep (hd 44 (by decide)) (by kernel_rfl) : F11 M C0 44 (a'.tmps.getD 114 undef) w')
        have e45 : a'.tmps.getD 115 undef = .pointer none := (rf_dep (hd 45 (by decide)) (by kernel_rfl) : F11 M C0 45 (a'.tmps.getD 115 undef) w')
        refine rf_call rfl (rf_w1 (g := 44) (t := 114) rfl (by kernel_rfl) e44) (by simp [execOp, Act.eval, go_sem, e45]) ((P0.out _).mono ?_)
        rintro e wz ⟨rfl, M9⟩
        exact ⟨_, rfl, M9, rfl⟩
      · -- 47
        have e44 : a'.tmps.getD 114 undef = .bool true := (rf_dep (hd 44 (by decide)) (by kernel_rfl) : F11 M C0 44 (a'.tmps.getD 114 undef) w')
        have e46 : a'.tmps.getD 116 undef = .pointer none := (rf_dep (hd 46 (by decide)) (by kernel_rfl) : F11 M C0 46 (a'.tmps.getD 116 undef) w')
        exact rf_val (v := .bool true) rfl (rf_w1 (g := 44) (t := 114) rfl (by kernel_rfl) e44) (by simp [execOp, Act.eval, go_sem, e46]) (Mo.refl _) rfl
      · -- 48
        have e44 : a'.tmps.getD 114 undef = .bool true := (rf_dep (hd 44 (by decide)) (by kernel_rfl) : F11 M C0 44 (a'.tmps.getD 114 undef) w')
        have e47 : a'.tmps.getD 117 undef = .bool true := (rf_dep (hd 47 (by decide)) (by kernel_rfl) : F11 M C0 47 (a'.tmps.getD 117 undef) w')
        exact rf_val (v := .bool true) rfl (rf_w0 rfl) (by simp [execOp, Act.eval, go_sem, e44, e47]) (Mo.refl _) rfl
      · -- 49
        have e48 : a'.tmps.getD 118 undef = .bool true := (rf_dep (hd 48 (by decide)) (by kernel_rfl) : F11 M C0 48 (a'.tmps.getD 118 undef) w')
        exact rf_val rfl (rf_w0 rfl) rfl (Mo.refl _) e48
      · -- 50
        have e49 : a'.tmps.getD 119 undef = .bool true := (rf_dep (hd 49 (by decide)) (by kernel_rfl) : F11 M C0 49 (a'.tmps.getD 119 undef) w')
        exact rf_val rfl (rf_w1 (g := 49) (t := 119) rfl (by kernel_rfl) e49) rfl (Mo.refl _) b15
      · -- 51
        have e49 : a'.tmps.getD 119 undef = .bool true := (rf_dep (hd 49 (by decide)) (by kernel_rfl) : F11 M C0 49 (a'.tmps.getD 119 undef) w')
        have e50 : a'.tmps.getD 120 undef = .pointer none := (rf_dep (hd 50 (by decide)) (by kernel_rfl) : F11 M C0 50 (a'.tmps.getD 120 undef) w')
        refine rf_call rfl (rf_w1 (g := 49) (t := 119) rfl (by kernel_rfl) e49) (by simp [execOp, Act.eval, go_sem, e50]) ((Q0.out _).mono ?_)
        rintro e wz ⟨rfl, M9⟩
        exact ⟨_, rfl, M9, rfl⟩
      · -- 52
        have e49 : a'.tmps.getD 119 undef = .bool true := (rf_dep (hd 49 (by decide)) (by kernel_rfl) : F11 M C0 49 (a'.tmps.getD 119 undef) w')
        exact rf_val (v := .agg cn0) rfl (rf_w1 (g := 49) (t := 119) rfl (by kernel_rfl) e49) (by simp [execOp, Act.eval, go_sem]) (Mo.refl _) rfl
      · -- 53
        have e49 : a'.tmps.getD 119 undef = .bool true := (rf_dep (hd 49 (by decide)) (by kernel_rfl) : F11 M C0 49 (a'.tmps.getD 119 undef) w')
        have e51 : a'.tmps.getD 121 undef = .agg cn0 := (rf_dep (hd 51 (by decide)) (by kernel_rfl) : F11 M C0 51 (a'.tmps.getD 121 undef) w')
        have e52 : a'.tmps.getD 122 undef = .agg cn0 := (rf_dep (hd 52 (by decide)) (by kernel_rfl) : F11 M C0 52 (a'.tmps.getD 122 undef) w')
        exact rf_val (v := .bool true) rfl (rf_w1 (g := 49) (t := 119) rfl (by kernel_rfl) e49) (by simp [execOp, Act.eval, go_sem, e51, e52]) (Mo.refl _) rfl
      · -- 54
        have e49 : a'.tmps.getD 119 undef = .bool true := (rf_dep (hd 49 (by decide)) (by kernel_rfl) : F11 M C0 49 (a'.tmps.getD 119 undef) w')
        have e53 : a'.tmps.getD 123 undef = .bool true := (rf_dep (hd 53 (by decide)) (by kernel_rfl) : F11 M C0 53 (a'.tmps.getD 123 undef) w')
        exact rf_val (v := .bool true) rfl (rf_w0 rfl) (by simp [execOp, Act.eval, go_sem, e49, e53]) (Mo.refl _) rfl
      · -- 55
        have e54 : a'.tmps.getD 124 undef = .bool true := (rf_dep (hd 54 (by decide)) (by kernel_rfl) : F11 M C0 54 (a'.tmps.getD 124 undef) w')
        exact rf_val rfl (rf_w0 rfl) rfl (Mo.refl _) e54
      · -- 56
        have e55 : a'.tmps.getD 125 undef = .bool true := (rf_dep (hd 55 (by decide)) (by kernel_rfl) : F11 M C0 55 (a'.tmps.getD 125 undef) w')
        have q := hM.blk bB
        exact rf_val (v := .agg C0) rfl (rf_w1 (g := 55) (t := 125) rfl (by kernel_rfl) e55) (by simp [execOp, Act.eval, go_sem, b1]) (Mo.refl _) rfl
      · -- 57
        have e55 : a'.tmps.getD 125 undef = .bool true := (rf_dep (hd 55 (by decide)) (by kernel_rfl) : F11 M C0 55 (a'.tmps.getD 125 undef) w')
        refine rf_call rfl (rf_w1 (g := 55) (t := 125) rfl (by kernel_rfl) e55) (by simp [execOp, Act.eval, go_sem]) ((D5.out _).mono ?_)
        rintro e wz ⟨C, rfl, z, o, c, M9⟩
        exact ⟨_, rfl, M9, C, rfl, z, o, c⟩
      · -- 58
        have e55 : a'.tmps.getD 125 undef = .bool true := (rf_dep (hd 55 (by decide)) (by kernel_rfl) : F11 M C0 55 (a'.tmps.getD 125 undef) w')
        refine rf_call rfl (rf_w1 (g := 55) (t := 125) rfl (by kernel_rfl) e55) (by simp [execOp, Act.eval, go_sem]) ((D6.out _).mono ?_)
        rintro e wz ⟨C, rfl, z, o, c, M9⟩
        exact ⟨_, rfl, M9, C, rfl, z, o, c⟩
      · -- 59
        have e55 : a'.tmps.getD 125 undef = .bool true := (rf_dep (hd 55 (by decide)) (by kernel_rfl) : F11 M C0 55 (a'.tmps.getD 125 undef) w')
        refine rf_call rfl (rf_w1 (g := 55) (t := 125) rfl (by kernel_rfl) e55) (by simp [execOp, Act.eval, go_sem]) ((D7.out _).mono ?_)
        rintro e wz ⟨C, rfl, z, o, c, M9⟩
        exact ⟨_, rfl, M9, C, rfl, z, o, c⟩
      · -- 60
        have e55 : a'.tmps.getD 125 undef = .bool true := (rf_dep (hd 55 (by decide)) (by kernel_rfl) : F11 M C0 55 (a'.tmps.getD 125 undef) w')
        refine rf_call rfl (rf_w1 (g := 55) (t := 125) rfl (by kernel_rfl) e55) (by simp [execOp, Act.eval, go_sem]) ((D8.out _).mono ?_)
        rintro e wz ⟨C, rfl, z, o, c, M9⟩
        exact ⟨_, rfl, M9, C, rfl, z, o, c⟩
      · -- 61
        have e55 : a'.tmps.getD 125 undef = .bool true := (rf_dep (hd 55 (by decide)) (by kernel_rfl) : F11 M C0 55 (a'.tmps.getD 125 undef) w')
        have e56 : a'.tmps.getD 126 undef = .agg C0 := (rf_dep (hd 56 (by decide)) (by kernel_rfl) : F11 M C0 56 (a'.tmps.getD 126 undef) w')
        obtain ⟨C57, e57, z57, o57, c57⟩ := (rf_dep (hd 57 (by decide)) (by kernel_rfl) : F11 M C0 57 (a'.tmps.getD 127 undef) w')
        obtain ⟨C58, e58, z58, o58, c58⟩ := (rf_dep (hd 58 (by decide)) (by kernel_rfl) : F11 M C0 58 (a'.tmps.getD 128 undef) w')
        obtain ⟨C59, e59, z59, o59, c59⟩ := (rf_dep (hd 59 (by decide)) (by kernel_rfl) : F11 M C0 59 (a'.tmps.getD 129 undef) w')
        obtain ⟨C60, e60, z60, o60, c60⟩ := (rf_dep (hd 60 (by decide)) (by kernel_rfl) : F11 M C0 60 (a'.tmps.getD 130 undef) w')
        rw [Array.getD_eq_getD_getElem?] at e55 e56 e57 e58 e59 e60
        exact rf_val (v := .slice (some ⟨w'.heap.size, 0, none⟩) 5 5) rfl (rf_w1 (g := 55) (t := 125) rfl (by kernel_rfl) (by rw [Array.getD_eq_getD_getElem?]; exact e55)) (by simp [execOp, Act.eval, go_sem, e56, e57, e58, e59, e60]) (Mor.out : Mo w' (w'.alloc (.cells (rowsD [C0, C57, C58, C59, C60]) 41))) ⟨w'.heap.size, C57, C58, C59, C60, rfl, inferInstance, c57.mo Mor.out, c58.mo Mor.out, c59.mo Mor.out, c60.mo Mor.out⟩
      · -- 62
        have e55 : a'.tmps.getD 125 undef = .bool true := (rf_dep (hd 55 (by decide)) (by kernel_rfl) : F11 M C0 55 (a'.tmps.getD 125 undef) w')
        exact rf_val (v := .slice (some ⟨w'.heap.size, 0, none⟩) 5 5) rfl (rf_w1 (g := 55) (t := 125) rfl (by kernel_rfl) e55) (by simp [execOp, Act.eval, go_sem]) (Mor.out : Mo w' (w'.alloc (.cells #[.int .u8 1, .int .u8 1, .int .u8 1, .int .u8 7, .int .u8 4] 5))) ⟨w'.heap.size, rfl, inferInstance⟩
      · -- 63
        have e55 : a'.tmps.getD 125 undef = .bool true := (rf_dep (hd 55 (by decide)) (by kernel_rfl) : F11 M C0 55 (a'.tmps.getD 125 undef) w')
        obtain ⟨g61, C5, C6, C7, C8, e61, k61, c5, c6, c7, c8⟩ := (rf_dep (hd 61 (by decide)) (by kernel_rfl) : F11 M C0 61 (a'.tmps.getD 131 undef) w')
        obtain ⟨g62, e62, k62⟩ := (rf_dep (hd 62 (by decide)) (by kernel_rfl) : F11 M C0 62 (a'.tmps.getD 132 undef) w')
        refine rf_call rfl (rf_w1 (g := 55) (t := 125) rfl (by kernel_rfl) e55) (by simp [execOp, Act.eval, go_sem, e61, e62]) ((B5.out w' g61 g62 C0 (cB.mo hM) C5 c5 C6 c6 C7 c7 C8 c8 k61 k62).mono ?_)
        rintro e wz ⟨rfl, M9⟩
        exact ⟨_, rfl, M9, rfl⟩
      · -- 64
        have e55 : a'.tmps.getD 125 undef = .bool true := (rf_dep (hd 55 (by decide)) (by kernel_rfl) : F11 M C0 55 (a'.tmps.getD 125 undef) w')
        have e63 : a'.tmps.getD 133 undef = .bool true := (rf_dep (hd 63 (by decide)) (by kernel_rfl) : F11 M C0 63 (a'.tmps.getD 133 undef) w')
        exact rf_val (v := .bool true) rfl (rf_w0 rfl) (by simp [execOp, Act.eval, go_sem, e55, e63]) (Mo.refl _) rfl
      · -- 65
        have e64 : a'.tmps.getD 134 undef = .bool true := (rf_dep (hd 64 (by decide)) (by kernel_rfl) : F11 M C0 64 (a'.tmps.getD 134 undef) w')
        exact rf_val rfl (rf_w0 rfl) rfl (Mo.refl _) e64
      · -- 66
        have e65 : a'.tmps.getD 135 undef = .bool true := (rf_dep (hd 65 (by decide)) (by kernel_rfl) : F11 M C0 65 (a'.tmps.getD 135 undef) w')
        refine rf_call rfl (rf_w1 (g := 65) (t := 135) rfl (by kernel_rfl) e65) (by simp [execOp, Act.eval, go_sem]) ((WK.out _).mono ?_)
        rintro e wz ⟨rfl, M9⟩
        exact ⟨_, rfl, M9, rfl⟩
      · -- 67
        have e65 : a'.tmps.getD 135 undef = .bool true := (rf_dep (hd 65 (by decide)) (by kernel_rfl) : F11 M C0 65 (a'.tmps.getD 135 undef) w')
        have e66 : a'.tmps.getD 136 undef = .bool true := (rf_dep (hd 66 (by decide)) (by kernel_rfl) : F11 M C0 66 (a'.tmps.getD 136 undef) w')
        exact rf_val (v := .bool true) rfl (rf_w0 rfl) (by simp [execOp, Act.eval, go_sem, e65, e66]) (Mo.refl _) rfl
      · -- 68
        have e67 : a'.tmps.getD 137 undef = .bool true := (rf_dep (hd 67 (by decide)) (by kernel_rfl) : F11 M C0 67 (a'.tmps.getD 137 undef) w')
        exact rf_val rfl (rf_w0 rfl) rfl (Mo.refl _) e67
    · --@@ fin
      intro a' w' hI
      have e68 : a'.tmps.getD 0 undef = .bool true := (rf_dep (hI.val 68 (of_decide_eq_true (by kernel_rfl)) (by kernel_rfl)) (by kernel_rfl) : F11 M C0 68 (a'.tmps.getD 0 undef) w')
      have b1 : a'.tmps.getD 1 undef = .pointer (some ⟨b1, 0, none⟩) := (hI.base 1 (rf_free (by kernel_rfl))).trans rfl
      have b2 : a'.tmps.getD 2 undef = nilp := (hI.base 2 (rf_free (by kernel_rfl))).trans rfl
      have b3 : a'.tmps.getD 3 undef = .int .i64 2 := (hI.base 3 (rf_free (by kernel_rfl))).trans rfl
      have b4 : a'.tmps.getD 4 undef = nilp := (hI.base 4 (rf_free (by kernel_rfl))).trans rfl
      have b5 : a'.tmps.getD 5 undef = .int .i64 2 := (hI.base 5 (rf_free (by kernel_rfl))).trans rfl
      have b6 : a'.tmps.getD 6 undef = nilp := (hI.base 6 (rf_free (by kernel_rfl))).trans rfl
      have b7 : a'.tmps.getD 7 undef = .int .i64 2 := (hI.base 7 (rf_free (by kernel_rfl))).trans rfl
      have b8 : a'.tmps.getD 8 undef = nilp := (hI.base 8 (rf_free (by kernel_rfl))).trans rfl
      have b9 : a'.tmps.getD 9 undef = .int .i64 2 := (hI.base 9 (rf_free (by kernel_rfl))).trans rfl
      have b10 : a'.tmps.getD 10 undef = ptr M := (hI.base 10 (rf_free (by kernel_rfl))).trans rfl
      have b11 : a'.tmps.getD 11 undef = .int .i64 0 := (hI.base 11 (rf_free (by kernel_rfl))).trans rfl
      have b12 : a'.tmps.getD 12 undef = .slice none 0 0 := (hI.base 12 (rf_free (by kernel_rfl))).trans rfl
      have b14 : a'.tmps.getD 14 undef = .int .i64 2 := (hI.base 14 (rf_free (by kernel_rfl))).trans rfl
      have b15 : a'.tmps.getD 15 undef = .pointer none := (hI.base 15 (rf_free (by kernel_rfl))).trans rfl
      have b16 : a'.tmps.getD 16 undef = .int .u8 0 := (hI.base 16 (rf_free (by kernel_rfl))).trans rfl
      have b17 : a'.tmps.getD 17 undef = .pointer (some ⟨w9.heap.size, 0, none⟩) := (hI.base 17 (rf_free (by kernel_rfl))).trans rfl
      have b18 : a'.tmps.getD 18 undef = .bool true := (hI.base 18 (rf_free (by kernel_rfl))).trans rfl
      have hsz : a'.tmps.size = 138 := hI.asz
      have hdf : a'.defers = [] := hI.df
      refine hK a' w' (Met.intro (hJ a' w' ⟨.bool true, a'.tmps.getD 13 undef, a'.tmps.getD 19 undef, a'.tmps.getD 20 undef, a'.tmps.getD 21 undef, a'.tmps.getD 22 undef, a'.tmps.getD 23 undef, a'.tmps.getD 24 undef, a'.tmps.getD 25 undef, a'.tmps.getD 26 undef, a'.tmps.getD 27 undef, a'.tmps.getD 28 undef, a'.tmps.getD 29 undef, a'.tmps.getD 30 undef, a'.tmps.getD 31 undef, a'.tmps.getD 32 undef, a'.tmps.getD 33 undef, a'.tmps.getD 34 undef, a'.tmps.getD 35 undef, a'.tmps.getD 36 undef, a'.tmps.getD 37 undef, a'.tmps.getD 38 undef, a'.tmps.getD 39 undef, a'.tmps.getD 40 undef, a'.tmps.getD 41 undef, a'.tmps.getD 42 undef, a'.tmps.getD 43 undef, a'.tmps.getD 44 undef, a'.tmps.getD 45 undef, a'.tmps.getD 46 undef, a'.tmps.getD 47 undef, a'.tmps.getD 48 undef, a'.tmps.getD 49 undef, a'.tmps.getD 50 undef, a'.tmps.getD 51 undef, a'.tmps.getD 52 undef, a'.tmps.getD 53 undef, a'.tmps.getD 54 undef, a'.tmps.getD 55 undef, a'.tmps.getD 56 undef, a'.tmps.getD 57 undef, a'.tmps.getD 58 undef, a'.tmps.getD 59 undef, a'.tmps.getD 60 undef, a'.tmps.getD 61 undef, a'.tmps.getD 62 undef, a'.tmps.getD 63 undef, a'.tmps.getD 64 undef, a'.tmps.getD 65 undef, a'.tmps.getD 66 undef, a'.tmps.getD 67 undef, a'.tmps.getD 68 undef, a'.tmps.getD 69 undef, a'.tmps.getD 70 undef, a'.tmps.getD 71 undef, a'.tmps.getD 72 undef, a'.tmps.getD 73 undef, a'.tmps.getD 74 undef, a'.tmps.getD 75 undef, a'.tmps.getD 76 undef, a'.tmps.getD 77 undef, a'.tmps.getD 78 undef, a'.tmps.getD 79 undef, a'.tmps.getD 80 undef, a'.tmps.getD 81 undef, a'.tmps.getD 82 undef, a'.tmps.getD 83 undef, a'.tmps.getD 84 undef, a'.tmps.getD 85 undef, a'.tmps.getD 86 undef, a'.tmps.getD 87 undef, a'.tmps.getD 88 undef, a'.tmps.getD 89 undef, a'.tmps.getD 90 undef, a'.tmps.getD 91 undef, a'.tmps.getD 92 undef, a'.tmps.getD 93 undef, a'.tmps.getD 94 undef, a'.tmps.getD 95 undef, a'.tmps.getD 96 undef, a'.tmps.getD 97 undef, a'.tmps.getD 98 undef, a'.tmps.getD 99 undef, a'.tmps.getD 100 undef, a'.tmps.getD 101 undef, a'.tmps.getD 102 undef, a'.tmps.getD 103 undef, a'.tmps.getD 104 undef, a'.tmps.getD 105 undef, a'.tmps.getD 106 undef, a'.tmps.getD 107 undef, a'.tmps.getD 108 undef, a'.tmps.getD 109 undef, a'.tmps.getD 110 undef, a'.tmps.getD 111 undef, a'.tmps.getD 112 undef, a'.tmps.getD 113 undef, a'.tmps.getD 114 undef, a'.tmps.getD 115 undef, a'.tmps.getD 116 undef, a'.tmps.getD 117 undef, a'.tmps.getD 118 undef, a'.tmps.getD 119 undef, a'.tmps.getD 120 undef, a'.tmps.getD 121 undef, a'.tmps.getD 122 undef, a'.tmps.getD 123 undef, a'.tmps.getD 124 undef, a'.tmps.getD 125 undef, a'.tmps.getD 126 undef, a'.tmps.getD 127 undef, a'.tmps.getD 128 undef, a'.tmps.getD 129 undef, a'.tmps.getD 130 undef, a'.tmps.getD 131 undef, a'.tmps.getD 132 undef, a'.tmps.getD 133 undef, a'.tmps.getD 134 undef, a'.tmps.getD 135 undef, a'.tmps.getD 136 undef, a'.tmps.getD 137 undef, ⟨rfl, hI.mo⟩, ?_⟩))
      refine act_eqD hdf (arr_eqD hsz ?_)
      intro i hi
      have hi' : i < 138 := hi
      clear hI hi hsz hdf
      rcases (show i = 0 ∨ i = 1 ∨ i = 2 ∨ i = 3 ∨ i = 4 ∨ i = 5 ∨ i = 6 ∨ i = 7 ∨ i = 8 ∨ i = 9 ∨ i = 10 ∨ i = 11 ∨ i = 12 ∨ i = 13 ∨ i = 14 ∨ i = 15 ∨ i = 16 ∨ i = 17 ∨ i = 18 ∨ i = 19 ∨ i = 20 ∨ i = 21 ∨ i = 22 ∨ i = 23 ∨ i = 24 ∨ i = 25 ∨ i = 26 ∨ i = 27 ∨ i = 28 ∨ i = 29 ∨ i = 30 ∨ i = 31 ∨ i = 32 ∨ i = 33 ∨ i = 34 ∨ i = 35 ∨ i = 36 ∨ i = 37 ∨ i = 38 ∨ i = 39 ∨ i = 40 ∨ i = 41 ∨ i = 42 ∨ i = 43 ∨ i = 44 ∨ i = 45 ∨ i = 46 ∨ i = 47 ∨ i = 48 ∨ i = 49 ∨ i = 50 ∨ i = 51 ∨ i = 52 ∨ i = 53 ∨ i = 54 ∨ i = 55 ∨ i = 56 ∨ i = 57 ∨ i = 58 ∨ i = 59 ∨ i = 60 ∨ i = 61 ∨ i = 62 ∨ i = 63 ∨ i = 64 ∨ i = 65 ∨ i = 66 ∨ i = 67 ∨ i = 68 ∨ i = 69 ∨ i = 70 ∨ i = 71 ∨ i = 72 ∨ i = 73 ∨ i = 74 ∨ i = 75 ∨ i = 76 ∨ i = 77 ∨ i = 78 ∨ i = 79 ∨ i = 80 ∨ i = 81 ∨ i = 82 ∨ i = 83 ∨ i = 84 ∨ i = 85 ∨ i = 86 ∨ i = 87 ∨ i = 88 ∨ i = 89 ∨ i = 90 ∨ i = 91 ∨ i = 92 ∨ i = 93 ∨ i = 94 ∨ i = 95 ∨ i = 96 ∨ i = 97 ∨ i = 98 ∨ i = 99 ∨ i = 100 ∨ i = 101 ∨ i = 102 ∨ i = 103 ∨ i = 104 ∨ i = 105 ∨ i = 106 ∨ i = 107 ∨ i = 108 ∨ i = 109 ∨ i = 110 ∨ i = 111 ∨ i = 112 ∨ i = 113 ∨ i = 114 ∨ i = 115 ∨ i = 116 ∨ i = 117 ∨ i = 118 ∨ i = 119 ∨ i = 120 ∨ i = 121 ∨ i = 122 ∨ i = 123 ∨ i = 124 ∨ i = 125 ∨ i = 126 ∨ i = 127 ∨ i = 128 ∨ i = 129 ∨ i = 130 ∨ i = 131 ∨ i = 132 ∨ i = 133 ∨ i = 134 ∨ i = 135 ∨ i = 136 ∨ i = 137 by omega) with rfl | rfl | rfl | rfl | rfl | rfl | rfl | rfl | rfl | rfl | rfl | rfl | rfl | rfl | rfl | rfl | rfl | rfl | rfl | rfl | rfl | rfl | rfl | rfl | rfl | rfl | rfl | rfl | rfl | rfl | rfl | rfl | rfl | rfl | rfl | rfl | rfl | rfl | rfl | rfl | rfl | rfl | rfl | rfl | rfl | rfl | rfl | rfl | rfl | rfl | rfl | rfl | rfl | rfl | rfl | rfl | rfl | rfl | rfl | rfl | rfl | rfl | rfl | rfl | rfl | rfl | rfl | rfl | rfl | rfl | rfl | rfl | rfl | rfl | rfl | rfl | rfl | rfl | rfl | rfl | rfl | rfl | rfl | rfl | rfl | rfl | rfl | rfl | rfl | rfl | rfl | rfl | rfl | rfl | rfl | rfl | rfl | rfl | rfl | rfl | rfl | rfl | rfl | rfl | rfl | rfl | rfl | rfl | rfl | rfl | rfl | rfl | rfl | rfl | rfl | rfl | rfl | rfl | rfl | rfl | rfl | rfl | rfl | rfl | rfl | rfl | rfl | rfl | rfl | rfl | rfl | rfl | rfl | rfl | rfl | rfl | rfl | rfl
      · exact e68
      · exact b1
      · exact b2
      · exact b3
      · exact b4
      · exact b5
      · exact b6
      · exact b7
      · exact b8
      · exact b9
      · exact b10
      · exact b11
      · exact b12
      · exact rfl
      · exact b14
      · exact b15
      · exact b16
      · exact b17
      · exact b18
      · exact rfl
      · exact rfl
      · exact rfl
      · exact rfl
      · exact rfl
      · exact rfl
      · exact rfl
      · exact rfl
      · exact rfl
      · exact rfl
      · exact rfl
      · exact rfl
      · exact rfl
      · exact rfl
      · exact rfl
      · exact rfl
      · exact rfl
      · exact rfl
      · exact rfl
      · exact rfl
      · exact rfl
      · exact rfl
      · exact rfl
      · exact rfl
      · exact rfl
      · exact rfl
      · exact rfl
      · exact rfl
      · exact rfl
      · exact rfl
      · exact rfl
      · exact rfl
      · exact rfl
      · exact rfl
      · exact rfl
      · exact rfl
      · exact rfl
      · exact rfl
      · exact rfl
      · exact rfl
      · exact rfl
      · exact rfl
      · exact rfl
      · exact rfl
      · exact rfl
      · exact rfl
      · exact rfl
      · exact rfl
      · exact rfl
      · exact rfl
      · exact rfl
      · exact rfl
      · exact rfl
      · exact rfl
      · exact rfl
      · exact rfl
      · exact rfl
      · exact rfl
      · exact rfl
      · exact rfl
      · exact rfl
      · exact rfl
      · exact rfl
      · exact rfl
      · exact rfl
      · exact rfl
      · exact rfl
      · exact rfl
      · exact rfl
      · exact rfl
      · exact rfl
      · exact rfl
      · exact rfl
      · exact rfl
      · exact rfl
      · exact rfl
      · exact rfl
      · exact rfl
      · exact rfl
      · exact rfl
      · exact rfl
      · exact rfl
      · exact rfl
      · exact rfl
      · exact rfl
      · exact rfl
      · exact rfl
      · exact rfl
      · exact rfl
      · exact rfl
      · exact rfl
      · exact rfl
      · exact rfl
      · exact rfl
      · exact rfl
      · exact rfl
      · exact rfl
      · exact rfl
      · exact rfl
      · exact rfl
      · exact rfl
      · exact rfl
      · exact rfl
      · exact rfl
      · exact rfl
      · exact rfl
      · exact rfl
      · exact rfl
      · exact rfl
      · exact rfl
      · exact rfl
      · exact rfl
      · exact rfl
      · exact rfl
      · exact rfl
      · exact rfl
      · exact rfl
      · exact rfl
      · exact rfl

  obtain ⟨rfl, mC⟩ := hcut
  go_wp2_with fail
  go_ret
  exact ⟨rfl, (MB.trans mC).trans Mor.out⟩
end Go.Proofs.Ytcflebggepmmcaa
