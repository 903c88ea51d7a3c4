/- Written by gen/bundle30.py: MatA, MatC, MatB, MatD in one text. -/
import Derived.Test.YtcflebggepmmcaaWideS
import Derived.Test.YtcflebggepmmcaaPackS
import Derived.Test.YtcflebggepmmcaaPendZ
import Derived.Test.YtcflebggepmmcaaPendY
import Derived.Deep.DeepCutAuto
import Derived.Test.YtcflebggepmmcaaPackT
import Derived.Deep.RegionHeld3
/- match.sample: what a reply tells. -/
namespace Go.Proofs.Ytcflebggepmmcaa
open Go.RowKit

/-- a sample's cells -/
def smC (f : Array Value) (t1 t2 t3 t4 o d s st : Int) : Array Value := f ++ #[.int .i64 (hiW t1), .int .u64 (loW t1), .int .i64 (hiW t2), .int .u64 (loW t2), .int .i64 (hiW t3), .int .u64 (loW t3), .int .i64 (hiW t4), .int .u64 (loW t4), .int .i64 o, .int .i64 d, .int .i64 s, .int .u8 st]
/-- a key's cells, by its flow -/
def kfC (f : Array Value) (x : Int) : Array Value := f ++ #[.int .u64 x]
set_option maxRecDepth 20000 in
theorem kyC_kf (s t : Array Value) (x : Int) : kyC s t x = kfC (s ++ t) x := rfl
set_option maxRecDepth 20000 in
instance (f : Array Value) (x : Int) [h : SzA f 36] : SzA (kfC f x) 37 := ⟨by have := h.out; unfold kfC; simp [this]⟩
set_option maxRecDepth 20000 in
instance (f : Array Value) (x : Int) [h : OneA f] : OneA (kfC f x) := ⟨by have := h.out; unfold kfC; rw [Array.all_append, this]; simp [Value.oneCell']⟩
set_option maxRecDepth 20000 in
instance (f : Array Value) (t1 t2 t3 t4 o d s st : Int) [h : SzA f 36] : SzA (smC f t1 t2 t3 t4 o d s st) 48 := ⟨by have := h.out; unfold smC; simp [this]⟩
set_option maxRecDepth 20000 in
instance (f : Array Value) (t1 t2 t3 t4 o d s st : Int) [h : OneA f] : OneA (smC f t1 t2 t3 t4 o d s st) := ⟨by have := h.out; unfold smC; rw [Array.all_append, this]; simp [Value.oneCell']⟩
set_option maxRecDepth 20000 in
theorem kf_flow (f : Array Value) (x : Int) [h : SzA f 36] : (kfC f x).extract 0 36 = f := by
  have h1 := h.out
  apply Array.toList_inj.1
  unfold kfC
  simp only [Array.toList_extract, Array.toList_append, List.extract_eq_take_drop]
  rw [List.drop_zero, List.take_left' (by simp [h1])]
set_option maxRecDepth 20000 in
theorem kf_x (f : Array Value) (x : Int) [h : SzA f 36] : (kfC f x)[36]? = some (.int .u64 x) := by
  unfold kfC
  rw [Array.getElem?_append_right (by rw [h.out]; omega), h.out]
  rfl
set_option maxRecDepth 20000 in
theorem sm_ext (f : Array Value) (l : Array Value) (i : Nat) [h : SzA f 36] : (f ++ l).extract (36 + i) (36 + i + 2) = l.extract i (i + 2) := by
  have h1 := h.out
  rw [Array.extract_append]
  have : f.extract (36 + i) (36 + i + 2) = #[] := by rw [Array.extract_empty_of_size_le_start]; omega
  rw [this, h1]
  simp
  congr 1 <;> omega
set_option maxRecDepth 20000 in
theorem sm_1 (f : Array Value) (t1 t2 t3 t4 o d s st : Int) [h : SzA f 36] : (smC f t1 t2 t3 t4 o d s st).extract 36 38 = #[.int .i64 (hiW t1), .int .u64 (loW t1)] := sm_ext f _ 0
set_option maxRecDepth 20000 in
theorem sm_2 (f : Array Value) (t1 t2 t3 t4 o d s st : Int) [h : SzA f 36] : (smC f t1 t2 t3 t4 o d s st).extract 38 40 = #[.int .i64 (hiW t2), .int .u64 (loW t2)] := sm_ext f _ 2
set_option maxRecDepth 20000 in
theorem sm_3 (f : Array Value) (t1 t2 t3 t4 o d s st : Int) [h : SzA f 36] : (smC f t1 t2 t3 t4 o d s st).extract 40 42 = #[.int .i64 (hiW t3), .int .u64 (loW t3)] := sm_ext f _ 4
set_option maxRecDepth 20000 in
theorem sm_4 (f : Array Value) (t1 t2 t3 t4 o d s st : Int) [h : SzA f 36] : (smC f t1 t2 t3 t4 o d s st).extract 42 44 = #[.int .i64 (hiW t4), .int .u64 (loW t4)] := sm_ext f _ 6
set_option maxRecDepth 20000 in
theorem sm_d (f : Array Value) (t1 t2 t3 t4 o d s st : Int) [h : SzA f 36] : (smC f t1 t2 t3 t4 o d s st)[45]? = some (.int .i64 d) := by
  unfold smC
  rw [Array.getElem?_append_right (by rw [h.out]; omega), h.out]
  rfl
set_option maxRecDepth 20000 in
theorem sm_o (f : Array Value) (t1 t2 t3 t4 o d s st : Int) [h : SzA f 36] : (smC f t1 t2 t3 t4 o d s st)[44]? = some (.int .i64 o) := by
  unfold smC
  rw [Array.getElem?_append_right (by rw [h.out]; omega), h.out]
  rfl
set_option maxRecDepth 20000 in
theorem sm_s (f : Array Value) (t1 t2 t3 t4 o d s st : Int) [h : SzA f 36] : (smC f t1 t2 t3 t4 o d s st)[46]? = some (.int .i64 s) := by
  unfold smC
  rw [Array.getElem?_append_right (by rw [h.out]; omega), h.out]
  rfl
set_option maxRecDepth 20000 in
theorem sm_set (f l : Array Value) (i : Nat) (v : Value) [h : SzA f 36] : (f ++ l).setIfInBounds (36 + i) v = f ++ l.setIfInBounds i v := by
  have h1 := h.out
  rw [Array.setIfInBounds_append_right (by omega)]
  congr 2
  omega
set_option maxRecDepth 20000 in
theorem sm_seto (f : Array Value) (t1 t2 t3 t4 o d s st o' : Int) [h : SzA f 36] : (smC f t1 t2 t3 t4 o d s st).setIfInBounds 44 (.int .i64 o') = smC f t1 t2 t3 t4 o' d s st := sm_set f _ 8 _
set_option maxRecDepth 20000 in
theorem sm_setd (f : Array Value) (t1 t2 t3 t4 o d s st d' : Int) [h : SzA f 36] : (smC f t1 t2 t3 t4 o d s st).setIfInBounds 45 (.int .i64 d') = smC f t1 t2 t3 t4 o d' s st := sm_set f _ 9 _
set_option maxRecDepth 20000 in
theorem sm_sets (f : Array Value) (t1 t2 t3 t4 o d s st s' : Int) [h : SzA f 36] : (smC f t1 t2 t3 t4 o d s st).setIfInBounds 46 (.int .i64 s') = smC f t1 t2 t3 t4 o d s' st := sm_set f _ 10 _
set_option maxRecDepth 20000 in
instance row_flow : RowT 43 36 := ⟨by kernel_rfl, by kernel_rfl⟩
set_option maxRecDepth 20000 in
instance row_samp : RowT 45 48 := ⟨by kernel_rfl, by kernel_rfl⟩
set_option maxRecDepth 20000 in
instance fl_samp : FlatT 45 48 := ⟨by kernel_rfl, by kernel_rfl, by kernel_rfl, by kernel_rfl, by kernel_rfl, by kernel_rfl⟩
set_option maxRecDepth 20000 in
theorem app36 {f : Array Value} (h : f.size = 36) : ∃ s u, s.size = 18 ∧ u.size = 18 ∧ f = s ++ u := ⟨f.extract 0 18, f.extract 18 36, by simp [h], by simp [h], by
  rw [Array.extract_append_extract]
  have : max 18 36 = f.size := by rw [h]; rfl
  simp [h, this]
  rw [← h, Array.extract_size]⟩
set_option maxRecDepth 20000 in
theorem loadF_flow (v : Value) : Instr.loadAt 43 v = loadF 43 v := rfl
set_option maxRecDepth 20000 in
theorem loadF_samp (v : Value) : Instr.loadAt 45 v = loadF 45 v := rfl
set_option maxRecDepth 20000 in
theorem storeF_samp (v x : Value) : Instr.storeAt 45 v x = storeF 45 v x := rfl
set_option maxRecDepth 20000 in
theorem buildF_samp (l : Array (Nat × Value)) : Instr.build 45 l = buildF 45 l := rfl
set_option maxRecDepth 20000 in
theorem run_build_samp (f : Array Value) (t1 t2 t3 t4 st : Int) [h : SzA f 36] (w : World) : (buildF 45 #[(0, .agg f), (1, WV t1), (2, WV t2), (3, WV t3), (4, WV t4), (8, .int .u8 st)]).run Try.prog w = .ok (.agg (smC f t1 t2 t3 t4 0 0 0 st)) w := by
  obtain ⟨s, u, hs, hu, rfl⟩ := app36 h.out
  obtain ⟨a0, a1, a2, a3, a4, a5, a6, a7, a8, a9, a10, a11, a12, a13, a14, a15, a16, a17, rfl⟩ := arr18 hs
  obtain ⟨b0, b1, b2, b3, b4, b5, b6, b7, b8, b9, b10, b11, b12, b13, b14, b15, b16, b17, rfl⟩ := arr18 hu
  exact run_build w _ _ _ (by kernel_rfl)
/-- a sample that is none -/
def sm0 : Array Value := smC (en0 ++ en0) 0 0 0 0 0 0 0 0
set_option maxRecDepth 20000 in
instance : SzA (en0 ++ en0) 36 := ⟨rfl⟩
set_option maxRecDepth 20000 in
instance : OneA (en0 ++ en0) := inferInstance
set_option maxRecDepth 20000 in
instance : SzA sm0 48 := inferInstanceAs (SzA (smC (en0 ++ en0) 0 0 0 0 0 0 0 0) 48)
set_option maxRecDepth 20000 in
instance : OneA sm0 := inferInstanceAs (OneA (smC (en0 ++ en0) 0 0 0 0 0 0 0 0))
set_option maxRecDepth 20000 in
theorem run_build_samp0 (w : World) : (buildF 45 #[]).run Try.prog w = .ok (.agg sm0) w := run_build w _ _ _ (by kernel_rfl)
/-- half the root's way, and what it may be off -/
def rootI (h : Hd) : Int := h.rd * 65536 / 2 + h.rp * 65536
/-- the sample of a reply that answers a key -/
def smpC (f : Array Value) (x : Int) (h : Hd) (a : Int) : Array Value :=
  smC f (unf x a) (unf h.r a) (unf h.x a) a (offI (unf x a) (unf h.r a) (unf h.x a) a) (delI (unf x a) (unf h.r a) (unf h.x a) a) (clip (cl (cl (absI (delI (unf x a) (unf h.r a) (unf h.x a) a)) / 2 + rootI h))) h.s
end Go.Proofs.Ytcflebggepmmcaa
/- match: the matcher in memory; New, inside, Len, Counts, Copy. -/
namespace Go.Proofs.Ytcflebggepmmcaa
open Go.RowKit

/-- a matcher's cells -/
abbrev mtC (T : Nat) (win : Int) (c : Nat → Int) : Array Value := #[ptr T, .int .i64 win, .int .i64 (c 0), .int .i64 (c 1), .int .i64 (c 2), .int .i64 (c 3), .int .i64 (c 4), .int .i64 (c 5), .int .i64 (c 6), .int .i64 (c 7), .int .i64 (c 8)]
abbrev cnC (c : Nat → Int) : Array Value := #[.int .i64 (c 0), .int .i64 (c 1), .int .i64 (c 2), .int .i64 (c 3), .int .i64 (c 4), .int .i64 (c 5), .int .i64 (c 6), .int .i64 (c 7), .int .i64 (c 8)]
/-- a matcher -/
structure MatV (W : World) (M T B : Nat) (room win : Int) (c : Nat → Int) (E : List En) (P : Nat → Prop) : Prop where
  m : Blk W M 86 (mtC T win c)
  t : TabE W T B room E P
  np : ¬ P M
set_option maxRecDepth 20000 in
theorem MatV.mo {W w : World} {M T B : Nat} {room win : Int} {c : Nat → Int} {E : List En} {P : Nat → Prop} (h : MatV W M T B room win c E P) (k : Mo W w) : MatV w M T B room win c E P := ⟨k.blk h.m, h.t.mo k, h.np⟩
set_option maxRecDepth 20000 in
theorem MatV.keep {W w : World} {M T B : Nat} {room win : Int} {c : Nat → Int} {E : List En} {P S : Nat → Prop} (h : MatV W M T B room win c E P) (k : KpS S W w) (s1 : ¬ S M) (s2 : ∀ i, i < W.heap.size → P i → ¬ S i) : MatV w M T B room win c E P :=
  ⟨k.blk h.m s1, h.t.keep fun i hi hp => k.block i hi (s2 i hi hp), h.np⟩
/-- is a moment behind another one, and by no more than a window? -/
def insB (win a b : Int) : Bool := decide (0 ≤ cl (b - a)) && decide (cl (b - a) ≤ win)
set_option maxRecDepth 20000 in
instance fl_cnt : FlatT 29 9 := ⟨by kernel_rfl, by kernel_rfl, by kernel_rfl, by kernel_rfl, by kernel_rfl, by kernel_rfl⟩
set_option maxRecDepth 20000 in
instance row_mt : RowT 86 11 := ⟨by kernel_rfl, by kernel_rfl⟩
set_option maxRecDepth 20000 in
theorem loadF_cnt (v : Value) : Instr.loadAt 29 v = loadF 29 v := rfl
set_option maxRecDepth 20000 in
theorem storeF_cnt (v x : Value) : Instr.storeAt 29 v x = storeF 29 v x := rfl
set_option maxRecDepth 20000 in
theorem loadF_mt (v : Value) : Instr.loadAt 86 v = loadF 86 v := rfl
attribute [local go_sem] blk_cell' blk_frozen'
set_option maxRecDepth 20000 in
set_option maxHeartbeats 1000000 in
theorem inside_any (M T : Nat) (win : Int) (c : Nat → Int) (a b : Int) (W : World) (h : Blk W M 86 (mtC T win c)) (w0 : 0 ≤ win) (w1 : win ≤ 9223372036854775807) (ia : InW a) (ib : InW b) :
    Calls Try.prog 30 #[ptr M, WV a, WV b] W fun e w' => e = .returned (.bool (insB win a b)) ∧ Mo W w' := by
  unfold insB
  have S1 := Lib.hid (fun w => sub_any b a ib ia w)
  generalize cl (b - a) = g at *
  have C1 : Hid (∀ w, Calls Try.prog 58 #[WV g, .agg #[.int .i64 0, .int .u64 0]] w fun e w' => e = .returned (.int .i64 (cmpI g 0)) ∧ Mo w w') := Lib.hid (fun w => cmp_any g 0 w)
  have F1 := Lib.hid (fun w => of_any win (by omega) w1 w)
  have C2 := Lib.hid (fun w => cmp_any g win w)
  clear ia ib
  have HB := h
  obtain ⟨o, ho⟩ : ∃ o, cmpI g 0 = o := ⟨_, rfl⟩
  obtain ⟨q, hq⟩ : ∃ q, cmpI g win = q := ⟨_, rfl⟩
  rw [ho] at C1
  rw [hq] at C2
  by_cases c1 : 0 ≤ g
  · have d1 : decide (0 ≤ o) = true := by rw [← ho]; unfold cmpI; apply decide_eq_true; rw [if_neg (by omega)]; split <;> omega
    have d2 : decide (q ≤ 0) = decide (g ≤ win) := by
      rw [← hq]; unfold cmpI
      by_cases k : g ≤ win
      · rw [decide_eq_true k]; apply decide_eq_true; (repeat' split) <;> omega
      · rw [decide_eq_false k]; apply decide_eq_false; (repeat' split) <;> omega
    rw [decide_eq_true c1, Bool.true_and, ← d2]
    clear ho hq c1 d2
    go_enter Try.func30, Try.ntmps30
    go_wp2_with fail
    refine (S1.out _).mono ?_; rintro e w1 ⟨rfl, J1, d1, rfl⟩
    go_upto_region 2 with (fail)
    first | (refine wp_region_mo (by kernel_rfl) (by kernel_rfl) ?_) | (refine wp_region_mo' (by kernel_rfl) (by kernel_rfl) ?_)
    repeat (go_big_quiet_step (first | (with_reducible exact quiet_mo (C1.out _)) | (with_reducible exact quiet_mo (F1.out _)) | (with_reducible exact quiet_mo (C2.out _))))
    refine wpQuiet_nil ?_
    intro _ hw'
    obtain ⟨⟨J9, d9⟩, hw''⟩ := hw'
    subst hw''
    go_wp2_with fail
    go_ret
    exact ⟨rfl, Mor.out⟩
  · have d1 : decide (0 ≤ o) = false := by rw [← ho]; unfold cmpI; apply decide_eq_false; rw [if_pos (by omega)]; omega
    rw [decide_eq_false c1, Bool.false_and]
    clear ho hq c1
    go_enter Try.func30, Try.ntmps30
    go_wp2_with fail
    refine (S1.out _).mono ?_; rintro e w1 ⟨rfl, J1, d1, rfl⟩
    go_upto_region 2 with (fail)
    first | (refine wp_region_mo (by kernel_rfl) (by kernel_rfl) ?_) | (refine wp_region_mo' (by kernel_rfl) (by kernel_rfl) ?_)
    repeat (go_big_quiet_step (first | (with_reducible exact quiet_mo (C1.out _)) | (with_reducible exact quiet_mo (F1.out _)) | (with_reducible exact quiet_mo (C2.out _))))
    refine wpQuiet_nil ?_
    intro _ hw'
    obtain ⟨⟨J9, d9⟩, hw''⟩ := hw'
    subst hw''
    go_wp2_with fail
    go_ret
    exact ⟨rfl, Mor.out⟩
set_option maxRecDepth 20000 in
theorem mnew_out (k win : Int) (h : ¬ ((1 ≤ k ∧ k ≤ 65536) ∧ 0 ≤ win ∧ win ≤ 1152921504606846976)) (W : World) :
    Calls Try.prog 11 #[.int .i64 k, .int .i64 win] W fun e w' => e = .returned (.tuple #[nilp, .int .i64 2]) ∧ Mo W w' := by
  by_cases ck : 1 ≤ k ∧ k ≤ 65536
  · go_enter Try.func11, Try.ntmps11
    go_wp2_with fail
    refine (new_in k ck _).mono ?_
    rintro e w1 ⟨T, B, rfl, -, M1⟩
    by_cases c1 : win < 0
    · have d1 : decide (win < 0) = true := decide_eq_true c1
      go_wp2_with fail
      exact bodyPost_ret (v := .tuple #[nilp, .int .i64 2]) (by simp [results, Try.results11, go_sem]) rfl ⟨rfl, (Mor.out : Mo W _).trans (M1.trans Mor.out)⟩
    · have d1 : decide (win < 0) = false := decide_eq_false c1
      have d2 : decide (1152921504606846976 < win) = true := decide_eq_true (by omega)
      go_wp2_with fail
      exact bodyPost_ret (v := .tuple #[nilp, .int .i64 2]) (by simp [results, Try.results11, go_sem]) rfl ⟨rfl, (Mor.out : Mo W _).trans (M1.trans Mor.out)⟩
  · go_enter Try.func11, Try.ntmps11
    go_wp2_with fail
    refine (new_out k ck _).mono ?_
    rintro e w1 ⟨rfl, M1⟩
    go_wp2_with fail
    exact bodyPost_ret (v := .tuple #[nilp, .int .i64 2]) (by simp [results, Try.results11, go_sem]) rfl ⟨rfl, (Mor.out : Mo W _).trans (M1.trans Mor.out)⟩
set_option maxRecDepth 20000 in
theorem mnew_in (k win : Int) (ck : 1 ≤ k ∧ k ≤ 65536) (cw : 0 ≤ win ∧ win ≤ 1152921504606846976) (W : World) :
    Calls Try.prog 11 #[.int .i64 k, .int .i64 win] W fun e w' => ∃ M T B, e = .returned (.tuple #[ptr M, .int .i64 0]) ∧ MatV w' M T B k win (fun _ => 0) [] (fun i => W.heap.size ≤ i ∧ i ≠ M) ∧ W.heap.size ≤ M ∧ Mo W w' := by
  go_enter Try.func11, Try.ntmps11
  go_wp2_with fail
  refine (new_in k ck _).mono ?_
  rintro e w1 ⟨T, B, rfl, T1, M1⟩
  have N1 := (Mor.out : Mo W _).trans M1
  have d1 : decide (win < 0) = false := decide_eq_false (by omega)
  have d2 : decide (1152921504606846976 < win) = false := decide_eq_false (by omega)
  clear M1
  go_upto_region 4 with (fail)
  refine wp_name ?_
  intro w2 hw2
  have T2 : TabE w2 T B k [] (fun i => W.heap.size ≤ i ∧ i < w2.heap.size) := by
    rw [hw2]
    refine (T1.mo Mor.out).weak fun i hi q => ⟨Nat.le_trans (Mo.size (Mor.out : Mo W _)) q, hi⟩
  have N2 : Mo W w2 := by rw [hw2]; exact N1.trans Mor.out
  clear hw2 T1 N1
  go_wp2_with fail
  refine bodyPost_ret (v := .tuple #[ptr w2.heap.size, .int .i64 0]) (by simp [results, Try.results11, go_sem]) rfl ?_
  refine ⟨_, T, B, rfl, ⟨inferInstance, (T2.mo Mor.out).weak fun i _ q => ⟨q.1, ?_⟩, fun q => q.2 rfl⟩, N2.size, N2.trans Mor.out⟩
  have := q.2
  omega
end Go.Proofs.Ytcflebggepmmcaa
/- match.sample, walked. -/
namespace Go.Proofs.Ytcflebggepmmcaa
open Go.RowKit

set_option maxRecDepth 20000 in
theorem blk_sm0 {w : World} {g : Nat} {cs : Array Value} (h : Blk w g 45 cs) (e : cs = sm0) : Blk w g 45 sm0 := e ▸ h
set_option maxRecDepth 20000 in
instance (priority := low) mor_moc (a b : World) [h : MoC a b] : Mor a b := ⟨h.out⟩
set_option maxRecDepth 20000 in
instance blk_sto (w : World) (g : Nat) (f : Array Value) (t1 t2 t3 t4 o d s st o' : Int) [z : SzA f 36] [h : Blk w g 45 (smC f t1 t2 t3 t4 o d s st)] : Blk (w.setCell ⟨g, 44, none⟩ (.int .i64 o')) g 45 (smC f t1 t2 t3 t4 o' d s st) := by
  have := blk_setCell h 44 (.int .i64 o')
  rwa [sm_seto] at this
set_option maxRecDepth 20000 in
instance blk_std (w : World) (g : Nat) (f : Array Value) (t1 t2 t3 t4 o d s st d' : Int) [z : SzA f 36] [h : Blk w g 45 (smC f t1 t2 t3 t4 o d s st)] : Blk (w.setCell ⟨g, 45, none⟩ (.int .i64 d')) g 45 (smC f t1 t2 t3 t4 o d' s st) := by
  have := blk_setCell h 45 (.int .i64 d')
  rwa [sm_setd] at this
set_option maxRecDepth 20000 in
instance blk_sts (w : World) (g : Nat) (f : Array Value) (t1 t2 t3 t4 o d s st s' : Int) [z : SzA f 36] [h : Blk w g 45 (smC f t1 t2 t3 t4 o d s st)] : Blk (w.setCell ⟨g, 46, none⟩ (.int .i64 s')) g 45 (smC f t1 t2 t3 t4 o d s' st) := by
  have := blk_setCell h 46 (.int .i64 s')
  rwa [sm_sets] at this
set_option maxRecDepth 20000 in
theorem sm_hold {w1 w : World} {g : Nat} {f : Array Value} {t1 t2 t3 t4 o d s st : Int} [z : SzA f 36] (M : Mo w1 w) (b : Blk w g 45 (smC f t1 t2 t3 t4 o d s st)) :
    (loadF 32 (.pointer (some ⟨g, 36, none⟩))).run Try.prog w = .ok (.agg #[.int .i64 (hiW t1), .int .u64 (loW t1)]) w ∧ (loadF 32 (.pointer (some ⟨g, 38, none⟩))).run Try.prog w = .ok (.agg #[.int .i64 (hiW t2), .int .u64 (loW t2)]) w ∧
      (loadF 32 (.pointer (some ⟨g, 40, none⟩))).run Try.prog w = .ok (.agg #[.int .i64 (hiW t3), .int .u64 (loW t3)]) w ∧ (loadF 32 (.pointer (some ⟨g, 42, none⟩))).run Try.prog w = .ok (.agg #[.int .i64 (hiW t4), .int .u64 (loW t4)]) w ∧ Mo w1 w := by
  have h1 := run_loadFo 32 2 w g 36 45 (smC f t1 t2 t3 t4 o d s st) 48 (by omega) (by omega)
  have h2 := run_loadFo 32 2 w g 38 45 (smC f t1 t2 t3 t4 o d s st) 48 (by omega) (by omega)
  have h3 := run_loadFo 32 2 w g 40 45 (smC f t1 t2 t3 t4 o d s st) 48 (by omega) (by omega)
  have h4 := run_loadFo 32 2 w g 42 45 (smC f t1 t2 t3 t4 o d s st) 48 (by omega) (by omega)
  rw [sm_1] at h1
  rw [sm_2] at h2
  rw [sm_3] at h3
  rw [sm_4] at h4
  exact ⟨h1, h2, h3, h4, M⟩
set_option maxRecDepth 20000 in
theorem blk_set2 {w : World} {g : Nat} {t : TypeId} {x0 x1 : Value} (h : Blk w g t #[x0, x1]) (a b : Value) : Blk ((w.setCell ⟨g, 0, none⟩ a).setCell ⟨g, 1, none⟩ b) g t #[a, b] := blk_setCell (blk_setCell h 0 a) 1 b
set_option maxRecDepth 20000 in
theorem sm_hold4 {w1 w : World} {g g8 : Nat} {f : Array Value} {t1 t2 t3 t4 o d s st rt : Int} [z : SzA f 36] (M : Mo w1 w) (b : Blk w g 45 (smC f t1 t2 t3 t4 o d s st)) (q : Blk w g8 32 #[.int .i64 (hiW rt), .int .u64 (loW rt)]) :
    w.cell? ⟨g, 45, none⟩ = some (.int .i64 d) ∧ (loadF 32 (.pointer (some ⟨g8, 0, none⟩))).run Try.prog w = .ok (.agg #[.int .i64 (hiW rt), .int .u64 (loW rt)]) w ∧ Mo w1 w :=
  ⟨by rw [blk_cell b]; exact sm_d _ _ _ _ _ _ _ _ _, run_loadF0 32 2 w g8 32 #[.int .i64 (hiW rt), .int .u64 (loW rt)], M⟩
attribute [local go_sem] blk_cell' blk_frozen' kf_flow kf_x sm_1 sm_2 sm_3 sm_4 sm_d sm_o sm_s
attribute [local go_sem ↓] loadF_flow loadF_samp storeF_samp buildF_samp loadF_wide'
attribute [local go_sem] run_loadFo run_loadFz run_loadF0 run_storeF0 run_build_samp
set_option maxRecDepth 20000 in
set_option maxHeartbeats 8000000 in
theorem sample_any (f : Array Value) (x a : Int) (p : Pk) (u : Value) (W : World) [zf : SzA f 36] [of : OneA f] (x0 : 0 ≤ x) (x1 : x ≤ 18446744073709551615) (ok : HdOk p.h) (ia : InW a) (hu : ∃ a1 c1 a2 c2, u = pkV p.h (.slice a1 p.e.length c1) (.slice a2 p.m.length c2)) :
    Calls Try.prog 31 #[.agg (kfC f x), u, WV a] W fun e w' => e = .returned (.agg (smpC f x p.h a)) ∧ Mo W w' := by
  obtain ⟨a1, c1, a2, c2, rfl⟩ := hu
  unfold smpC rootI
  obtain ⟨h, xs, mac⟩ := p
  simp only at ok ⊢
  generalize xs.length = n1
  generalize mac.length = n2
  have r0 := ok.r
  have q0 := ok.x
  have rd := ok.rd
  have rp := ok.rp
  have i1 : InW (unf x a) := unf_in x0 (by omega) ia
  have i2 : InW (unf h.r a) := unf_in r0.1 (by omega) ia
  have i3 : InW (unf h.x a) := unf_in q0.1 (by omega) ia
  have U1 := Lib.hid (fun w => unfold_any x a x0 (by omega) ia w)
  have U2 := Lib.hid (fun w => unfold_any h.r a r0.1 (by omega) ia w)
  have U3 := Lib.hid (fun w => unfold_any h.x a q0.1 (by omega) ia w)
  have O1 := Lib.hid (fun w => offset_any _ _ _ _ i1 i2 i3 ia w)
  have D1 := Lib.hid (fun w => delay_any _ _ _ _ i1 i2 i3 ia w)
  have db := clipO_bd (cl (cl (a - unf x a) - cl (unf h.x a - unf h.r a)))
  have db' : -9223372036854775808 ≤ delI (unf x a) (unf h.r a) (unf h.x a) a ∧ delI (unf x a) (unf h.r a) (unf h.x a) a ≤ 9223372036854775807 := db
  clear db
  have F1 := Lib.hid (fun w => of_any _ db'.1 db'.2 w)
  have ID : InW (delI (unf x a) (unf h.r a) (unf h.x a) a) := inW_i64 db'.1 db'.2
  have A1 := Lib.hid (fun w => abs_any _ ID w)
  generalize offI (unf x a) (unf h.r a) (unf h.x a) a = o at *
  generalize delI (unf x a) (unf h.r a) (unf h.x a) a = d at *
  have H1 := Lib.hid (fun w => half_any _ (inW_cl (absI d)) w)
  have S1 := Lib.hid (fun w => short_any h.rd rd.1 (by omega) w)
  have S2 := Lib.hid (fun w => short_any h.rp rp.1 (by omega) w)
  have e1 : (h.rd * 65536).tdiv 2 = h.rd * 65536 / 2 := Int.tdiv_eq_ediv_of_nonneg (by omega)
  have e2 : IntKind.i64.wrap (h.rd * 65536 / 2) = h.rd * 65536 / 2 := by rw [IntKind.wrap_i64]; omega
  have e3 : IntKind.i64.wrap (h.rd * 65536 / 2 + h.rp * 65536) = h.rd * 65536 / 2 + h.rp * 65536 := by rw [IntKind.wrap_i64]; omega
  have F2 := Lib.hid (fun w => of_any (h.rd * 65536 / 2 + h.rp * 65536) (by omega) (by omega) w)
  have IR : InW (h.rd * 65536 / 2 + h.rp * 65536) := inW_i64 (by omega) (by omega)
  have G1 := Lib.hid (fun w => add_any (cl (absI d) / 2) (h.rd * 65536 / 2 + h.rp * 65536) (inW_half (inW_cl _)) IR w)
  have K1 := Lib.hid (fun w => clip_any _ (inW_cl (cl (absI d) / 2 + (h.rd * 65536 / 2 + h.rp * 65536))) w)
  generalize hrt : h.rd * 65536 / 2 + h.rp * 65536 = rt at F2 IR G1 K1 ⊢
  rw [hrt] at e3
  have e4 : IntKind.i64.wrap (h.rd * 65536 / 2 + h.rp * 65536) = rt := by rw [hrt]; exact e3
  clear e3 hrt
  generalize clip (cl (cl (absI d) / 2 + rt)) = s at *
  generalize cl (cl (absI d) / 2 + rt) = s1 at *
  generalize cl (absI d) / 2 = s2 at *
  generalize cl (absI d) = s3 at *
  generalize unf x a = T1 at *
  generalize unf h.r a = T2 at *
  generalize unf h.x a = T3 at *
  clear ID IR db' i1 i2 i3 ia x0 x1 r0 q0 rd rp ok
  --@@ enter
  go_enter Try.func31, Try.ntmps31
  go_upto_region 1 with (fail)
  --@@ at1
  refine wp_name ?_
  intro w1 hw1
  have bk : Blk w1 W.heap.size 72 (kfC f x) := by rw [hw1]; infer_instance
  have bp : Blk w1 (W.heap.size + 1) 66 (pkL h (.slice a1 n1 c1) (.slice a2 n2 c2)).toArray := by rw [hw1]; infer_instance
  have bt : Blk w1 (W.heap.size + 1 + 1) 32 #[.int .i64 (hiW a), .int .u64 (loW a)] := by rw [hw1]; infer_instance
  have br : Blk w1 (W.heap.size + 1 + 1 + 1) 45 sm0 := by rw [hw1]; exact blk_sm0 inferInstance rfl
  have M1 : Mo W w1 := by rw [hw1]; exact Mor.out
  clear hw1
  go_cut [7] (fun s7 wx => ∃ g7, s7 = .pointer (some ⟨g7, 0, none⟩) ∧ w1.heap.size ≤ g7 ∧ Blk wx g7 45 (smC f T1 T2 T3 a 0 0 0 h.s) ∧ Mo w1 wx)
  case first =>
    go_region_held3 (fun w' => MoC w1 w') (first | exact ⟨Mor.out⟩ | exact ⟨mo_setRow Mor.out (Mo.size Mor.out) _⟩)
      (first
        | ((with_reducible refine (U1.out _).mono ?_)
           rintro e w9 ⟨rfl, M9⟩
           have iM9 : MoC _ w9 := ⟨M9⟩
           have iR9 : Mor w1 w9 := ⟨(Mor.out : Mo w1 _).trans M9⟩)
        | ((with_reducible refine (U2.out _).mono ?_)
           rintro e w9 ⟨rfl, M9⟩
           have iM9 : MoC _ w9 := ⟨M9⟩
           have iR9 : Mor w1 w9 := ⟨(Mor.out : Mo w1 _).trans M9⟩)
        | ((with_reducible refine (U3.out _).mono ?_)
           rintro e w9 ⟨rfl, M9⟩
           have iM9 : MoC _ w9 := ⟨M9⟩
           have iR9 : Mor w1 w9 := ⟨(Mor.out : Mo w1 _).trans M9⟩))
    --@@ held
    all_goals (
      go_wp2_with fail
      go_meet
      refine ⟨_, rfl, Mo.size Mor.out, ?_, ?_⟩
      · first
          | infer_instance
          | exact blk_setRow inferInstance
      · first
          | exact Mor.out
          | exact mo_setRow Mor.out (Mo.size Mor.out) _)
  --@@ cut1
  obtain ⟨g7, rfl, l7, b7, M2⟩ := hcut
  rename World => w2
  have bt2 := M2.blk bt
  have bp2 := M2.blk bp
  have br2 := M2.blk br
  have lw := M1.size
  have lp := br.lt
  have lt2 := br2.lt
  clear bk U1 U2 U3
  --@@ cut2
  go_upto_region 2 with (fail)
  have iR2 : Mor w1 w2 := ⟨M2⟩
  go_cut [38, 47] (fun s38 s47 wx => s38 = .int .i64 o ∧ s47 = .int .i64 d ∧ Blk wx g7 45 (smC f T1 T2 T3 a o d 0 h.s) ∧ Mo w1 wx)
  case first =>
    go_region_held3 (fun w' => (loadF 32 (.pointer (some ⟨g7, 36, none⟩))).run Try.prog w' = .ok (.agg #[.int .i64 (hiW T1), .int .u64 (loW T1)]) w' ∧ (loadF 32 (.pointer (some ⟨g7, 38, none⟩))).run Try.prog w' = .ok (.agg #[.int .i64 (hiW T2), .int .u64 (loW T2)]) w' ∧ (loadF 32 (.pointer (some ⟨g7, 40, none⟩))).run Try.prog w' = .ok (.agg #[.int .i64 (hiW T3), .int .u64 (loW T3)]) w' ∧ (loadF 32 (.pointer (some ⟨g7, 42, none⟩))).run Try.prog w' = .ok (.agg #[.int .i64 (hiW a), .int .u64 (loW a)]) w' ∧ Mo w1 w') (first | exact sm_hold Mor.out inferInstance | exact sm_hold (mo_setCell Mor.out l7 _ _) inferInstance | exact sm_hold (mo_setCell (mo_setCell Mor.out l7 _ _) l7 _ _) inferInstance)
      (first
        | ((with_reducible refine (O1.out _).mono ?_)
           rintro e w9 ⟨rfl, M9⟩
           have iM9 : MoC _ w9 := ⟨M9⟩
           have iR9 : Mor w1 w9 := ⟨(Mor.out : Mo w1 _).trans M9⟩)
        | ((with_reducible refine (D1.out _).mono ?_)
           rintro e w9 ⟨rfl, M9⟩
           have iM9 : MoC _ w9 := ⟨M9⟩
           have iR9 : Mor w1 w9 := ⟨(Mor.out : Mo w1 _).trans M9⟩)
)
    --@@ held2
    all_goals (
      go_wp2_with fail
      go_meet
      exact ⟨rfl, rfl, inferInstance, mo_setCell (mo_setCell Mor.out l7 _ _) l7 _ _⟩)
  --@@ cut2
  clear bt2 bp2 br2 lt2 b7 M2 iR2
  obtain ⟨rfl, rfl, b7, M3⟩ := hcut
  rename World => w3
  have bp3 := M3.blk bp
  go_upto_region 3 with (fail)
  have iR3 : Mor w1 w3 := ⟨M3⟩
  go_cut [8] (fun s8 wx => ∃ g8, s8 = .pointer (some ⟨g8, 0, none⟩) ∧ g8 ≠ g7 ∧ w1.heap.size ≤ g8 ∧ Blk wx g8 32 #[.int .i64 (hiW rt), .int .u64 (loW rt)] ∧ Blk wx g7 45 (smC f T1 T2 T3 a o d 0 h.s) ∧ Mo w1 wx)
  case first =>
    have l73 := b7.lt
    go_region_held3 (fun w' => MoC w3 w') (first | exact ⟨Mor.out⟩ | exact ⟨mo_setCell (mo_setCell Mor.out (Mo.size Mor.out) _ _) (Mo.size Mor.out) _ _⟩)
      (first
        | ((with_reducible refine (S1.out _).mono ?_)
           rintro e w9 ⟨rfl, M9⟩
           have iM9 : MoC _ w9 := ⟨M9⟩
           have iR9 : Mor w3 w9 := ⟨(Mor.out : Mo w3 _).trans M9⟩)
        | ((with_reducible refine (S2.out _).mono ?_)
           rintro e w9 ⟨rfl, M9⟩
           have iM9 : MoC _ w9 := ⟨M9⟩
           have iR9 : Mor w3 w9 := ⟨(Mor.out : Mo w3 _).trans M9⟩)
        | ((with_reducible refine (F2.out _).mono ?_)
           rintro e w9 ⟨rfl, M9⟩
           have iM9 : MoC _ w9 := ⟨M9⟩
           have iR9 : Mor w3 w9 := ⟨(Mor.out : Mo w3 _).trans M9⟩)
)
    --@@ held3
    all_goals (
      go_wp2_with fail
      go_meet
      refine ⟨_, rfl, ?_, ?_, ?_, ?_, ?_⟩
      · have q2 : ∀ v : World, Mor w3 v → g7 ≠ v.heap.size := fun v h => by have := h.out.size; omega
        exact Ne.symm (q2 _ inferInstance)
      · have q2 : ∀ v : World, Mor w3 v → w1.heap.size ≤ v.heap.size := fun v h => by have := h.out.size; have := M3.size; omega
        exact q2 _ inferInstance
      · first
          | infer_instance
          | exact blk_set2 inferInstance _ _
      · have q2 : ∀ v : World, Mor w3 v → v.heap.size ≠ g7 := fun v h => by have := h.out.size; omega
        first
          | infer_instance
          | exact blk_setCell_ne (blk_setCell_ne inferInstance (q2 _ inferInstance) _ _) (q2 _ inferInstance) _ _
      · have q2 : ∀ v : World, Mor w3 v → w1.heap.size ≤ v.heap.size := fun v h => by have := h.out.size; have := M3.size; omega
        first
          | exact M3.trans Mor.out
          | exact mo_setCell (mo_setCell (M3.trans Mor.out) (q2 _ inferInstance) _ _) (q2 _ inferInstance) _ _)
  --@@ cut3
  obtain ⟨g8, rfl, n87, l8, b8, b7', M4⟩ := hcut
  clear b7 bp3 M3 iR3
  rename World => w4
  have iR4 : Mor w1 w4 := ⟨M4⟩
  go_upto_region 4 with (fail)
  go_cut [68] (fun s68 wx => s68 = .int .i64 s ∧ Blk wx g7 45 (smC f T1 T2 T3 a o d s h.s) ∧ Mo w1 wx)
  case first =>
    go_region_held3 (fun w' => w'.cell? ⟨g7, 45, none⟩ = some (.int .i64 d) ∧ (loadF 32 (.pointer (some ⟨g8, 0, none⟩))).run Try.prog w' = .ok (.agg #[.int .i64 (hiW rt), .int .u64 (loW rt)]) w' ∧ Mo w1 w') (first | exact sm_hold4 Mor.out inferInstance inferInstance | exact sm_hold4 (mo_setCell Mor.out l7 _ _) inferInstance (blk_setCell_ne inferInstance (Ne.symm n87) _ _))
      (first
        | ((with_reducible refine (F1.out _).mono ?_)
           rintro e w9 ⟨rfl, M9⟩
           have iM9 : MoC _ w9 := ⟨M9⟩
           have iR9 : Mor w1 w9 := ⟨(Mor.out : Mo w1 _).trans M9⟩)
        | ((with_reducible refine (A1.out _).mono ?_)
           rintro e w9 ⟨rfl, M9⟩
           have iM9 : MoC _ w9 := ⟨M9⟩
           have iR9 : Mor w1 w9 := ⟨(Mor.out : Mo w1 _).trans M9⟩)
        | ((with_reducible refine (H1.out _).mono ?_)
           rintro e w9 ⟨rfl, M9⟩
           have iM9 : MoC _ w9 := ⟨M9⟩
           have iR9 : Mor w1 w9 := ⟨(Mor.out : Mo w1 _).trans M9⟩)
        | ((with_reducible refine (G1.out _).mono ?_)
           rintro e w9 ⟨rfl, M9⟩
           have iM9 : MoC _ w9 := ⟨M9⟩
           have iR9 : Mor w1 w9 := ⟨(Mor.out : Mo w1 _).trans M9⟩)
        | ((with_reducible refine (K1.out _).mono ?_)
           rintro e w9 ⟨rfl, M9⟩
           have iM9 : MoC _ w9 := ⟨M9⟩
           have iR9 : Mor w1 w9 := ⟨(Mor.out : Mo w1 _).trans M9⟩)
)
    --@@ held4
    all_goals (
      go_wp2_with fail
      go_meet
      exact ⟨rfl, inferInstance, mo_setCell Mor.out l7 _ _⟩)
  --@@ cut4
  obtain ⟨rfl, b7, M5⟩ := hcut
  rename World => w5
  have br5 := M5.blk br
  have M5' := M1.trans M5
  clear b7' b8 M4 iR4
  go_wp2_with fail
  exact ret_c1 rfl (W.heap.size + 1 + 1 + 1) (smC f T1 T2 T3 a o d s h.s) rfl rfl (z := inferInstance) (blk_setRow br5) ⟨rfl, mo_setRow M5' (by omega) _⟩
end Go.Proofs.Ytcflebggepmmcaa
/- match.Take: what becomes of a datagram. -/
namespace Go.Proofs.Ytcflebggepmmcaa
open Go.RowKit

abbrev wdC (x : Int) : Array Value := #[.int .i64 (hiW x), .int .u64 (loW x)]
/-- the number of a wide number's cells -/
def wI (a : Array Value) : Int := match a.toList with
  | [.int _ h, .int _ l] => h * 18446744073709551616 + l
  | _ => 0
set_option maxRecDepth 20000 in
theorem wI_wd (x : Int) : wI (wdC x) = x := hilo x
set_option maxRecDepth 20000 in
theorem wd_fits {a : Array Value} (h : Fits (ksOf 32) a.toList) : a = wdC (wI a) ∧ InW (wI a) := by
  have e : ksOf 32 = [.i .i64, .i .u64] := by kernel_rfl
  rw [e] at h
  obtain ⟨l⟩ := a
  match l, h with
  | [.int k x, .int q y], h =>
    obtain ⟨⟨rfl, h1⟩, ⟨rfl, h2⟩, -⟩ := h
    have b1 : -9223372036854775808 ≤ x ∧ x ≤ 9223372036854775807 := by
      simp only [Lit.wf] at h1
      have := h1
      simp at this
      exact this
    have b2 : 0 ≤ y ∧ y ≤ 18446744073709551615 := by
      simp only [Lit.wf] at h2
      have := h2
      simp at this
      exact this
    have i := inW_mk x y b2.1 (by omega) b1.1 b1.2
    refine ⟨?_, i⟩
    show _ = #[Value.int .i64 (hiW (x * 18446744073709551616 + y)), Value.int .u64 (loW (x * 18446744073709551616 + y))]
    rw [hi_mk x y b2.1 (by omega), lo_mk x y b2.1 (by omega)]
/-- what becomes of a datagram -/
noncomputable def clsM (win : Int) (E : List En) (d : Dg) : Int :=
  if (classP d.bs).2 = 1 then (if hasE E (keyC d (classP d.bs).1.h) = true then 2 else 1)
  else if (classP d.bs).2 = 4 then
    match findE E (keyC d (classP d.bs).1.h) with
    | none => 7
    | some e => if e.d = true then 6 else if insB win (wI e.a) (wI d.at_) = true then 4 else 5
  else (classP d.bs).2
/-- what is kept behind it -/
noncomputable def entM (room : Int) (E : List En) (d : Dg) : List En :=
  if (classP d.bs).2 = 1 then (askE room E (keyC d (classP d.bs).1.h) d.at_).2.2
  else if (classP d.bs).2 = 4 then ansE E (keyC d (classP d.bs).1.h) else E
/-- its sample -/
noncomputable def smM (win : Int) (E : List En) (d : Dg) : Array Value :=
  if clsM win E d = 4 then smpC (d.dst ++ d.src) (classP d.bs).1.h.o (classP d.bs).1.h (wI d.at_) else sm0
def upC (c : Nat → Int) (q : Int) : Nat → Int := fun i => if (i : Int) = q then c i + 1 else c i
set_option maxRecDepth 20000 in
theorem kindP_cases (h : Hd) : kindP h = 3 ∨ kindP h = 1 ∨ kindP h = 4 ∨ kindP h = 8 := by
  unfold kindP
  (repeat' split) <;> simp
set_option maxRecDepth 20000 in
theorem kindP_4 {h : Hd} (e : kindP h = 4) : h.m = 4 := by
  unfold kindP at e
  (repeat' split at e) <;> first | assumption | (exact absurd e (by decide))
set_option maxRecDepth 20000 in
theorem kindP_1 {h : Hd} (e : kindP h = 1) : h.m = 3 := by
  unfold kindP at e
  (repeat' split at e) <;> first | assumption | (exact absurd e (by decide))
set_option maxRecDepth 20000 in
theorem classP_rng (bs : List Int) : (classP bs).2 = 0 ∨ (classP bs).2 = 1 ∨ (classP bs).2 = 3 ∨ (classP bs).2 = 4 ∨ (classP bs).2 = 8 := by
  unfold classP
  split
  · rcases kindP_cases (takeP bs).1.h with e | e | e | e <;> simp [e]
  · simp
set_option maxRecDepth 20000 in
theorem classP_4 {bs : List Int} (e : (classP bs).2 = 4) : (classP bs).1.h.m = 4 := by
  unfold classP at e ⊢
  split at e
  · rename_i c; rw [if_pos c]; exact kindP_4 e
  · exact absurd e (by decide)
set_option maxRecDepth 20000 in
theorem classP_1 {bs : List Int} (e : (classP bs).2 = 1) : (classP bs).1.h.m = 3 := by
  unfold classP at e ⊢
  split at e
  · rename_i c; rw [if_pos c]; exact kindP_1 e
  · exact absurd e (by decide)
set_option maxRecDepth 20000 in
theorem clsM_rng (win : Int) (E : List En) (d : Dg) : 0 ≤ clsM win E d ∧ clsM win E d ≤ 8 := by
  unfold clsM
  rcases classP_rng d.bs with e | e | e | e | e <;> rw [e]
  · simp
  · simp; split <;> simp
  · simp
  · simp
    split
    · simp
    · split
      · simp
      · split <;> simp
  · simp
set_option maxRecDepth 20000 in
theorem mt_get (T : Nat) (win : Int) (c : Nat → Int) (q : Int) (h0 : 0 ≤ q) (h1 : q ≤ 8) : (mtC T win c)[2 + q.toNat]? = some (.int .i64 (c q.toNat)) := by
  obtain ⟨n, rfl⟩ := Int.eq_ofNat_of_zero_le h0
  have : n ≤ 8 := by omega
  rw [Int.toNat_natCast]
  rcases n with _ | _ | _ | _ | _ | _ | _ | _ | _ | n
  all_goals first | rfl | omega
set_option maxRecDepth 20000 in
theorem mt_set (T : Nat) (win : Int) (c : Nat → Int) (q : Int) (h0 : 0 ≤ q) (h1 : q ≤ 8) : (mtC T win c).setIfInBounds (2 + q.toNat) (.int .i64 (c q.toNat + 1)) = mtC T win (upC c q) := by
  obtain ⟨n, rfl⟩ := Int.eq_ofNat_of_zero_le h0
  have : n ≤ 8 := by omega
  rw [Int.toNat_natCast]
  rcases n with _ | _ | _ | _ | _ | _ | _ | _ | _ | n
  all_goals first | omega | (unfold upC; simp)
end Go.Proofs.Ytcflebggepmmcaa
