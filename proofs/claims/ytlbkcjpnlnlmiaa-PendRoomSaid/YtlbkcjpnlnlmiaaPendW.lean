/- horologelaw29.key, works (printed by gen/genpendw.py). -/
import Derived.Test.YtlbkcjpnlnlmiaaPendF
namespace Go.Proofs.Ytlbkcjpnlnlmiaa
open Go.RowKit Go.Maps

def kyN (n : Int) : Array Value := #[.bool false, .int .u8 0, .int .u8 0, .int .u8 0, .int .u8 0, .int .u8 0, .int .u8 0, .int .u8 0, .int .u8 0, .int .u8 0, .int .u8 0, .int .u8 0, .int .u8 0, .int .u8 0, .int .u8 0, .int .u8 0, .int .u8 0, .int .u16 0, .bool false, .int .u8 0, .int .u8 0, .int .u8 0, .int .u8 0, .int .u8 0, .int .u8 0, .int .u8 0, .int .u8 0, .int .u8 0, .int .u8 0, .int .u8 0, .int .u8 0, .int .u8 0, .int .u8 0, .int .u8 0, .int .u8 0, .int .u16 0, .int .u64 n]
def wdN (n : Int) : Array Value := #[.int .i64 0, .int .u64 n]
set_option maxRecDepth 20000 in
instance (n : Int) : SzA (kyN n) 37 := ⟨rfl⟩
set_option maxRecDepth 20000 in
instance (n : Int) : SzA (wdN n) 2 := ⟨rfl⟩
set_option maxRecDepth 20000 in
instance (n : Int) : OneA (kyN n) := ⟨by kernel_rfl⟩
set_option maxRecDepth 20000 in
instance (n : Int) : OneA (wdN n) := ⟨by kernel_rfl⟩
set_option maxRecDepth 20000 in
theorem fit_u64 (n : Int) (h : 0 ≤ n ∧ n ≤ 18446744073709551615) : CK.fits (.i .u64) (.int .u64 n) := ⟨rfl, by simp [Lit.wf, IntKind.min, IntKind.max, IntKind.signed, IntKind.bits, h.1, h.2]⟩
set_option maxRecDepth 20000 in
theorem ks_key' : ksOf 38 = (.b :: (List.replicate 16 (.i .u8) ++ [.i .u16])) ++ ((.b :: (List.replicate 16 (.i .u8) ++ [.i .u16])) ++ [.i .u64]) := by kernel_rfl
set_option maxRecDepth 20000 in
theorem keyP_n (n : Int) (h : 0 ≤ n ∧ n ≤ 18446744073709551615) : KeyP (kyN n) := by
  unfold KeyP
  rw [ks_key']
  exact ⟨trivial, ⟨rfl, rfl⟩, ⟨rfl, rfl⟩, ⟨rfl, rfl⟩, ⟨rfl, rfl⟩, ⟨rfl, rfl⟩, ⟨rfl, rfl⟩, ⟨rfl, rfl⟩, ⟨rfl, rfl⟩, ⟨rfl, rfl⟩, ⟨rfl, rfl⟩, ⟨rfl, rfl⟩, ⟨rfl, rfl⟩, ⟨rfl, rfl⟩, ⟨rfl, rfl⟩, ⟨rfl, rfl⟩, ⟨rfl, rfl⟩, ⟨rfl, rfl⟩, trivial, ⟨rfl, rfl⟩, ⟨rfl, rfl⟩, ⟨rfl, rfl⟩, ⟨rfl, rfl⟩, ⟨rfl, rfl⟩, ⟨rfl, rfl⟩, ⟨rfl, rfl⟩, ⟨rfl, rfl⟩, ⟨rfl, rfl⟩, ⟨rfl, rfl⟩, ⟨rfl, rfl⟩, ⟨rfl, rfl⟩, ⟨rfl, rfl⟩, ⟨rfl, rfl⟩, ⟨rfl, rfl⟩, ⟨rfl, rfl⟩, ⟨rfl, rfl⟩, fit_u64 n h, trivial⟩
set_option maxRecDepth 20000 in
theorem fits_wdN (n : Int) (h : 0 ≤ n ∧ n ≤ 18446744073709551615) : Fits (ksOf 40) (wdN n).toList := by
  have e : ksOf 40 = [.i .i64, .i .u64] := by kernel_rfl
  rw [e]
  exact ⟨⟨rfl, rfl⟩, fit_u64 n h, trivial⟩
set_option maxRecDepth 20000 in
theorem kyN_ne {m n : Int} (h : m ≠ n) : eqA (kyN m) (kyN n) = false := by
  rw [Bool.eq_false_iff]
  intro c
  have := congrArg (fun a => a[36]?) (eqA_iff.1 c)
  simp only [kyN] at this
  simp at this
  exact h this
set_option maxRecDepth 20000 in
theorem run_eqlF_same {T : TypeId} {n : Nat} (h : FlatT T n) {xs : Array Value} (hx : Fits (ksOf T) xs.toList) (w : World) : (eqlF T (.agg xs) (.agg xs)).run Try.prog w = .ok (.bool true) w := by
  have := run_eql_flat h w hx hx
  rwa [eqA_self] at this
set_option maxRecDepth 20000 in
theorem storeF_key' (v x : Value) : Instr.storeAt 38 v x = storeF 38 v x := rfl
set_option maxRecDepth 20000 in
theorem buildF_key' (l : Array (Nat × Value)) : Instr.build 38 l = buildF 38 l := rfl
set_option maxRecDepth 20000 in
theorem buildF_wide' (l : Array (Nat × Value)) : Instr.build 40 l = buildF 40 l := rfl
set_option maxRecDepth 20000 in
theorem run_build_kyN (n : Int) (w : World) : (buildF 38 #[(1, .int .u64 n)]).run Try.prog w = .ok (.agg (kyN n)) w := run_build w _ _ _ (by kernel_rfl)
set_option maxRecDepth 20000 in
theorem run_build_wdN (n : Int) (w : World) : (buildF 40 #[(1, .int .u64 n)]).run Try.prog w = .ok (.agg (wdN n)) w := run_build w _ _ _ (by kernel_rfl)
set_option maxRecDepth 20000 in
theorem results_c1 {fn : Func} {p : Tmp} {ty : TypeId} (h : fn.results = #[.cell p ty]) (tmps : Array Value) (P : Program) (w : World) :
    (results fn tmps).run P w = ((asAddr (tmps.getD p undef)).run P w).andThen fun a w₁ => (loadVar ty a).run P w₁ := by
  simp only [results, h]
  simp [Sem.run_bind, Result.andThen]
set_option maxRecDepth 20000 in
theorem ret_c1 {fn : Func} {p : Tmp} {T : TypeId} {R : Ending → World → Prop} {a : Act} {w : World} (hr : fn.results = #[.cell p T]) (g : Nat) (cs : Array Value) (hp : a.tmps.getD p undef = .pointer (some ⟨g, 0, none⟩)) (hd : a.defers = []) {n : Nat} [h : RowT T n] [z : SzA cs n] (b : Blk w g T cs)
    (hR : R (.returned (.agg cs)) w) : bodyPost Try.prog fn R .ret a w :=
  bodyPost_ret (v := .agg cs) (by
    rw [results_c1 hr, hp]
    have e : (asAddr (.pointer (some ⟨g, 0, none⟩))).run Try.prog w = .ok (⟨g, 0, none⟩ : Addr) w := rfl
    rw [e, Result.andThen_ok, loadVar_flat T b z.out]) hd hR
attribute [local go_sem] blk_cell' blk_frozen' nd_old nd_new nd_ans nd_key nd_en
attribute [local go_sem ↓] loadF_key loadF_entry storeF_entry buildF_entry storeF_key' buildF_key' buildF_wide'
attribute [local go_sem] run_loadFo run_loadFz run_loadF0 run_storeF0 run_build_kyN run_build_wdN
set_option maxRecDepth 20000 in
set_option maxHeartbeats 4000000 in
theorem key29_any (n : Int) (W : World) : Calls Try.prog 15 #[.int .u64 n] W fun e w' => e = .returned (.agg (kyN n)) ∧ Mo W w' := by
  go_enter Try.func15, Try.ntmps15
  go_wp2_with fail
  refine ret_c1 Try.results15 W.heap.size (kyN n) rfl rfl inferInstance ?_
  exact ⟨rfl, Mor.out⟩
set_option maxRecDepth 20000 in
theorem new_in (k : Int) (h : 1 ≤ k ∧ k ≤ 65536) (W : World) : Calls Try.prog 8 #[.int .i64 k] W fun e w' => ∃ T B, e = .returned (.tuple #[ptr T, .int .i64 0]) ∧ TabE w' T B k [] (fun i => W.heap.size ≤ i) ∧ Mo W w' := by
  refine (new_e k W).mono ?_
  rintro e w' ⟨M, ⟨-, -, T, B, e1, t⟩ | ⟨c, -⟩⟩
  · exact ⟨T, B, e1, t, M⟩
  · exact absurd h c
set_option maxRecDepth 20000 in
theorem new_out (k : Int) (h : ¬ (1 ≤ k ∧ k ≤ 65536)) (W : World) : Calls Try.prog 8 #[.int .i64 k] W fun e w' => e = .returned (.tuple #[nilp, .int .i64 2]) ∧ Mo W w' := by
  refine (new_e k W).mono ?_
  rintro e w' ⟨M, ⟨c1, c2, -⟩ | ⟨-, e1⟩⟩
  · exact absurd ⟨c1, c2⟩ h
  · exact ⟨e1, M⟩
set_option maxRecDepth 20000 in
theorem eqlF_key' (x y : Value) : binOp .eql 38 x y = eqlF 38 x y := rfl
set_option maxRecDepth 20000 in
theorem en_key (k a : Array Value) (d : Bool) [hk : SzA k 37] : (enC k a d).extract 0 37 = k := by
  unfold enC
  rw [Array.append_assoc]
  exact ext_left _ _ _ hk.out
set_option maxRecDepth 20000 in
theorem en_lo3 : (enC (kyN 1) (wdN 3) false)[38]? = some (.int .u64 3) := by kernel_rfl
attribute [local go_sem ↓] eqlF_key'
attribute [local go_sem] en_key en_lo3
set_option maxRecDepth 20000 in
theorem ev1 : askE 2 [] (kyN 1) (wdN 1) = (false, none, [⟨kyN 1, wdN 1, false⟩]) := by simp [askE, strike, hasE]
set_option maxRecDepth 20000 in
theorem ev2 : askE 2 [⟨kyN 1, wdN 1, false⟩] (kyN 2) (wdN 2) = (false, none, [⟨kyN 1, wdN 1, false⟩, ⟨kyN 2, wdN 2, false⟩]) := by simp [askE, strike, hasE, kyN_ne (show (1 : Int) ≠ 2 by decide)]
set_option maxRecDepth 20000 in
theorem ev3 : askE 2 [⟨kyN 1, wdN 1, false⟩, ⟨kyN 2, wdN 2, false⟩] (kyN 1) (wdN 3) = (true, none, [⟨kyN 2, wdN 2, false⟩, ⟨kyN 1, wdN 3, false⟩]) := by simp [askE, strike, hasE, kyN_ne (show (2 : Int) ≠ 1 by decide), eqA_self]
set_option maxRecDepth 20000 in
theorem ev4 : askE 2 [⟨kyN 2, wdN 2, false⟩, ⟨kyN 1, wdN 3, false⟩] (kyN 3) (wdN 4) = (false, some ⟨kyN 2, wdN 2, false⟩, [⟨kyN 1, wdN 3, false⟩, ⟨kyN 3, wdN 4, false⟩]) := by simp [askE, strike, hasE, kyN_ne (show (2 : Int) ≠ 3 by decide), kyN_ne (show (1 : Int) ≠ 3 by decide)]
set_option maxRecDepth 20000 in
theorem ev5 : ansV [⟨kyN 1, wdN 3, false⟩, ⟨kyN 3, wdN 4, false⟩] (kyN 1) = (.agg (enC (kyN 1) (wdN 3) false), 4) ∧ ansE [⟨kyN 1, wdN 3, false⟩, ⟨kyN 3, wdN 4, false⟩] (kyN 1) = [⟨kyN 1, wdN 3, true⟩, ⟨kyN 3, wdN 4, false⟩] := by simp [ansV, ansE, findE, eqA_self, kyN_ne (show (3 : Int) ≠ 1 by decide)]
set_option maxRecDepth 20000 in
theorem ev6 : ansV [⟨kyN 1, wdN 3, true⟩, ⟨kyN 3, wdN 4, false⟩] (kyN 1) = (.agg (enC (kyN 1) (wdN 3) true), 6) ∧ ansE [⟨kyN 1, wdN 3, true⟩, ⟨kyN 3, wdN 4, false⟩] (kyN 1) = [⟨kyN 1, wdN 3, true⟩, ⟨kyN 3, wdN 4, false⟩] := by simp [ansV, ansE, findE, eqA_self, kyN_ne (show (3 : Int) ≠ 1 by decide)]
set_option maxRecDepth 20000 in
theorem ev7 : ansV [⟨kyN 1, wdN 3, true⟩, ⟨kyN 3, wdN 4, false⟩] (kyN 2) = (.agg (enC (kyN 2) wdz false), 7) ∧ ansE [⟨kyN 1, wdN 3, true⟩, ⟨kyN 3, wdN 4, false⟩] (kyN 2) = [⟨kyN 1, wdN 3, true⟩, ⟨kyN 3, wdN 4, false⟩] := by simp [ansV, ansE, findE, kyN_ne (show (3 : Int) ≠ 2 by decide), kyN_ne (show (1 : Int) ≠ 2 by decide)]
set_option maxRecDepth 20000 in
set_option maxHeartbeats 16000000 in
theorem works29_any (W : World) : Calls Try.prog 7 #[] W fun e w' => e = .returned (.bool true) ∧ Mo W w' := by
  go_enter Try.func7, Try.ntmps7
  go_wp2_with fail
  refine (new_in 2 (by decide) _).mono ?_
  rintro e w4 ⟨T, B, rfl, T4, M4⟩
  replace T4 := Lib.hid T4
  go_wp2_with fail
  refine (key29_any 1 _).mono ?_
  rintro e u4 ⟨rfl, U4⟩
  have TU4 := Lib.hid (T4.out.mo ((Mor.out : Mo w4 _).trans U4))
  have MU4 := M4.trans ((Mor.out : Mo w4 _).trans U4)
  clear U4 T4 M4
  go_wp2_with fail
  refine (ask_e T B 2 [] (fun i => W.heap.size ≤ i) (kyN 1) (wdN 1) _ (TU4.out.mo Mor.out) (keyP_n _ (by decide)) (fits_wdN _ (by decide)) (by decide)).mono ?_
  rintro e v4 ⟨r, hr, rfl, TV, KV⟩
  rw [ev1] at hr
  subst hr
  have MV4 : Mo W v4 := KV.mo (MU4.trans Mor.out) (fun i _ h => h)
  replace TV := Lib.hid (TV.weak (Q := fun i => W.heap.size ≤ i) fun i _ h => by rcases h with h | h; exact h; exact Nat.le_trans (MU4.trans (Mor.out : Mo u4 _)).size h)
  clear KV MU4 TU4
  simp only [outV, Option.isSome]
  go_upto_region 5 with (fail)
  refine wp_name ?_
  intro w5 hw
  have M5 : Mo W w5 := by rw [hw]; exact MV4.trans Mor.out
  have T5 : Hid (TabE w5 T B 2 [⟨kyN 1, wdN 1, false⟩] (fun i => W.heap.size ≤ i)) := Lib.hid (by rw [hw]; exact TV.out.mo Mor.out)
  clear hw MV4 TV
  go_wp2_with fail
  refine (key29_any 2 _).mono ?_
  rintro e u5 ⟨rfl, U5⟩
  have TU5 := Lib.hid (T5.out.mo ((Mor.out : Mo w5 _).trans U5))
  have MU5 := M5.trans ((Mor.out : Mo w5 _).trans U5)
  clear U5 T5 M5
  go_wp2_with fail
  refine (ask_e T B 2 [⟨kyN 1, wdN 1, false⟩] (fun i => W.heap.size ≤ i) (kyN 2) (wdN 2) _ (TU5.out.mo Mor.out) (keyP_n _ (by decide)) (fits_wdN _ (by decide)) (by decide)).mono ?_
  rintro e v5 ⟨r, hr, rfl, TV, KV⟩
  rw [ev2] at hr
  subst hr
  have MV5 : Mo W v5 := KV.mo (MU5.trans Mor.out) (fun i _ h => h)
  replace TV := Lib.hid (TV.weak (Q := fun i => W.heap.size ≤ i) fun i _ h => by rcases h with h | h; exact h; exact Nat.le_trans (MU5.trans (Mor.out : Mo u5 _)).size h)
  clear KV MU5 TU5
  simp only [outV, Option.isSome]
  go_upto_region 6 with (fail)
  refine wp_name ?_
  intro w6 hw
  have M6 : Mo W w6 := by rw [hw]; exact MV5.trans Mor.out
  have T6 : Hid (TabE w6 T B 2 [⟨kyN 1, wdN 1, false⟩, ⟨kyN 2, wdN 2, false⟩] (fun i => W.heap.size ≤ i)) := Lib.hid (by rw [hw]; exact TV.out.mo Mor.out)
  clear hw MV5 TV
  go_wp2_with fail
  refine (key29_any 1 _).mono ?_
  rintro e u6 ⟨rfl, U6⟩
  have TU6 := Lib.hid (T6.out.mo ((Mor.out : Mo w6 _).trans U6))
  have MU6 := M6.trans ((Mor.out : Mo w6 _).trans U6)
  clear U6 T6 M6
  go_wp2_with fail
  refine (ask_e T B 2 [⟨kyN 1, wdN 1, false⟩, ⟨kyN 2, wdN 2, false⟩] (fun i => W.heap.size ≤ i) (kyN 1) (wdN 3) _ (TU6.out.mo Mor.out) (keyP_n _ (by decide)) (fits_wdN _ (by decide)) (by decide)).mono ?_
  rintro e v6 ⟨r, hr, rfl, TV, KV⟩
  rw [ev3] at hr
  subst hr
  have MV6 : Mo W v6 := KV.mo (MU6.trans Mor.out) (fun i _ h => h)
  replace TV := Lib.hid (TV.weak (Q := fun i => W.heap.size ≤ i) fun i _ h => by rcases h with h | h; exact h; exact Nat.le_trans (MU6.trans (Mor.out : Mo u6 _)).size h)
  clear KV MU6 TU6
  simp only [outV, Option.isSome]
  go_upto_region 7 with (fail)
  refine wp_name ?_
  intro w7 hw
  have M7 : Mo W w7 := by rw [hw]; exact MV6.trans Mor.out
  have T7 : Hid (TabE w7 T B 2 [⟨kyN 2, wdN 2, false⟩, ⟨kyN 1, wdN 3, false⟩] (fun i => W.heap.size ≤ i)) := Lib.hid (by rw [hw]; exact TV.out.mo Mor.out)
  clear hw MV6 TV
  go_wp2_with fail
  refine (key29_any 3 _).mono ?_
  rintro e u7 ⟨rfl, U7⟩
  have TU7 := Lib.hid (T7.out.mo ((Mor.out : Mo w7 _).trans U7))
  have MU7 := M7.trans ((Mor.out : Mo w7 _).trans U7)
  clear U7 T7 M7
  go_wp2_with fail
  refine (ask_e T B 2 [⟨kyN 2, wdN 2, false⟩, ⟨kyN 1, wdN 3, false⟩] (fun i => W.heap.size ≤ i) (kyN 3) (wdN 4) _ (TU7.out.mo Mor.out) (keyP_n _ (by decide)) (fits_wdN _ (by decide)) (by decide)).mono ?_
  rintro e v7 ⟨r, hr, rfl, TV, KV⟩
  rw [ev4] at hr
  subst hr
  have MV7 : Mo W v7 := KV.mo (MU7.trans Mor.out) (fun i _ h => h)
  replace TV := Lib.hid (TV.weak (Q := fun i => W.heap.size ≤ i) fun i _ h => by rcases h with h | h; exact h; exact Nat.le_trans (MU7.trans (Mor.out : Mo u7 _)).size h)
  clear KV MU7 TU7
  simp only [outV, Option.isSome]
  go_upto_region 8 with (fail)
  refine wp_name ?_
  intro w8 hw
  have M8 : Mo W w8 := by rw [hw]; exact MV7.trans Mor.out
  have T8 : Hid (TabE w8 T B 2 [⟨kyN 1, wdN 3, false⟩, ⟨kyN 3, wdN 4, false⟩] (fun i => W.heap.size ≤ i)) := Lib.hid (by rw [hw]; exact TV.out.mo Mor.out)
  have x8 : Blk w8 v7.heap.size 45 (enC (kyN 2) (wdN 2) false) := by rw [hw]; infer_instance
  have TV7 : Hid (TabE w8 T B 2 [⟨kyN 1, wdN 3, false⟩, ⟨kyN 3, wdN 4, false⟩] (fun i => W.heap.size ≤ i ∧ i < v7.heap.size)) := Lib.hid (by rw [hw]; exact (TV.out.weak (Q := fun i => W.heap.size ≤ i ∧ i < v7.heap.size) fun i h1 h2 => ⟨h2, by omega⟩).mo Mor.out)
  have S8 : v7.heap.size ≤ w8.heap.size := by have := x8.lt; omega
  clear hw MV7 TV

  obtain ⟨P7, hP7⟩ : ∃ P : Nat → Prop, P = fun i => W.heap.size ≤ i ∧ i < v7.heap.size := ⟨_, rfl⟩
  rw [← hP7] at TV7
  have PW : ∀ i, P7 i → W.heap.size ≤ i := fun i h => by rw [hP7] at h; exact h.1
  have P13 : ∀ i, v7.heap.size ≤ i → ¬ P7 i := fun i h c => by rw [hP7] at c; have := c.2; omega
  clear hP7 T8
  replace T8 := TV7
  clear TV7
  go_wp2_with fail
  refine (key29_any 1 _).mono ?_
  rintro e u8 ⟨rfl, U8⟩
  have TU8 := Lib.hid (T8.out.mo ((Mor.out : Mo w8 _).trans U8))
  have MU8 := M8.trans ((Mor.out : Mo w8 _).trans U8)
  have SU8 := ((Mor.out : Mo w8 _).trans U8).size
  have xu : Blk u8 v7.heap.size 45 (enC (kyN 2) (wdN 2) false) := ((Mor.out : Mo w8 _).trans U8).blk x8
  clear U8 T8 M8
  go_wp2_with fail
  refine (answer_e T B 2 [⟨kyN 1, wdN 3, false⟩, ⟨kyN 3, wdN 4, false⟩] P7 (kyN 1) _ (TU8.out.mo Mor.out) (keyP_n _ (by decide))).mono ?_
  rintro e v8 ⟨r, hr, rfl, TV, KV⟩
  rw [ev5.1] at hr
  rw [ev5.2] at TV
  subst hr
  have MV8 : Mo W v8 := KV.mo (MU8.trans Mor.out) (fun i _ h => PW i h)
  replace KV := (KpS.of_mo (S := P7) (Mor.out : Mo u8 _)).trans KV fun _ _ q => q
  have SV8 := KV.size
  have xv : Blk v8 v7.heap.size 45 (enC (kyN 2) (wdN 2) false) := KV.blk xu (P13 _ (by omega))
  replace TV := Lib.hid TV
  clear KV MU8 TU8
  go_upto_region 9 with (fail)
  refine wp_name ?_
  intro w9 hw
  have M9 : Mo W w9 := by rw [hw]; exact MV8.trans Mor.out
  have S9 : v8.heap.size ≤ w9.heap.size := by rw [hw]; exact (Mor.out : Mo v8 _).size
  have T9 : Hid (TabE w9 T B 2 [⟨kyN 1, wdN 3, true⟩, ⟨kyN 3, wdN 4, false⟩] P7) := Lib.hid (by rw [hw]; exact TV.out.mo Mor.out)
  have x9 : Blk w9 v7.heap.size 45 (enC (kyN 2) (wdN 2) false) := by rw [hw]; infer_instance
  have y9 : Blk w9 v8.heap.size 45 (enC (kyN 1) (wdN 3) false) := by rw [hw]; infer_instance
  clear hw MV8 TV xv xu x8
  have B15 : v7.heap.size ≤ v8.heap.size := by omega
  go_wp2_with fail
  refine (key29_any 1 _).mono ?_
  rintro e u9 ⟨rfl, U9⟩
  have TU9 := Lib.hid (T9.out.mo ((Mor.out : Mo w9 _).trans U9))
  have MU9 := M9.trans ((Mor.out : Mo w9 _).trans U9)
  have SU9 := ((Mor.out : Mo w9 _).trans U9).size
  have xu : Blk u9 v7.heap.size 45 (enC (kyN 2) (wdN 2) false) := ((Mor.out : Mo w9 _).trans U9).blk x9
  have yu : Blk u9 v8.heap.size 45 (enC (kyN 1) (wdN 3) false) := ((Mor.out : Mo w9 _).trans U9).blk y9
  clear U9 T9 M9
  go_wp2_with fail
  refine (answer_e T B 2 [⟨kyN 1, wdN 3, true⟩, ⟨kyN 3, wdN 4, false⟩] P7 (kyN 1) _ (TU9.out.mo Mor.out) (keyP_n _ (by decide))).mono ?_
  rintro e v9 ⟨r, hr, rfl, TV, KV⟩
  rw [ev6.1] at hr
  rw [ev6.2] at TV
  subst hr
  have MV9 : Mo W v9 := KV.mo (MU9.trans Mor.out) (fun i _ h => PW i h)
  replace KV := (KpS.of_mo (S := P7) (Mor.out : Mo u9 _)).trans KV fun _ _ q => q
  have SV9 := KV.size
  have xv : Blk v9 v7.heap.size 45 (enC (kyN 2) (wdN 2) false) := KV.blk xu (P13 _ (by omega))
  have yv : Blk v9 v8.heap.size 45 (enC (kyN 1) (wdN 3) false) := KV.blk yu (P13 _ (by omega))
  replace TV := Lib.hid TV
  clear KV MU9 TU9
  go_upto_region 10 with (fail)
  refine wp_name ?_
  intro w10 hw
  have M10 : Mo W w10 := by rw [hw]; exact MV9.trans Mor.out
  have S10 : v9.heap.size ≤ w10.heap.size := by rw [hw]; exact (Mor.out : Mo v9 _).size
  have T10 : Hid (TabE w10 T B 2 [⟨kyN 1, wdN 3, true⟩, ⟨kyN 3, wdN 4, false⟩] P7) := Lib.hid (by rw [hw]; exact TV.out.mo Mor.out)
  have x10 : Blk w10 v7.heap.size 45 (enC (kyN 2) (wdN 2) false) := by rw [hw]; infer_instance
  have y10 : Blk w10 v8.heap.size 45 (enC (kyN 1) (wdN 3) false) := by rw [hw]; infer_instance
  clear hw MV9 TV xv xu x9 yv yu y9
  go_wp2_with fail
  refine (key29_any 2 _).mono ?_
  rintro e u10 ⟨rfl, U10⟩
  have TU10 := Lib.hid (T10.out.mo ((Mor.out : Mo w10 _).trans U10))
  have MU10 := M10.trans ((Mor.out : Mo w10 _).trans U10)
  have SU10 := ((Mor.out : Mo w10 _).trans U10).size
  have xu : Blk u10 v7.heap.size 45 (enC (kyN 2) (wdN 2) false) := ((Mor.out : Mo w10 _).trans U10).blk x10
  have yu : Blk u10 v8.heap.size 45 (enC (kyN 1) (wdN 3) false) := ((Mor.out : Mo w10 _).trans U10).blk y10
  clear U10 T10 M10
  go_wp2_with fail
  refine (answer_e T B 2 [⟨kyN 1, wdN 3, true⟩, ⟨kyN 3, wdN 4, false⟩] P7 (kyN 2) _ (TU10.out.mo Mor.out) (keyP_n _ (by decide))).mono ?_
  rintro e v10 ⟨r, hr, rfl, TV, KV⟩
  rw [ev7.1] at hr
  rw [ev7.2] at TV
  subst hr
  have MV10 : Mo W v10 := KV.mo (MU10.trans Mor.out) (fun i _ h => PW i h)
  replace KV := (KpS.of_mo (S := P7) (Mor.out : Mo u10 _)).trans KV fun _ _ q => q
  have SV10 := KV.size
  have xv : Blk v10 v7.heap.size 45 (enC (kyN 2) (wdN 2) false) := KV.blk xu (P13 _ (by omega))
  have yv : Blk v10 v8.heap.size 45 (enC (kyN 1) (wdN 3) false) := KV.blk yu (P13 _ (by omega))
  replace TV := Lib.hid TV
  clear KV MU10 TU10
  go_upto_region 11 with (fail)
  refine wp_name ?_
  intro w11 hw
  have M11 : Mo W w11 := by rw [hw]; exact MV10.trans Mor.out
  have S11 : v10.heap.size ≤ w11.heap.size := by rw [hw]; exact (Mor.out : Mo v10 _).size
  have T11 : Hid (TabE w11 T B 2 [⟨kyN 1, wdN 3, true⟩, ⟨kyN 3, wdN 4, false⟩] P7) := Lib.hid (by rw [hw]; exact TV.out.mo Mor.out)
  have x11 : Blk w11 v7.heap.size 45 (enC (kyN 2) (wdN 2) false) := by rw [hw]; infer_instance
  have y11 : Blk w11 v8.heap.size 45 (enC (kyN 1) (wdN 3) false) := by rw [hw]; infer_instance
  clear hw MV10 TV xv xu x10 yv yu y10

  have ek := run_eqlF_same (T := 38) fl_key (xs := kyN 2) (keyP_n 2 (by decide))
  clear T11
  refine wp_region_mo (by kernel_rfl) (by kernel_rfl) ?_
  repeat (go_big_quiet_step (with_reducible exact quiet_mo (key29_any 2 _)))
  refine wpQuiet_nil ?_
  intro _ hw'
  obtain ⟨⟨J9, d9⟩, hw''⟩ := hw'
  subst hw''
  go_wp2_with fail
  go_ret
  exact ⟨rfl, M11.trans Mor.out⟩
end Go.Proofs.Ytlbkcjpnlnlmiaa
