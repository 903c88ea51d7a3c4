/- Written by gen/bundle30.py: PendF, PendW, PendK, PendP, PendQ, PendL, PendV in one text. -/
import Derived.Test.YtcflebggepmmcaaPendZ
import Derived.Test.YtcflebggepmmcaaBlkS
/- pend's calls, told of entries alone. -/
namespace Go.Proofs.Ytcflebggepmmcaa
open Go.RowKit Go.Maps

/-- a table of entries E, whose blocks are of P -/
def TabE (W : World) (T B : Nat) (room : Int) (E : List En) (P : Nat → Prop) : Prop := ∃ L, TabAt W T B room L ∧ L.map (·.2) = E ∧ ∀ i, Foot T B L i → P i
set_option maxRecDepth 20000 in
theorem TabE.mo {W w : World} {T B : Nat} {room : Int} {E : List En} {P : Nat → Prop} (h : TabE W T B room E P) (k : Mo W w) : TabE w T B room E P := by
  obtain ⟨L, h1, h2, h3⟩ := h
  exact ⟨L, h1.mo k, h2, h3⟩
set_option maxRecDepth 20000 in
theorem TabE.keep {W w : World} {T B : Nat} {room : Int} {E : List En} {P : Nat → Prop} (h : TabE W T B room E P) (k : ∀ i, i < W.heap.size → P i → w.heap[i]? = W.heap[i]?) : TabE w T B room E P := by
  obtain ⟨L, h1, h2, h3⟩ := h
  exact ⟨L, h1.keep fun i hi hf => k i hi (h3 i hf), h2, h3⟩
set_option maxRecDepth 20000 in
theorem TabE.weak {W : World} {T B : Nat} {room : Int} {E : List En} {P Q : Nat → Prop} (h : TabE W T B room E P) (k : ∀ i, i < W.heap.size → P i → Q i) : TabE W T B room E Q := by
  obtain ⟨L, h1, h2, h3⟩ := h
  exact ⟨L, h1, h2, fun i hf => k i (h1.lt i hf) (h3 i hf)⟩
set_option maxRecDepth 20000 in
theorem TabE.ok {W : World} {T B : Nat} {room : Int} {E : List En} {P : Nat → Prop} (h : TabE W T B room E P) : ∀ e ∈ E, EnOk e := by
  obtain ⟨L, h1, rfl, -⟩ := h
  intro e he
  obtain ⟨q, hq, rfl⟩ := List.mem_map.1 he
  exact h1.ok q hq
set_option maxRecDepth 20000 in
theorem TabE.keys {W : World} {T B : Nat} {room : Int} {E : List En} {P : Nat → Prop} (h : TabE W T B room E P) : (E.map (·.k)).Nodup := by
  obtain ⟨L, h1, rfl, -⟩ := h
  have := h1.keys
  rw [List.map_map]
  exact this
set_option maxRecDepth 20000 in
theorem TabE.tab {W : World} {T B : Nat} {room : Int} {E : List En} {P : Nat → Prop} (h : TabE W T B room E P) : ∃ o y, Blk W T 128 #[.int .i64 room, .map (some B), o, y] := by
  obtain ⟨L, h1, -, -⟩ := h
  exact ⟨_, _, h1.t⟩
noncomputable def findE (E : List En) (k : Array Value) : Option En := E.find? fun e => eqA e.k k
noncomputable def ansE (E : List En) (k : Array Value) : List En := E.map fun e => if eqA e.k k then ⟨e.k, e.a, true⟩ else e
noncomputable def ansV (E : List En) (k : Array Value) : Value × Int :=
  match findE E k with
  | none => (.agg (enC k wdz false), 7)
  | some e => (.agg (enC e.k e.a e.d), if e.d then 6 else 4)
set_option maxRecDepth 20000 in
theorem findE_some {E : List En} {e : En} (nd : (E.map (·.k)).Nodup) (h : e ∈ E) : findE E e.k = some e := by
  unfold findE
  induction E with
  | nil => cases h
  | cons x E ih =>
    rw [List.map_cons, List.nodup_cons] at nd
    rcases List.mem_cons.1 h with rfl | h
    · exact List.find?_cons_of_pos (p := fun y : En => eqA y.k e.k) (eqA_self _)
    · rw [List.find?_cons_of_neg (p := fun y : En => eqA y.k e.k) (fun c => nd.1 (by rw [eqA_iff.1 c]; exact List.mem_map_of_mem h)), ih nd.2 h]
set_option maxRecDepth 20000 in
theorem findE_none {E : List En} {k : Array Value} (h : ∀ e ∈ E, e.k ≠ k) : findE E k = none := by
  unfold findE
  rw [List.find?_eq_none]
  intro e he c
  exact h e he (eqA_iff.1 c)
set_option maxRecDepth 20000 in
theorem hasE_find (E : List En) (k : Array Value) : hasE E k = (findE E k).isSome := by
  unfold hasE findE
  rw [Bool.eq_iff_iff, List.any_eq_true, List.find?_isSome]
set_option maxRecDepth 20000 in
theorem length_askE {room : Int} {E : List En} {k a : Array Value} (h : (E.length : Int) ≤ room) : ((askE room E k a).2.2.length : Int) ≤ room := by
  unfold askE
  by_cases c : ((strike E k ++ [(⟨k, a, false⟩ : En)]).length : Int) ≤ room
  · rw [if_pos c]; exact c
  · rw [if_neg c]
    have : (strike E k).length ≤ E.length := List.length_filter_le _ _
    simp only [List.length_tail, List.length_append, List.length_cons, List.length_nil]
    omega
set_option maxRecDepth 20000 in
theorem ask_e (T B : Nat) (room : Int) (E : List En) (P : Nat → Prop) (k a : Array Value) (W : World) (h : TabE W T B room E P) (hk : KeyP k) (ha : Fits (ksOf 32) a.toList) (hl : E.length ≤ 65536) :
    Calls Try.prog 28 #[ptr T, .agg k, .agg a] W fun e w' => ∃ r, askE room E k a = r ∧ e = .returned (.tuple #[.bool r.1, outV r.2.1, .bool r.2.1.isSome]) ∧ TabE w' T B room r.2.2 (fun i => P i ∨ W.heap.size ≤ i) ∧ KpS P W w' := by
  obtain ⟨L, h1, rfl, h3⟩ := h
  refine (ask_any T B room L k a W h1 hk ha (by rwa [List.length_map] at hl)).mono ?_
  rintro e w' ⟨L', t, kp, sb, e1, e2⟩
  refine ⟨_, rfl, e2, ⟨L', t, e1, fun i hf => ?_⟩, kp.mono fun i _ s => h3 i s⟩
  by_cases c : i < W.heap.size
  · exact .inl (h3 i (sb i c hf))
  · exact .inr (by omega)
set_option maxRecDepth 20000 in
theorem answer_e (T B : Nat) (room : Int) (E : List En) (P : Nat → Prop) (k : Array Value) (W : World) (h : TabE W T B room E P) (hk : KeyP k) :
    Calls Try.prog 29 #[ptr T, .agg k] W fun e w' => ∃ r, ansV E k = r ∧ e = .returned (.tuple #[r.1, .int .u8 r.2]) ∧ TabE w' T B room (ansE E k) P ∧ KpS P W w' := by
  have nd := h.keys
  obtain ⟨L, h1, rfl, h3⟩ := h
  refine (answer_any T B room L k W h1 hk).mono ?_
  rintro e w' ⟨t, kp, hr⟩
  have tt : TabE w' T B room (ansE (L.map (·.2)) k) P := ⟨AnsL L k, t, by
    unfold AnsL ansE
    rw [List.map_map, List.map_map]
    refine List.map_congr_left fun q _ => ?_
    simp only [Function.comp]
    by_cases c : eqA q.2.k k = true
    · rw [if_pos c, if_pos c]
    · rw [if_neg c, if_neg c], fun i hf => h3 i (by
    rcases hf with q | q | ⟨q, hq, e⟩
    · exact .inl q
    · exact .inr (.inl q)
    · unfold AnsL at hq
      obtain ⟨x, hx, rfl⟩ := List.mem_map.1 hq
      refine .inr (.inr ⟨x, hx, ?_⟩)
      rw [← e]
      by_cases c : eqA x.2.k k = true
      · rw [if_pos c]
      · rw [if_neg c])⟩
  refine ⟨_, rfl, ?_, tt, kp.mono fun i _ s => h3 i s⟩
  unfold ansV
  rcases hr with ⟨q, hq, rfl, e2⟩ | ⟨hn, e2⟩
  · have hm : q.2 ∈ L.map (·.2) := List.mem_map_of_mem hq
    rw [findE_some nd hm]
    exact e2
  · have : findE (L.map (·.2)) k = none := findE_none fun e he => by
      obtain ⟨q, hq, rfl⟩ := List.mem_map.1 he
      exact hn q hq
    rw [this]
    exact e2
set_option maxRecDepth 20000 in
theorem new_e (k : Int) (W : World) : Calls Try.prog 27 #[.int .i64 k] W fun e w' => Mo W w' ∧ ((1 ≤ k ∧ k ≤ 65536 ∧ ∃ T B, e = .returned (.tuple #[ptr T, .int .i64 0]) ∧ TabE w' T B k [] (fun i => W.heap.size ≤ i)) ∨ (¬ (1 ≤ k ∧ k ≤ 65536) ∧ e = .returned (.tuple #[nilp, .int .i64 2]))) := by
  refine (new_any k W).mono ?_
  rintro e w' ⟨M, ⟨c1, c2, T, B, e1, t, h1, h2⟩ | h⟩
  · refine ⟨M, .inl ⟨c1, c2, T, B, e1, [], t, rfl, ?_⟩⟩
    rintro i (rfl | rfl | ⟨q, hq, -⟩)
    · exact h1
    · exact h2
    · cases hq
  · exact ⟨M, .inr h⟩
set_option maxRecDepth 20000 in
theorem len_e (T B : Nat) (room : Int) (E : List En) (P : Nat → Prop) (W : World) (h : TabE W T B room E P) : Calls Try.prog 44 #[ptr T] W fun e w' => e = .returned (.int .i64 E.length) ∧ Mo W w' := by
  obtain ⟨L, h1, rfl, h3⟩ := h
  rw [List.length_map]
  exact len_any T B room L W h1
end Go.Proofs.Ytcflebggepmmcaa
/- horologelaw29.key, works (printed by gen/genpendw.py). -/
namespace Go.Proofs.Ytcflebggepmmcaa
open Go.RowKit Go.Maps

def kyN (n : Int) : Array Value := #[.bool false, .int .u8 0, .int .u8 0, .int .u8 0, .int .u8 0, .int .u8 0, .int .u8 0, .int .u8 0, .int .u8 0, .int .u8 0, .int .u8 0, .int .u8 0, .int .u8 0, .int .u8 0, .int .u8 0, .int .u8 0, .int .u8 0, .int .u16 0, .bool false, .int .u8 0, .int .u8 0, .int .u8 0, .int .u8 0, .int .u8 0, .int .u8 0, .int .u8 0, .int .u8 0, .int .u8 0, .int .u8 0, .int .u8 0, .int .u8 0, .int .u8 0, .int .u8 0, .int .u8 0, .int .u8 0, .int .u16 0, .int .u64 n]
def wdN (n : Int) : Array Value := #[.int .i64 0, .int .u64 n]
set_option maxRecDepth 20000 in
instance (n : Int) : SzA (kyN n) 37 := ⟨rfl⟩
set_option maxRecDepth 20000 in
instance (n : Int) : SzA (wdN n) 2 := ⟨rfl⟩
set_option maxRecDepth 20000 in
instance (n : Int) : OneA (kyN n) := ⟨by kernel_rfl⟩
set_option maxRecDepth 20000 in
instance (n : Int) : OneA (wdN n) := ⟨by kernel_rfl⟩
set_option maxRecDepth 20000 in
theorem fit_u64 (n : Int) (h : 0 ≤ n ∧ n ≤ 18446744073709551615) : CK.fits (.i .u64) (.int .u64 n) := ⟨rfl, by simp [Lit.wf, IntKind.min, IntKind.max, IntKind.signed, IntKind.bits, h.1, h.2]⟩
set_option maxRecDepth 20000 in
theorem ks_key' : ksOf 72 = (.b :: (List.replicate 16 (.i .u8) ++ [.i .u16])) ++ ((.b :: (List.replicate 16 (.i .u8) ++ [.i .u16])) ++ [.i .u64]) := by kernel_rfl
set_option maxRecDepth 20000 in
theorem keyP_n (n : Int) (h : 0 ≤ n ∧ n ≤ 18446744073709551615) : KeyP (kyN n) := by
  unfold KeyP
  rw [ks_key']
  exact ⟨trivial, ⟨rfl, rfl⟩, ⟨rfl, rfl⟩, ⟨rfl, rfl⟩, ⟨rfl, rfl⟩, ⟨rfl, rfl⟩, ⟨rfl, rfl⟩, ⟨rfl, rfl⟩, ⟨rfl, rfl⟩, ⟨rfl, rfl⟩, ⟨rfl, rfl⟩, ⟨rfl, rfl⟩, ⟨rfl, rfl⟩, ⟨rfl, rfl⟩, ⟨rfl, rfl⟩, ⟨rfl, rfl⟩, ⟨rfl, rfl⟩, ⟨rfl, rfl⟩, trivial, ⟨rfl, rfl⟩, ⟨rfl, rfl⟩, ⟨rfl, rfl⟩, ⟨rfl, rfl⟩, ⟨rfl, rfl⟩, ⟨rfl, rfl⟩, ⟨rfl, rfl⟩, ⟨rfl, rfl⟩, ⟨rfl, rfl⟩, ⟨rfl, rfl⟩, ⟨rfl, rfl⟩, ⟨rfl, rfl⟩, ⟨rfl, rfl⟩, ⟨rfl, rfl⟩, ⟨rfl, rfl⟩, ⟨rfl, rfl⟩, ⟨rfl, rfl⟩, fit_u64 n h, trivial⟩
set_option maxRecDepth 20000 in
theorem fits_wdN (n : Int) (h : 0 ≤ n ∧ n ≤ 18446744073709551615) : Fits (ksOf 32) (wdN n).toList := by
  have e : ksOf 32 = [.i .i64, .i .u64] := by kernel_rfl
  rw [e]
  exact ⟨⟨rfl, rfl⟩, fit_u64 n h, trivial⟩
set_option maxRecDepth 20000 in
theorem kyN_ne {m n : Int} (h : m ≠ n) : eqA (kyN m) (kyN n) = false := by
  rw [Bool.eq_false_iff]
  intro c
  have := congrArg (fun a => a[36]?) (eqA_iff.1 c)
  simp only [kyN] at this
  simp at this
  exact h this
set_option maxRecDepth 20000 in
theorem run_eqlF_same {T : TypeId} {n : Nat} (h : FlatT T n) {xs : Array Value} (hx : Fits (ksOf T) xs.toList) (w : World) : (eqlF T (.agg xs) (.agg xs)).run Try.prog w = .ok (.bool true) w := by
  have := run_eql_flat h w hx hx
  rwa [eqA_self] at this
set_option maxRecDepth 20000 in
theorem storeF_key' (v x : Value) : Instr.storeAt 72 v x = storeF 72 v x := rfl
set_option maxRecDepth 20000 in
theorem buildF_key' (l : Array (Nat × Value)) : Instr.build 72 l = buildF 72 l := rfl
set_option maxRecDepth 20000 in
theorem buildF_wide' (l : Array (Nat × Value)) : Instr.build 32 l = buildF 32 l := rfl
set_option maxRecDepth 20000 in
theorem run_build_kyN (n : Int) (w : World) : (buildF 72 #[(1, .int .u64 n)]).run Try.prog w = .ok (.agg (kyN n)) w := run_build w _ _ _ (by kernel_rfl)
set_option maxRecDepth 20000 in
theorem run_build_wdN (n : Int) (w : World) : (buildF 32 #[(1, .int .u64 n)]).run Try.prog w = .ok (.agg (wdN n)) w := run_build w _ _ _ (by kernel_rfl)
set_option maxRecDepth 20000 in
theorem results_c1 {fn : Func} {p : Tmp} {ty : TypeId} (h : fn.results = #[.cell p ty]) (tmps : Array Value) (P : Program) (w : World) :
    (results fn tmps).run P w = ((asAddr (tmps.getD p undef)).run P w).andThen fun a w₁ => (loadVar ty a).run P w₁ := by
  simp only [results, h]
  simp [Sem.run_bind, Result.andThen]
set_option maxRecDepth 20000 in
theorem ret_c1 {fn : Func} {p : Tmp} {T : TypeId} {R : Ending → World → Prop} {a : Act} {w : World} (hr : fn.results = #[.cell p T]) (g : Nat) (cs : Array Value) (hp : a.tmps.getD p undef = .pointer (some ⟨g, 0, none⟩)) (hd : a.defers = []) {n : Nat} [h : RowT T n] [z : SzA cs n] (b : Blk w g T cs)
    (hR : R (.returned (.agg cs)) w) : bodyPost Try.prog fn R .ret a w :=
  bodyPost_ret (v := .agg cs) (by
    rw [results_c1 hr, hp]
    have e : (asAddr (.pointer (some ⟨g, 0, none⟩))).run Try.prog w = .ok (⟨g, 0, none⟩ : Addr) w := rfl
    rw [e, Result.andThen_ok, loadVar_flat T b z.out]) hd hR
attribute [local go_sem] blk_cell' blk_frozen' nd_old nd_new nd_ans nd_key nd_en
attribute [local go_sem ↓] loadF_key loadF_entry storeF_entry buildF_entry storeF_key' buildF_key' buildF_wide'
attribute [local go_sem] run_loadFo run_loadFz run_loadF0 run_storeF0 run_build_kyN run_build_wdN
set_option maxRecDepth 20000 in
theorem new_in (k : Int) (h : 1 ≤ k ∧ k ≤ 65536) (W : World) : Calls Try.prog 27 #[.int .i64 k] W fun e w' => ∃ T B, e = .returned (.tuple #[ptr T, .int .i64 0]) ∧ TabE w' T B k [] (fun i => W.heap.size ≤ i) ∧ Mo W w' := by
  refine (new_e k W).mono ?_
  rintro e w' ⟨M, ⟨-, -, T, B, e1, t⟩ | ⟨c, -⟩⟩
  · exact ⟨T, B, e1, t, M⟩
  · exact absurd h c
set_option maxRecDepth 20000 in
theorem new_out (k : Int) (h : ¬ (1 ≤ k ∧ k ≤ 65536)) (W : World) : Calls Try.prog 27 #[.int .i64 k] W fun e w' => e = .returned (.tuple #[nilp, .int .i64 2]) ∧ Mo W w' := by
  refine (new_e k W).mono ?_
  rintro e w' ⟨M, ⟨c1, c2, -⟩ | ⟨-, e1⟩⟩
  · exact absurd ⟨c1, c2⟩ h
  · exact ⟨e1, M⟩
set_option maxRecDepth 20000 in
theorem eqlF_key' (x y : Value) : binOp .eql 72 x y = eqlF 72 x y := rfl
set_option maxRecDepth 20000 in
theorem en_key (k a : Array Value) (d : Bool) [hk : SzA k 37] : (enC k a d).extract 0 37 = k := by
  unfold enC
  rw [Array.append_assoc]
  exact ext_left _ _ _ hk.out
set_option maxRecDepth 20000 in
theorem en_lo3 : (enC (kyN 1) (wdN 3) false)[38]? = some (.int .u64 3) := by kernel_rfl
attribute [local go_sem ↓] eqlF_key'
attribute [local go_sem] en_key en_lo3
set_option maxRecDepth 20000 in
theorem ev1 : askE 2 [] (kyN 1) (wdN 1) = (false, none, [⟨kyN 1, wdN 1, false⟩]) := by simp [askE, strike, hasE]
set_option maxRecDepth 20000 in
theorem ev2 : askE 2 [⟨kyN 1, wdN 1, false⟩] (kyN 2) (wdN 2) = (false, none, [⟨kyN 1, wdN 1, false⟩, ⟨kyN 2, wdN 2, false⟩]) := by simp [askE, strike, hasE, kyN_ne (show (1 : Int) ≠ 2 by decide)]
set_option maxRecDepth 20000 in
theorem ev3 : askE 2 [⟨kyN 1, wdN 1, false⟩, ⟨kyN 2, wdN 2, false⟩] (kyN 1) (wdN 3) = (true, none, [⟨kyN 2, wdN 2, false⟩, ⟨kyN 1, wdN 3, false⟩]) := by simp [askE, strike, hasE, kyN_ne (show (2 : Int) ≠ 1 by decide), eqA_self]
set_option maxRecDepth 20000 in
theorem ev4 : askE 2 [⟨kyN 2, wdN 2, false⟩, ⟨kyN 1, wdN 3, false⟩] (kyN 3) (wdN 4) = (false, some ⟨kyN 2, wdN 2, false⟩, [⟨kyN 1, wdN 3, false⟩, ⟨kyN 3, wdN 4, false⟩]) := by simp [askE, strike, hasE, kyN_ne (show (2 : Int) ≠ 3 by decide), kyN_ne (show (1 : Int) ≠ 3 by decide)]
set_option maxRecDepth 20000 in
theorem ev5 : ansV [⟨kyN 1, wdN 3, false⟩, ⟨kyN 3, wdN 4, false⟩] (kyN 1) = (.agg (enC (kyN 1) (wdN 3) false), 4) ∧ ansE [⟨kyN 1, wdN 3, false⟩, ⟨kyN 3, wdN 4, false⟩] (kyN 1) = [⟨kyN 1, wdN 3, true⟩, ⟨kyN 3, wdN 4, false⟩] := by simp [ansV, ansE, findE, eqA_self, kyN_ne (show (3 : Int) ≠ 1 by decide)]
set_option maxRecDepth 20000 in
theorem ev6 : ansV [⟨kyN 1, wdN 3, true⟩, ⟨kyN 3, wdN 4, false⟩] (kyN 1) = (.agg (enC (kyN 1) (wdN 3) true), 6) ∧ ansE [⟨kyN 1, wdN 3, true⟩, ⟨kyN 3, wdN 4, false⟩] (kyN 1) = [⟨kyN 1, wdN 3, true⟩, ⟨kyN 3, wdN 4, false⟩] := by simp [ansV, ansE, findE, eqA_self, kyN_ne (show (3 : Int) ≠ 1 by decide)]
set_option maxRecDepth 20000 in
theorem ev7 : ansV [⟨kyN 1, wdN 3, true⟩, ⟨kyN 3, wdN 4, false⟩] (kyN 2) = (.agg (enC (kyN 2) wdz false), 7) ∧ ansE [⟨kyN 1, wdN 3, true⟩, ⟨kyN 3, wdN 4, false⟩] (kyN 2) = [⟨kyN 1, wdN 3, true⟩, ⟨kyN 3, wdN 4, false⟩] := by simp [ansV, ansE, findE, kyN_ne (show (3 : Int) ≠ 2 by decide), kyN_ne (show (1 : Int) ≠ 2 by decide)]
end Go.Proofs.Ytcflebggepmmcaa
/- horologelaw29: calls on no table; PendKnown (printed by gen/genpendk.py). -/
namespace Go.Proofs.Ytcflebggepmmcaa
open Go.RowKit Go.Maps Go.Shelf

attribute [local go_sem] blk_cell' blk_frozen' nd_old nd_new nd_ans nd_key nd_en
attribute [local go_sem ↓] loadF_key loadF_entry storeF_entry buildF_entry storeF_key' buildF_key' buildF_wide'
attribute [local go_sem] run_loadFo run_loadFz run_loadF0 run_storeF0 run_build_kyN run_build_wdN run_build_entry0 run_build_entryk
set_option maxRecDepth 20000 in
set_option maxHeartbeats 4000000 in
theorem answer_nil (k : Array Value) [zk : SzA k 37] [ok : OneA k] (W : World) : Calls Try.prog 29 #[nilp, .agg k] W fun e w' => e = .returned (.tuple #[.agg (enC k wdz false), .int .u8 7]) ∧ Mo W w' := by
  go_enter Try.func29, Try.ntmps29
  go_wp2_with fail
  refine (right_nil _).mono ?_
  rintro e w1 ⟨rfl, M1⟩
  have k1 : Blk w1 W.heap.size 72 k := M1.blk inferInstance
  have r1 : Blk w1 (W.heap.size + 1) 88 (enC key0 wdz false) := M1.blk (blk_en0 inferInstance)
  have N1 := (Mor.out : Mo W _).trans M1
  clear M1
  go_wp2_with fail
  refine ret_cell2 Try.results29 (W.heap.size + 1) (enC k wdz false) rfl rfl (blk_setRow r1) ?_
  exact ⟨rfl, mo_setRow N1 (Nat.le_succ _) _⟩
set_option maxRecDepth 20000 in
set_option maxHeartbeats 4000000 in
theorem ask_nil (k a : Array Value) (W : World) : Calls Try.prog 28 #[nilp, .agg k, .agg a] W fun e w' => e = .returned (.tuple #[.bool false, .agg (enC key0 wdz false), .bool false]) ∧ Mo W w' := by
  go_enter Try.func28, Try.ntmps28
  go_wp2_with fail
  refine (right_nil _).mono ?_
  rintro e w1 ⟨rfl, M1⟩
  have r1 : Blk w1 (W.heap.size + 2) 88 (enC key0 wdz false) := M1.blk (blk_en0 inferInstance)
  have N1 := (Mor.out : Mo W _).trans M1
  clear M1
  go_wp2_with fail
  refine ret_tct Try.results28 (W.heap.size + 2) (enC key0 wdz false) rfl rfl (blk_setRow r1) ?_
  exact ⟨rfl, mo_setRow N1 (by omega) _⟩
set_option maxRecDepth 20000 in
set_option maxHeartbeats 4000000 in
theorem len_nil29 (W : World) : Calls Try.prog 44 #[nilp] W fun e w' => e = .returned (.int .i64 0) ∧ Mo W w' := by
  go_enter Try.func44, Try.ntmps44
  go_wp2_with fail
  refine (right_nil _).mono ?_
  rintro e w1 ⟨rfl, M1⟩
  go_wp2_with fail
  go_ret
  exact ⟨rfl, M1⟩
set_option maxRecDepth 20000 in
set_option maxHeartbeats 4000000 in
theorem all_any (p : Option Addr) (W : World) : Calls Try.prog 83 #[.pointer p] W fun e w' => e = .returned (.func (.func 106) #[] #[.pointer (some ⟨W.heap.size, 0, none⟩)]) ∧ W.alloc (.cells #[.pointer p] 82) = w' := by
  go_enter Try.func83, Try.ntmps83
  go_wp2_with fail
  go_ret
  exact ⟨rfl, rfl⟩
set_option maxRecDepth 20000 in
set_option maxHeartbeats 4000000 in
theorem all_nil_seq (n Bn : Nat) (Kp : World → World → Prop) (w : World) (hB : Boxed w Bn 82 nilp) :
    SeqP Fence.wide n Try.prog 106 #[.pointer (some ⟨Bn, 0, none⟩)] (fun x : Value => #[x]) Kp (fun _ _ _ => False) (fun xs => xs = []) (fun _ => False) 0 w := by
  intro l J Jx W hW hJ _ _ h0
  refine callsIn_wide.2 ?_
  have hX := boxed_mo hB (Mo.of hW)
  have hX1 := hX.cell
  have HJ := Lib.hid hJ
  have H0 := Lib.hid h0
  clear hJ h0 hB hW
  go_enter Try.func106, Try.ntmps106
  go_wp2_with fail
  refine (right_nil _).mono ?_
  rintro e w1 ⟨rfl, M1⟩
  have hJ1 := HJ.out _ _ _ none H0.out M1.grown (fun r h => by cases h)
  go_wp2_with fail
  refine bodyPost_ret (results_none rfl _ _ _) rfl ?_
  exact ⟨⟨_, rfl⟩, .inl ⟨[], rfl, hJ1⟩⟩
set_option maxRecDepth 20000 in
set_option maxHeartbeats 4000000 in
theorem copy_nil (W : World) : Calls Try.prog 49 #[nilp] W fun e w' => e = .returned nilp ∧ Mo W w' := by
  refine (callsIn_wide (n := 6)).1 ?_
  refine callsIn_of_wp_marks Try.func49 rfl trivial ?_ rfl
  simp only [Try.ntmps49, List.size_toArray, List.length_cons, List.length_nil, Nat.reduceAdd, Nat.reduceSub, Array.replicate_succ, Array.replicate_zero, List.push_toArray, List.append_toArray, List.nil_append, List.cons_append]
  refine wpIn_wide.2 ?_
  go_wp2_with fail
  refine (right_nil _).mono ?_
  rintro e w1 ⟨rfl, M1⟩
  go_wp2_with fail
  exact ⟨nilp, by simp [results, Try.results49], rfl, M1⟩
set_option maxRecDepth 20000 in
theorem run_neq_all (w : World) (b : Value) : (binOp .neq 156 (.func (.func 106) #[] #[b]) Value.nilFunc).run Try.prog w = .ok (.bool true) w := by
  kernel_rfl
attribute [local go_sem] run_neq_all
set_option maxRecDepth 20000 in
theorem boxed_ofK {w : World} {g : Nat} {t : TypeId} {v : Value} (h : Blk w g t #[v]) : Boxed w g t v := h.out
end Go.Proofs.Ytcflebggepmmcaa
/- pend: the stage's theorem, plain: what is there is what was asked, and fewer than K others behind it. -/
namespace Go.Proofs.Ytcflebggepmmcaa
open Go.RowKit Go.Maps

structure Do where
  kd : Int
  k : Array Value
  a : Array Value
structure DoOk (d : Do) : Prop where
  kd : 0 ≤ d.kd ∧ d.kd ≤ 255
  k : KeyP d.k
  a : Fits (ksOf 32) d.a.toList
noncomputable def stepE (room : Int) (E : List En) (x : Do) : List En := if x.kd = 0 then (askE room E x.k x.a).2.2 else if x.kd = 1 then ansE E x.k else E
noncomputable def playE (room : Int) (l : List Do) : Nat → List En
  | 0 => []
  | n + 1 => match l[n]? with
    | none => playE room l n
    | some x => stepE room (playE room l n) x
noncomputable def stepU (U : List En) (x : Do) : List En := if x.kd = 0 then strike U x.k ++ [⟨x.k, x.a, false⟩] else if x.kd = 1 then ansE U x.k else U
noncomputable def playU (l : List Do) : Nat → List En
  | 0 => []
  | n + 1 => match l[n]? with
    | none => playU l n
    | some x => stepU (playU l n) x
open Classical in
noncomputable def scanN (l : List Do) (xk : Array Value) : Nat → Int × Bool
  | 0 => (-1, false)
  | n + 1 => match l[n]? with
    | none => scanN l xk n
    | some y => if y.k = xk then (if y.kd = 0 then ((n : Int), false) else if y.kd = 1 then ((scanN l xk n).1, true) else scanN l xk n) else scanN l xk n
open Classical in
/-- the keys that were asked behind m, but l[m]'s -/
noncomputable def othK (l : List Do) (xk : Array Value) (m : Nat) : Nat → List (Array Value)
  | 0 => []
  | n + 1 => match l[n]? with
    | none => othK l xk m n
    | some y => if m < n ∧ y.kd = 0 ∧ y.k ≠ xk ∧ ¬ y.k ∈ othK l xk m n then othK l xk m n ++ [y.k] else othK l xk m n
set_option maxRecDepth 20000 in
theorem strike_mem {E : List En} {k : Array Value} {e : En} : e ∈ strike E k ↔ e ∈ E ∧ e.k ≠ k := by
  unfold strike
  rw [List.mem_filter]
  refine and_congr_right fun _ => ?_
  rw [Bool.not_eq_true', Bool.eq_false_iff]
  exact not_congr eqA_iff
set_option maxRecDepth 20000 in
theorem strike_append (A B : List En) (k : Array Value) : strike (A ++ B) k = strike A k ++ strike B k := by unfold strike; rw [List.filter_append]
set_option maxRecDepth 20000 in
theorem strike_self {E : List En} {k : Array Value} (h : ∀ e ∈ E, e.k ≠ k) : strike E k = E := by
  unfold strike
  rw [List.filter_eq_self]
  intro x hx
  rw [Bool.not_eq_true', Bool.eq_false_iff]
  exact fun c => h x hx (eqA_iff.1 c)
set_option maxRecDepth 20000 in
theorem strike_cons_same {e : En} {E : List En} {k : Array Value} (h : e.k = k) : strike (e :: E) k = strike E k := by
  unfold strike
  rw [List.filter_cons_of_neg]
  rw [eqA_iff.2 h]; decide
set_option maxRecDepth 20000 in
theorem strike_cons_ne {e : En} {E : List En} {k : Array Value} (h : e.k ≠ k) : strike (e :: E) k = e :: strike E k := by
  unfold strike
  rw [List.filter_cons_of_pos]
  rw [Bool.not_eq_true', Bool.eq_false_iff]
  exact fun c => h (eqA_iff.1 c)
set_option maxRecDepth 20000 in
theorem strike_len {E : List En} {k : Array Value} (nd : (E.map (·.k)).Nodup) (h : k ∈ E.map (·.k)) : (strike E k).length + 1 = E.length := by
  induction E with
  | nil => cases h
  | cons e E ih =>
    rw [List.map_cons, List.nodup_cons] at nd
    rw [List.map_cons] at h
    by_cases c : e.k = k
    · rw [strike_cons_same c, strike_self]
      · rfl
      · intro x hx e1
        exact nd.1 (by rw [c, ← e1]; exact List.mem_map_of_mem (f := fun e : En => e.k) hx)
    · rcases List.mem_cons.1 h with e1 | h
      · exact absurd e1.symm c
      · rw [strike_cons_ne c, List.length_cons, List.length_cons, ih nd.2 h]
set_option maxRecDepth 20000 in
theorem strike_keys {E : List En} {k : Array Value} (nd : (E.map (·.k)).Nodup) : ((strike E k).map (·.k)).Nodup := nd.sublist (List.Sublist.map _ (List.filter_sublist))
set_option maxRecDepth 20000 in
theorem ansE_keys (E : List En) (k : Array Value) : (ansE E k).map (·.k) = E.map (·.k) := by
  unfold ansE
  rw [List.map_map]
  refine List.map_congr_left fun e _ => ?_
  simp only [Function.comp]
  by_cases c : eqA e.k k = true
  · rw [if_pos c]
  · rw [if_neg c]
set_option maxRecDepth 20000 in
theorem ansE_append (A B : List En) (k : Array Value) : ansE (A ++ B) k = ansE A k ++ ansE B k := by unfold ansE; rw [List.map_append]
set_option maxRecDepth 20000 in
theorem ansE_drop (A : List En) (k : Array Value) (n : Nat) : ansE (A.drop n) k = (ansE A k).drop n := by unfold ansE; rw [List.map_drop]
set_option maxRecDepth 20000 in
theorem ansE_len (A : List En) (k : Array Value) : (ansE A k).length = A.length := by unfold ansE; rw [List.length_map]
set_option maxRecDepth 20000 in
theorem ansE_cons_same {e : En} {E : List En} {k : Array Value} (h : e.k = k) : ansE (e :: E) k = ⟨e.k, e.a, true⟩ :: ansE E k := by
  unfold ansE
  rw [List.map_cons, if_pos (eqA_iff.2 h)]
set_option maxRecDepth 20000 in
theorem ansE_cons_ne {e : En} {E : List En} {k : Array Value} (h : e.k ≠ k) : ansE (e :: E) k = e :: ansE E k := by
  unfold ansE
  rw [List.map_cons, if_neg (fun c => h (eqA_iff.1 c))]
set_option maxRecDepth 20000 in
theorem playU_keys (l : List Do) : ∀ n, ((playU l n).map (·.k)).Nodup
  | 0 => by simp [playU]
  | n + 1 => by
    have ih := playU_keys l n
    unfold playU
    cases h : l[n]? with
    | none => exact ih
    | some x =>
      simp only
      unfold stepU
      by_cases c : x.kd = 0
      · rw [if_pos c, List.map_append, List.nodup_append]
        refine ⟨strike_keys ih, by simp, ?_⟩
        intro a ha b hb e
        obtain ⟨y, hy, rfl⟩ := List.mem_map.1 ha
        simp only [List.map_cons, List.map_nil, List.mem_singleton] at hb
        exact (strike_mem.1 hy).2 (e.trans hb)
      · rw [if_neg c]
        by_cases c : x.kd = 1
        · rw [if_pos c, ansE_keys]; exact ih
        · rw [if_neg c]; exact ih
/-- the last r of a list -/
def lastn {α : Type} (r : Nat) (U : List α) : List α := U.drop (U.length - r)
set_option maxRecDepth 20000 in
theorem lastn_append {α : Type} {r : Nat} (A B : List α) (h : r ≤ B.length) : lastn r (A ++ B) = lastn r B := by
  unfold lastn
  rw [List.length_append, List.drop_append]
  rw [List.drop_eq_nil_of_le (by omega), List.nil_append]
  congr 1
  omega
set_option maxRecDepth 20000 in
theorem lastn_len {α : Type} (r : Nat) (U : List α) : (lastn r U).length = min r U.length := by
  unfold lastn
  rw [List.length_drop]
  omega
set_option maxRecDepth 20000 in
theorem lastn_all {α : Type} {r : Nat} {U : List α} (h : U.length ≤ r) : lastn r U = U := by
  unfold lastn
  rw [show U.length - r = 0 by omega, List.drop_zero]
set_option maxRecDepth 20000 in
theorem ask_lastn {room : Int} (h1 : 1 ≤ room) {E : List En} {k a : Array Value} (h : (E.length : Int) ≤ room) : (askE room E k a).2.2 = lastn room.toNat (strike E k ++ [(⟨k, a, false⟩ : En)]) := by
  unfold askE
  have hl : (strike E k).length ≤ E.length := List.length_filter_le _ _
  have hlen : (strike E k ++ [(⟨k, a, false⟩ : En)]).length = (strike E k).length + 1 := by simp
  by_cases c : ((strike E k ++ [(⟨k, a, false⟩ : En)]).length : Int) ≤ room
  · rw [if_pos c, lastn_all (by omega)]
  · rw [if_neg c]
    unfold lastn
    rw [show (strike E k ++ [(⟨k, a, false⟩ : En)]).length - room.toNat = 1 by omega, List.drop_one]
set_option maxRecDepth 20000 in
theorem play_lastn {room : Int} (h1 : 1 ≤ room) (l : List Do) : ∀ n, playE room l n = lastn room.toNat (playU l n)
  | 0 => by simp [playE, playU, lastn]
  | n + 1 => by
    have ih := play_lastn h1 l n
    have nd := playU_keys l n
    unfold playE playU
    cases h : l[n]? with
    | none => exact ih
    | some x =>
      simp only
      unfold stepE stepU
      generalize playU l n = U at *
      rw [ih]
      by_cases c : x.kd = 0
      · rw [if_pos c, if_pos c, ask_lastn h1 (by rw [lastn_len]; omega)]
        have hU : U = U.take (U.length - room.toNat) ++ lastn room.toNat U := (List.take_append_drop _ _).symm
        have hl := lastn_len room.toNat U
        have hp : (U.take (U.length - room.toNat)).length = U.length - room.toNat := by rw [List.length_take]; omega
        generalize hE : lastn room.toNat U = E at *
        generalize U.take (U.length - room.toNat) = P at *
        rw [hU, strike_append, List.append_assoc]
        rw [hU, List.map_append, List.nodup_append] at nd
        by_cases q : x.k ∈ E.map (·.k)
        · have hs := strike_len nd.2.1 q
          have hP : strike P x.k = P := strike_self fun e he e1 => nd.2.2 _ (List.mem_map_of_mem (f := fun e : En => e.k) he) _ q e1
          rw [hP]
          have hEl : (strike E x.k ++ [(⟨x.k, x.a, false⟩ : En)]).length = E.length := by rw [List.length_append]; exact hs
          by_cases z : room.toNat ≤ U.length
          · rw [lastn_append P (strike E x.k ++ [(⟨x.k, x.a, false⟩ : En)]) (by rw [hEl, hl]; omega)]
          · have : P = [] := List.eq_nil_of_length_eq_zero (by omega)
            rw [this, List.nil_append]
        · have hs : strike E x.k = E := strike_self fun e he e1 => q (e1 ▸ List.mem_map_of_mem (f := fun e : En => e.k) he)
          rw [hs]
          by_cases z : room.toNat ≤ U.length
          · rw [lastn_append (strike P x.k) (E ++ [(⟨x.k, x.a, false⟩ : En)]) (by rw [List.length_append, hl]; omega)]
          · have : P = [] := List.eq_nil_of_length_eq_zero (by omega)
            rw [this]
            rfl
      · rw [if_neg c, if_neg c]
        by_cases c : x.kd = 1
        · rw [if_pos c, if_pos c]
          unfold lastn
          rw [ansE_drop, ansE_len]
        · rw [if_neg c, if_neg c]
set_option maxRecDepth 20000 in
open Classical in
/-- what a scan tells of the unbounded table -/
theorem scan_law (l : List Do) (xk : Array Value) : ∀ n, n ≤ l.length →
    ((scanN l xk n).1 = -1 ∧ ∀ e ∈ playU l n, e.k ≠ xk) ∨ ∃ (m : Nat) (y : Do) (P Q : List En), (scanN l xk n).1 = m ∧ m < n ∧ l[m]? = some y ∧ y.k = xk ∧ playU l n = P ++ ⟨xk, y.a, (scanN l xk n).2⟩ :: Q ∧ Q.length = (othK l xk m n).length ∧ ∀ z, z ∈ Q.map (·.k) ↔ z ∈ othK l xk m n
  | 0, _ => .inl ⟨rfl, fun e he => by cases he⟩
  | n + 1, hn => by
    have ih := scan_law l xk n (by omega)
    have nd := playU_keys l n
    obtain ⟨x, hx⟩ : ∃ x, l[n]? = some x := ⟨_, List.getElem?_eq_getElem (by omega)⟩
    have eU : playU l (n + 1) = stepU (playU l n) x := by rw [playU, hx]
    have eS : scanN l xk (n + 1) = if x.k = xk then (if x.kd = 0 then ((n : Int), false) else if x.kd = 1 then ((scanN l xk n).1, true) else scanN l xk n) else scanN l xk n := by rw [scanN, hx]
    have eO : ∀ m, othK l xk m (n + 1) = if m < n ∧ x.kd = 0 ∧ x.k ≠ xk ∧ ¬ x.k ∈ othK l xk m n then othK l xk m n ++ [x.k] else othK l xk m n := fun m => by rw [othK, hx]
    generalize playU l n = U at *
    unfold stepU at eU
    by_cases c0 : x.kd = 0
    · rw [if_pos c0] at eU
      rw [eU, eS]
      by_cases cx : x.k = xk
      · rw [if_pos cx, if_pos c0]
        refine .inr ⟨n, x, strike U x.k, [], rfl, by omega, hx, cx, ?_, ?_, ?_⟩
        · rw [cx]
        · have : ∀ j, j ≤ n + 1 → othK l xk n j = [] := fun j hj => by
            induction j with
            | zero => rfl
            | succ j ihj =>
              have := ihj (by omega)
              unfold othK
              rw [this]
              cases l[j]? with
              | none => rfl
              | some y => simp only; rw [if_neg (fun h => by have := h.1; omega)]
          rw [this (n + 1) (Nat.le_refl _)]
          rfl
        · have : ∀ j, j ≤ n + 1 → othK l xk n j = [] := fun j hj => by
            induction j with
            | zero => rfl
            | succ j ihj =>
              have := ihj (by omega)
              unfold othK
              rw [this]
              cases l[j]? with
              | none => rfl
              | some y => simp only; rw [if_neg (fun h => by have := h.1; omega)]
          rw [this (n + 1) (Nat.le_refl _)]
          simp
      · rw [if_neg cx]
        rcases ih with ⟨h1, h2⟩ | ⟨m, y, P, Q, h1, h2, h3, h4, h5, h6, h7⟩
        · refine .inl ⟨h1, fun e he => ?_⟩
          rcases List.mem_append.1 he with h | h
          · exact h2 e (strike_mem.1 h).1
          · rw [List.mem_singleton] at h
            subst h
            exact cx
        · refine .inr ⟨m, y, strike P x.k, strike Q x.k ++ [⟨x.k, x.a, false⟩], h1, by omega, h3, h4, ?_, ?_, ?_⟩
          · rw [h5, strike_append, strike_cons_ne (fun e => cx e.symm), List.append_assoc, List.cons_append]
          · rw [h5, List.map_append, List.map_cons, List.nodup_append, List.nodup_cons] at nd
            rw [eO m, List.length_append, List.length_singleton]
            by_cases q : x.k ∈ othK l xk m n
            · rw [if_neg (fun h => h.2.2.2 q), ← h6]
              exact strike_len nd.2.1.2 ((h7 _).2 q)
            · rw [if_pos ⟨h2, c0, cx, q⟩, List.length_append, List.length_singleton, strike_self, h6]
              intro e he e1
              exact q ((h7 _).1 (e1 ▸ List.mem_map_of_mem (f := fun e : En => e.k) he))
          · intro z
            rw [eO m, List.map_append, List.mem_append]
            by_cases q : x.k ∈ othK l xk m n
            · rw [if_neg (fun h => h.2.2.2 q)]
              constructor
              · rintro (h | h)
                · obtain ⟨e, he, rfl⟩ := List.mem_map.1 h
                  exact (h7 _).1 (List.mem_map_of_mem (f := fun e : En => e.k) (strike_mem.1 he).1)
                · simp only [List.map_cons, List.map_nil, List.mem_singleton] at h
                  rw [h]; exact q
              · intro h
                by_cases r : z = x.k
                · right; simp [r]
                · left
                  obtain ⟨e, he, rfl⟩ := List.mem_map.1 ((h7 _).2 h)
                  exact List.mem_map_of_mem (f := fun e : En => e.k) (strike_mem.2 ⟨he, r⟩)
            · rw [if_pos ⟨h2, c0, cx, q⟩, List.mem_append, strike_self]
              · rw [h7]; simp
              · intro e he e1
                exact q ((h7 _).1 (e1 ▸ List.mem_map_of_mem (f := fun e : En => e.k) he))
    · rw [if_neg c0] at eU
      have eO' : ∀ m, othK l xk m (n + 1) = othK l xk m n := fun m => by rw [eO, if_neg (fun h => c0 h.2.1)]
      by_cases c1 : x.kd = 1
      · rw [if_pos c1] at eU
        rw [eU, eS]
        by_cases cx : x.k = xk
        · rw [if_pos cx, if_neg c0, if_pos c1]
          rcases ih with ⟨h1, h2⟩ | ⟨m, y, P, Q, h1, h2, h3, h4, h5, h6, h7⟩
          · refine .inl ⟨h1, fun e he e1 => ?_⟩
            have : e.k ∈ (ansE U x.k).map (·.k) := List.mem_map_of_mem (f := fun e : En => e.k) he
            rw [ansE_keys] at this
            obtain ⟨f, hf, e2⟩ := List.mem_map.1 this
            exact h2 f hf (e2.trans e1)
          · refine .inr ⟨m, y, ansE P x.k, ansE Q x.k, h1, by omega, h3, h4, ?_, ?_, ?_⟩
            · rw [h5, ansE_append, ansE_cons_same cx.symm]
            · rw [ansE_len, eO', h6]
            · intro z; rw [ansE_keys, eO', h7]
        · rw [if_neg cx]
          rcases ih with ⟨h1, h2⟩ | ⟨m, y, P, Q, h1, h2, h3, h4, h5, h6, h7⟩
          · refine .inl ⟨h1, fun e he e1 => ?_⟩
            have : e.k ∈ (ansE U x.k).map (·.k) := List.mem_map_of_mem (f := fun e : En => e.k) he
            rw [ansE_keys] at this
            obtain ⟨f, hf, e2⟩ := List.mem_map.1 this
            exact h2 f hf (e2.trans e1)
          · refine .inr ⟨m, y, ansE P x.k, ansE Q x.k, h1, by omega, h3, h4, ?_, ?_, ?_⟩
            · rw [h5, ansE_append, ansE_cons_ne (fun e => cx e.symm)]
            · rw [ansE_len, eO', h6]
            · intro z; rw [ansE_keys, eO', h7]
      · rw [if_neg c1] at eU
        rw [eU, eS]
        have e1 : (if x.k = xk then (if x.kd = 0 then ((n : Int), false) else if x.kd = 1 then ((scanN l xk n).1, true) else scanN l xk n) else scanN l xk n) = scanN l xk n := by
          by_cases cx : x.k = xk
          · rw [if_pos cx, if_neg c0, if_neg c1]
          · rw [if_neg cx]
        rw [e1]
        rcases ih with ⟨h1, h2⟩ | ⟨m, y, P, Q, h1, h2, h3, h4, h5, h6, h7⟩
        · exact .inl ⟨h1, h2⟩
        · exact .inr ⟨m, y, P, Q, h1, by omega, h3, h4, h5, by rw [eO']; exact h6, fun z => by rw [eO']; exact h7 z⟩
set_option maxRecDepth 20000 in
/-- the stage's theorem, plain -/
theorem rule_law {room : Int} (h1 : 1 ≤ room) (l : List Do) (xk : Array Value) (n : Nat) (hn : n ≤ l.length) :
    ((scanN l xk n).1 = -1 ∧ findE (playE room l n) xk = none) ∨ ∃ (m : Nat) (y : Do), (scanN l xk n).1 = m ∧ m < n ∧ l[m]? = some y ∧ y.k = xk ∧
      (((othK l xk m n).length : Int) < room ∧ findE (playE room l n) xk = some ⟨xk, y.a, (scanN l xk n).2⟩ ∨ ¬ ((othK l xk m n).length : Int) < room ∧ findE (playE room l n) xk = none) := by
  have nd := playU_keys l n
  rw [play_lastn h1]
  rcases scan_law l xk n hn with ⟨e1, h2⟩ | ⟨m, y, P, Q, e1, h2, h3, h4, h5, h6, h7⟩
  · exact .inl ⟨e1, findE_none fun e he => h2 e (List.mem_of_mem_drop he)⟩
  · refine .inr ⟨m, y, e1, h2, h3, h4, ?_⟩
    rw [h5] at nd ⊢
    rw [← h6]
    by_cases c : (Q.length : Int) < room
    · refine .inl ⟨c, ?_⟩
      have hm : (⟨xk, y.a, (scanN l xk n).2⟩ : En) ∈ lastn room.toNat (P ++ ⟨xk, y.a, (scanN l xk n).2⟩ :: Q) := by
        unfold lastn
        rw [List.length_append, List.length_cons, List.drop_append]
        refine List.mem_append_right _ ?_
        rw [show P.length + (Q.length + 1) - room.toNat - P.length = 0 by omega]
        exact List.mem_cons_self
      have nd2 : ((lastn room.toNat (P ++ ⟨xk, y.a, (scanN l xk n).2⟩ :: Q)).map (·.k)).Nodup := nd.sublist (List.Sublist.map _ (List.drop_sublist _ _))
      exact findE_some nd2 hm
    · refine .inr ⟨c, findE_none fun e he e1 => ?_⟩
      have hq : e ∈ Q := by
        have : lastn room.toNat (P ++ ⟨xk, y.a, (scanN l xk n).2⟩ :: Q) = lastn room.toNat Q := by
          have e2 : P ++ (⟨xk, y.a, (scanN l xk n).2⟩ : En) :: Q = (P ++ [⟨xk, y.a, (scanN l xk n).2⟩]) ++ Q := by simp
          rw [e2]
          exact lastn_append _ _ (by omega)
        rw [this] at he
        exact List.mem_of_mem_drop he
      rw [List.map_append, List.map_cons, List.nodup_append, List.nodup_cons] at nd
      exact nd.2.1.1 (List.mem_map.2 ⟨e, hq, e1⟩)
set_option maxRecDepth 20000 in
theorem playE_len {room : Int} (h1 : 1 ≤ room) (l : List Do) (n : Nat) : ((playE room l n).length : Int) ≤ room := by
  rw [play_lastn h1, lastn_len]; omega
end Go.Proofs.Ytcflebggepmmcaa
/- horologelaw29: calls ([]Do) in memory; others. -/
namespace Go.Proofs.Ytcflebggepmmcaa
open Go.RowKit Go.Maps

def doC (d : Do) : Array Value := #[.int .u8 d.kd] ++ d.k ++ d.a
/-- calls at a slice's address -/
structure DoS (W : World) (A : Option Addr) (cap : Nat) (l : List Do) : Prop where
  le : l.length ≤ cap
  lim : l.length ≤ 4398046511104
  ok : ∀ d ∈ l, DoOk d
  nil : A = none → cap = 0
  at_ : l = [] ∨ ∃ g off, A = some ⟨g, off, none⟩ ∧ ∀ i, (h : i < l.length) → ∀ j v, (doC l[i]).toList[j]? = some v → W.cell? ⟨g, off + i * 40 + j, none⟩ = some v
set_option maxRecDepth 20000 in
theorem do_split (d : Do) : doC d = #[.int .u8 d.kd] ++ (d.k ++ d.a) := by unfold doC; rw [Array.append_assoc]
set_option maxRecDepth 20000 in
theorem do_kd (d : Do) : (doC d)[0]? = some (.int .u8 d.kd) := by
  rw [do_split, Array.getElem?_append, if_pos (by simp)]
  rfl
set_option maxRecDepth 20000 in
theorem ext_mid (m x r : Array Value) (a b : Nat) (h : m.size = a) (h' : x.size + a = b) : (m ++ x ++ r).extract a b = x := by
  subst h
  refine Array.ext_getElem? fun j => ?_
  rw [Array.getElem?_extract]
  by_cases c : j < x.size
  · rw [if_pos (by simp; omega), Array.getElem?_append, if_pos (by simp; omega), Array.getElem?_append, if_neg (by omega)]
    congr 1
    omega
  · rw [if_neg (by simp; omega), Array.getElem?_eq_none (by omega)]
set_option maxRecDepth 20000 in
instance do_sz (d : Do) [hk : SzA d.k 37] [ha : SzA d.a 2] : SzA (doC d) 40 := ⟨by unfold doC; simp [hk.out, ha.out]⟩
set_option maxRecDepth 20000 in
instance do_one (d : Do) [hk : OneA d.k] [ha : OneA d.a] : OneA (doC d) := by
  unfold doC
  have : OneA #[Value.int .u8 d.kd] := ⟨by rw [Array.all_eq_true_iff_forall_mem]; intro v hv; simp at hv; subst hv; rfl⟩
  infer_instance
set_option maxRecDepth 20000 in
theorem do_key (d : Do) [hk : SzA d.k 37] : (doC d).extract 1 38 = d.k := ext_mid #[.int .u8 d.kd] d.k d.a 1 38 rfl (by rw [hk.out])
set_option maxRecDepth 20000 in
theorem do_at (d : Do) [hk : SzA d.k 37] [ha : SzA d.a 2] : (doC d).extract 38 40 = d.a := by
  have h := ext_mid (#[.int .u8 d.kd] ++ d.k) d.a #[] 38 40 (by simp [hk.out]) (by rw [ha.out])
  rw [Array.append_empty] at h
  exact h
set_option maxRecDepth 20000 in
/-- a struct whose cells are known, each -/
theorem run_loadC (T : TypeId) (n : Nat) [h : RowT T n] (w : World) (g o : Nat) (cs : Array Value) (hs : cs.size = n) (hc : ∀ j v, cs.toList[j]? = some v → w.cell? ⟨g, o + j, none⟩ = some v) :
    (loadF T (.pointer (some ⟨g, o, none⟩))).run Try.prog w = .ok (.agg cs) w := by
  have hr := h.row
  split at hr
  case h_2 => cases hr
  case h_1 d hu =>
    have := run_loadAt_mid w g o T cs.toList d hc hu hr (by rw [h.info]; congr 1; simp [hs])
    rwa [Array.toArray_toList] at this
set_option maxRecDepth 20000 in
theorem DoS.mo {W w : World} {A : Option Addr} {cap : Nat} {l : List Do} (h : DoS W A cap l) (k : Mo W w) : DoS w A cap l := by
  refine ⟨h.le, h.lim, h.ok, h.nil, ?_⟩
  rcases h.at_ with e | ⟨g, off, rfl, hc⟩
  · exact .inl e
  · refine .inr ⟨g, off, rfl, fun i hi j v hv => ?_⟩
    have := hc i hi j v hv
    have : LtW g W := LtW.of_cell this
    rw [k.cell, hc i hi j v hv]
/-! ### the set of keys -/
def SetIs (W : World) (B : Nat) (ks : List (Array Value)) : Prop :=
  ∃ D : DataW Unit, W.ownsMap Try.prog 72 unitElem B ks.length D ∧ Tidy D ∧ size D = ks.length ∧ ∀ kl, has D kl = true ↔ ∃ k ∈ ks, litK k = kl
set_option maxRecDepth 20000 in
theorem SetIs.keep {W w' : World} {B : Nat} {ks : List (Array Value)} (h : SetIs W B ks) (k : w'.heap[B]? = W.heap[B]?) : SetIs w' B ks := by
  obtain ⟨D, ⟨es, clock, hb, F, hs, e⟩, r⟩ := h
  exact ⟨D, ⟨es, clock, k.trans hb, F, hs, e⟩, r⟩
set_option maxRecDepth 20000 in
theorem SetIs.lt {W : World} {B : Nat} {ks : List (Array Value)} (h : SetIs W B ks) : B < W.heap.size := by
  obtain ⟨D, ⟨es, clock, hb, _⟩, _⟩ := h
  exact (Array.getElem?_eq_some_iff.1 hb).1
set_option maxRecDepth 20000 in
theorem SetIs.made (w : World) : SetIs (w.alloc (.map #[] 0)) w.heap.size [] :=
  ⟨.map [], World.ownsMap_made w _ _ _, tidy_empty, rfl, fun kl => (by simp [has])⟩
end Go.Proofs.Ytcflebggepmmcaa
/- pend.All: the entries, one by one, as they stood when it was begun. -/
namespace Go.Proofs.Ytcflebggepmmcaa
open Go.RowKit Go.Maps Go.Shelf

set_option maxRecDepth 20000 in
theorem infoEn : (Try.prog.info? 88).map (fun i => (i.zero, i.size, i.bytes)) = some (some (.agg (enC key0 wdz false)), 40, 72) := by kernel_rfl
/-- what a round keeps: the cells of entries from n0 on -/
structure KpC (n0 : Nat) (W W' : World) : Prop where
  size : W.heap.size ≤ W'.heap.size
  cells : ∀ k, n0 ≤ k → ∀ cs z, W.heap[k]? = some (.cells cs 88 z) → W'.heap[k]? = some (.cells cs 88 z)
set_option maxRecDepth 20000 in
theorem KpC.trans {n0 : Nat} {A B C : World} (h : KpC n0 A B) (k : KpC n0 B C) : KpC n0 A C := ⟨Nat.le_trans h.size k.size, fun i hi cs z q => k.cells i hi cs z (h.cells i hi cs z q)⟩
set_option maxRecDepth 20000 in
theorem KpC.put {n0 : Nat} {w : World} (W : World) (l : Nat) (o o' : Obj) (_ : w.heap.size ≤ l) (h : W.heap[l]? = some o) (hc : o.isCells = false) (_ : o.isWalk = false) : KpC n0 W (W.putObj l o') :=
  ⟨(grownBy_putObj' W l o').size, fun k _ cs z q => ((grownBy_putObj' W l o').block k (Array.getElem?_eq_some_iff.1 q).1 (fun e => by
    obtain rfl : k = l := by simpa using e
    rw [h] at q
    cases q
    cases hc)).trans q⟩
set_option maxRecDepth 20000 in
theorem owns_kpc {W W' : World} {n0 b : Nat} {size : Nat} {v : Value} {n : Nat} {xs : List Value} (h : W.ownsRow b 88 size v n xs) (hb : n0 ≤ b) (k : KpC n0 W W') : W'.ownsRow b 88 size v n xs := by
  refine ⟨h.1, ?_⟩
  rcases h.2 with hn | ⟨g, cap, cur, rfl, hb', hg, rest⟩
  · exact .inl hn
  · exact .inr ⟨g, cap, cur, rfl, hb', k.cells g (by omega) _ _ hg, rest⟩
set_option maxRecDepth 20000 in
theorem news_blk {w : World} {g : Nat} {t : TypeId} {cs : Array Value} (b : Blk w g t cs) (j : Nat) (u : Value) (h : cs.toList[j]? = some u) : w.cell? ((⟨g, 0, none⟩ : Addr).add j) = some u := by
  rw [Go.WideShapes.add_plain, Nat.zero_add, blk_cell b, ← Array.getElem?_toList]
  exact h
set_option maxRecDepth 20000 in
theorem one_list {cs : Array Value} (h : OneA cs) : ∀ u ∈ cs.toList, u.oneCell' = true := by
  have := h.out
  rw [Array.all_eq_true_iff_forall_mem] at this
  intro u hu
  exact this u (by simpa using hu)
def lenOf : Value → Nat
  | .slice _ n _ => n
  | _ => 0
set_option maxRecDepth 20000 in
theorem lenOf_own {w : World} {b : Nat} {e : TypeId} {s n : Nat} {v : Value} {xs : List Value} (h : w.ownsRow b e s v n xs) : lenOf v = n := by
  rcases h.2 with ⟨rfl, h0⟩ | ⟨g, cap, cur, rfl, _⟩
  · exact h0.symm
  · rfl
def rowE (E : List En) : List Value := E.flatMap fun e => (enC e.k e.a e.d).toList
def encE (e : En) : Array Value := #[.agg (enC e.k e.a e.d)]
set_option maxRecDepth 20000 in
theorem en_len {e : En} (h : EnOk e) : (enC e.k e.a e.d).toList.length = 40 := by
  have z1 := key_sz h.k
  have z2 := at_sz h.a
  rw [Array.length_toList]
  exact en_size
set_option maxRecDepth 20000 in
theorem rowE_len : ∀ {E : List En}, (∀ e ∈ E, EnOk e) → (rowE E).length = E.length * 40
  | [], _ => rfl
  | e :: E, h => by
    have ih := rowE_len (E := E) fun x hx => h x (List.mem_cons_of_mem _ hx)
    have e1 : rowE (e :: E) = (enC e.k e.a e.d).toList ++ rowE E := by unfold rowE; rw [List.flatMap_cons]
    rw [e1, List.length_append, ih, en_len (h e List.mem_cons_self), List.length_cons]
    omega
set_option maxRecDepth 20000 in
theorem rowE_append (A B : List En) : rowE (A ++ B) = rowE A ++ rowE B := by unfold rowE; rw [List.flatMap_append]
set_option maxRecDepth 20000 in
theorem rowE_get : ∀ {E : List En}, (∀ e ∈ E, EnOk e) → ∀ (i : Nat) (hi : i < E.length) (j : Nat), j < 40 → (rowE E)[i * 40 + j]? = (enC E[i].k E[i].a E[i].d).toList[j]?
  | e :: E, h, 0, _, j, hj => by
    have e1 : rowE (e :: E) = (enC e.k e.a e.d).toList ++ rowE E := by unfold rowE; rw [List.flatMap_cons]
    rw [e1, Nat.zero_mul, Nat.zero_add, List.getElem?_append_left (by rw [en_len (h e List.mem_cons_self)]; exact hj)]
    rfl
  | e :: E, h, i + 1, hi, j, hj => by
    have e1 : rowE (e :: E) = (enC e.k e.a e.d).toList ++ rowE E := by unfold rowE; rw [List.flatMap_cons]
    rw [e1, List.getElem?_append_right (by rw [en_len (h e List.mem_cons_self)]; omega), en_len (h e List.mem_cons_self)]
    have := rowE_get (E := E) (fun x hx => h x (List.mem_cons_of_mem _ hx)) i (by simpa using hi) j hj
    rw [show (i + 1) * 40 + j - 40 = i * 40 + j by omega, this]
    rfl
def buildSE (n : Nat) (l : Array (Nat × Value)) : Sem Value := Instr.buildSlice 180 n l
set_option maxRecDepth 20000 in
theorem buildSE_fold (n : Nat) (l : Array (Nat × Value)) : Instr.buildSlice 180 n l = buildSE n l := rfl
set_option maxRecDepth 20000 in
theorem run_buildSE (k a : Array Value) (d : Bool) [hk : SzA k 37] [ha : SzA a 2] (w : World) : (buildSE 1 #[(0, .agg (enC k a d))]).run Try.prog w = .ok (.slice (some ⟨w.heap.size, 0, none⟩) 1 1) (w.alloc (.cells (enC k a d) 88)) := by
  obtain ⟨x0, x1, x2, x3, x4, x5, x6, x7, x8, x9, x10, x11, x12, x13, x14, x15, x16, x17, x18, x19, x20, x21, x22, x23, x24, x25, x26, x27, x28, x29, x30, x31, x32, x33, x34, x35, x36, rfl⟩ := arr37 hk.out
  obtain ⟨y0, y1, rfl⟩ := arr2' ha.out
  kernel_rfl
set_option maxRecDepth 20000 in
theorem own_cells {w : World} {b : Nat} {A : Option Addr} {N c : Nat} {E : List En} (h : w.ownsRow b 88 40 (.slice A N c) N (rowE E)) (ok : ∀ e ∈ E, EnOk e) (hN : 0 < N) (q : Nat) (hq : q < E.length) :
    ∃ g c2, Value.slice A N c = .slice (some ⟨g, 0, none⟩) N c2 ∧ ∀ j v, (enC E[q].k E[q].a E[q].d).toList[j]? = some v → w.cell? ⟨g, q * 40 + j, none⟩ = some v := by
  rcases h.2 with ⟨_, h0⟩ | ⟨g, cap, cur, hv, hb, hg, h3, h4, h5, h6⟩
  · omega
  · refine ⟨g, cap, hv, fun j v hj => ?_⟩
    have hj40 : j < 40 := by
      have := (List.getElem?_eq_some_iff.1 hj).1
      rwa [en_len (ok _ (List.getElem_mem hq))] at this
    have h1 := h.1
    rw [rowE_len ok] at h1
    have e1 := rowE_get ok q hq j hj40
    rw [hj, ← h6] at e1
    rw [blk_cell (⟨hg⟩ : Blk w g _ cur), ← Array.getElem?_toList, ← e1, List.getElem?_take_of_lt (by omega)]
attribute [local go_sem] blk_cell' blk_frozen' nd_old nd_new nd_ans nd_key nd_en
attribute [local go_sem ↓] loadF_key loadF_entry storeF_entry buildF_entry buildSE_fold
attribute [local go_sem] run_loadFo run_loadFz run_loadF0 run_storeF0 run_buildSE
set_option maxRecDepth 20000 in
set_option maxHeartbeats 8000000 in
theorem all1_in (n l Bn T B : Nat) (room : Int) (L : List (Nat × En)) (n0 : Nat) (J Jx : List En → World → Prop) (W : World) (hn0 : n0 ≤ W.heap.size) (hT : TabAt W T B room L) (hL : L.length ≤ 65536) (hB : Boxed W Bn 82 (ptr T)) (hJ : AbidesFrom W.heap.size J)
    (hY : ∀ pre x W1, J pre W1 → (∃ r, pre ++ x :: r = L.map (·.2)) → pre.length < (L.map (·.2)).length → YieldAt Fence.wide (n - 1) Try.prog l (encE x) W1 fun e W' =>
      (e = .returned (.bool true) ∧ J (pre ++ [x]) W' ∧ KpC n0 W1 W') ∨ (e = .returned (.bool false) ∧ Jx (pre ++ [x]) W')) (h0 : J [] W) :
    CallsIn Fence.wide n Try.prog 106 #[.func (.yield l) #[] #[], .pointer (some ⟨Bn, 0, none⟩)] W fun e W' => (∃ v, e = .returned v) ∧
      ((∃ xs, xs = L.map (·.2) ∧ J xs W') ∨ (∃ pre, (∃ r, pre ++ r = L.map (·.2)) ∧ Jx pre W')) := by
  refine callsIn_wide.2 ?_
  obtain ⟨i0, hi, hz0, hz1, hz2⟩ := info_parts infoEn
  have hX1 := hB.cell
  have HY := Lib.hid hY
  have HJ := Lib.hid hJ
  have H0 := Lib.hid h0
  have HT := Lib.hid hT
  have HL := Lib.hid hL
  have ht := hT.t
  clear hY hJ h0 hT hL
  generalize hfp : firstP L nilp = fp at *
  generalize lastP nilp L = lp at *
  have HFP := Lib.hid hfp
  clear hfp
  go_enter Try.func106, Try.ntmps106
  go_wp2_with fail
  refine (right_any T B room fp lp _).mono ?_
  rintro e w1 ⟨rfl, M1⟩
  have t1 : Blk w1 T 128 #[.int .i64 room, .map (some B), fp, lp] := M1.blk ht
  have x1 := boxed_mo hB M1
  have hX2 := x1.cell
  have LB : LtW Bn w1 := ⟨x1.lt⟩
  have HJ1 := Lib.hid (HJ.out _ _ _ none H0.out M1.grown (fun r h => by cases h))
  have T1 := Lib.hid (HT.out.mo M1)
  clear ht hB hX1
  go_wp2_with fail
  go_loopw [3, 4] (fun v q wr => ∃ A C : List (Nat × En), L = A ++ C ∧ q = firstP C nilp ∧ wr.ownsRow w1.heap.size 88 40 v A.length (rowE (A.map (·.2))) ∧ Mo w1 wr) (fun v _ _ => L.length - lenOf v)
  case atStart => exact ⟨[], L, rfl, HFP.out.symm, World.ownsRow_nil _ _ _ _, Mo.refl _⟩
  case round =>
    obtain ⟨A, C, hAC, rfl, hown, hM⟩ := hrel
    have HO := Lib.hid hown
    have HAC := Lib.hid hAC
    clear hown hAC
    rcases C with _ | ⟨⟨g, e⟩, C⟩
    · have hL0 : L = A := by rw [HAC.out, List.append_nil]
      subst hL0
      have HO1 := HO
      have hok : ∀ x ∈ L.map (·.2), EnOk x := fun x hx => by
        obtain ⟨q, hq, rfl⟩ := List.mem_map.1 hx
        exact T1.out.ok q hq
      have HOK := Lib.hid hok
      obtain ⟨E, hE⟩ : ∃ E, L.map (·.2) = E := ⟨_, rfl⟩
      obtain ⟨N, hN⟩ : ∃ N, L.length = N := ⟨_, rfl⟩
      have HEN : Hid (E.length = N) := Lib.hid (by rw [← hE, List.length_map, hN])
      rw [hE] at HO1 HOK HY
      rw [hN] at HO1 HL
      have HE := Lib.hid hE
      have HW1 : Hid (n0 ≤ w1.heap.size) := Lib.hid (Nat.le_trans hn0 M1.size)
      obtain ⟨cp, hcp⟩ : ∃ A' c', u3 = .slice A' N c' := by
        rcases HO1.out.2 with ⟨h1, h2⟩ | ⟨g, cap, cur, h1, _⟩
        · exact ⟨none, 0, by rw [h1, h2]⟩
        · exact ⟨_, _, h1⟩
      obtain ⟨c', rfl⟩ := hcp
      have HM := Lib.hid hM
      have HJ2 := Lib.hid (HJ.out _ _ _ none HJ1.out hM.grown (fun r h => by cases h))
      clear HO HAC hok hE hN hM HFP T1 HT
      rw [show firstP [] nilp = nilp from rfl]
      go_wp2_with fail
      go_loopw [29] (fun i wr2 => ∃ q : Nat, q ≤ N ∧ i = .int .i64 q ∧ J (E.take q) wr2 ∧ wr2.ownsRow w1.heap.size 88 40 (.slice cp N c') N (rowE E)) (fun i _ => N - (intOf i).toNat)
      case atStart => exact ⟨0, Nat.zero_le _, rfl, HJ2.out, HO1.out⟩
      case round =>
        obtain ⟨q, hq, rfl, hJq, hown⟩ := hrel
        by_cases cq : q < N
        · have hqE : q < E.length := by rw [HEN.out]; exact cq
          have eok := HOK.out _ (List.getElem_mem hqE)
          obtain ⟨g, c2, e2, hcell⟩ := own_cells hown HOK.out (by omega) q hqE
          have HTK : Hid (E.take (q + 1) = E.take q ++ [E[q]]) := Lib.hid (by rw [List.take_append_getElem])
          have HPX : Hid (∃ r, E.take q ++ E[q] :: r = E) := Lib.hid ⟨E.drop (q + 1), by rw [← List.drop_eq_getElem_cons hqE, List.take_append_drop]⟩
          have z1 := key_sz eok.k
          have z2 := at_sz eok.a
          have y1 := one_of_fits eok.k
          have y2 := one_of_fits eok.a
          have ld := run_loadC 88 40 wr g (q * 40) _ (by rw [← Array.length_toList]; exact en_len eok) hcell
          have HOW := Lib.hid hown
          have HJQ := Lib.hid hJq
          have HLQ : Hid ((E.take q).length < E.length) := Lib.hid (by rw [List.length_take]; omega)
          injection e2 with e2 e3 e4
          subst e2 e4
          have i1 : (0 : Int) ≤ q := by omega
          have i2 : (q : Int) < N := by omega
          clear hcell hown hJq eok
          generalize E[q] = x at *
          clear hqE
          obtain ⟨xk, xa, xd⟩ := x
          simp only at z1 z2 y1 y2 ld
          go_upto_region 9 with (fail)
          refine wp_name ?_
          intro wc hwc
          have bc : Blk wc wr.heap.size 88 (enC xk xa xd) := by rw [hwc]; infer_instance
          have Mc : Mo wr wc := by rw [hwc]; exact Mor.out
          clear hwc ld
          have hJc := HJ.out _ _ _ none HJQ.out Mc.grown (fun r h => by cases h)
          have HOc := Lib.hid (owns_mo HOW.out Mc)
          obtain ⟨fn, tmps, assign, body, hy, hR⟩ := HY.out (E.take q) ⟨xk, xa, xd⟩ wc hJc HPX.out HLQ.out
          dsimp only [encE] at hy
          clear hJc Mc
          refine (wpIn_wide (n := n)).1 ?_
          gi_wp2
          refine ⟨fun h => absurd h (by decide), hR.mono ?_⟩
          rintro e W3 (⟨rfl, hJ3, hK3⟩ | ⟨rfl, hJx3⟩)
          · have HO3 := Lib.hid (owns_kpc HOc.out HW1.out hK3)
            have HJ3 : Hid (J (E.take (q + 1)) W3) := Lib.hid (by rw [HTK.out]; exact hJ3)
            clear hJ3 hK3 hy hR
            gi_wp2
            have hNl := HL.out
            go_wp2_with fail
            go_roundw
            case rel => exact ⟨q + 1, by omega, by go_num, HJ3.out, HO3.out⟩
            case measure => simp [intOf]; omega
          · have HX3 : Hid (Jx (E.take (q + 1)) W3) := Lib.hid (by rw [HTK.out]; exact hJx3)
            clear hJx3 hy hR
            gi_wp2
            go_wp2_with fail
            refine bodyPost_ret (results_none rfl _ _ _) rfl ?_
            exact ⟨⟨_, rfl⟩, .inr ⟨E.take (q + 1), ⟨E.drop (q + 1), by rw [List.take_append_drop, HE.out]⟩, HX3.out⟩⟩
        · obtain rfl : q = N := by omega
          have HF : Hid (J E wr) := Lib.hid (by rwa [List.take_of_length_le (by rw [HEN.out]; exact Nat.le_refl _)] at hJq)
          go_wp2_with fail
          refine bodyPost_end (results_none rfl _ _ _) rfl ?_
          exact ⟨⟨_, rfl⟩, .inl ⟨E, HE.out.symm, HF.out⟩⟩
    · have hseg := T1.out.seg
      rw [HAC.out, seg_append] at hseg
      have bg : Blk w1 g 132 (ndE e (lastP nilp A) (firstP C nilp)) := hseg.2.1
      replace bg := hM.blk bg
      have hok := T1.out.ok (g, e) (by rw [HAC.out]; simp)
      have hAok : ∀ x ∈ A.map (·.2), EnOk x := fun x hx => by
        obtain ⟨q, hq, rfl⟩ := List.mem_map.1 hx
        exact T1.out.ok q (by rw [HAC.out]; exact List.mem_append_left _ hq)
      have HA := Lib.hid (rowE_len hAok)
      obtain ⟨ek, ea, ed⟩ := e
      have zk := key_sz hok.k
      have za := at_sz hok.a
      have ok1 := one_of_fits hok.k
      have oa1 := one_of_fits hok.a
      simp only at zk za ok1 oa1
      have HLEN : Hid (A.length + 1 ≤ 65536) := Lib.hid (by have := HL.out; rw [HAC.out, List.length_append, List.length_cons] at this; omega)
      generalize lastP nilp A = lq at *
      rw [show firstP ((g, (⟨ek, ea, ed⟩ : En)) :: C) nilp = ptr g from rfl]
      generalize hfc : firstP C nilp = fc at *
      have HFC := Lib.hid hfc
      have HS := Lib.hid hok
      clear hseg hok hAok hfc
      have LL := HLEN.out
      go_wp2_with (at_builtin; refine wpList_append_own _ rfl _ _ 180 rfl w1.heap.size 88 i0 (.agg (enC key0 wdz false)) 40 72 Try.underlying180 hi hz0 hz1 hz2 (by kernel_rfl) (by decide) _ _ _ rfl (owns_mo HO.out (Mor.out : Mo wr _)) ⟨wr.heap.size, 0, none⟩ 1 1 (enC ek ea ed).toList rfl ?c1 ?c2 ?c3 ?c4 ?c5 ?c6 ?_)
      case c1 => exact en_size
      case c3 => exact fun u hu => one_list (cs := enC ek ea ed) inferInstance u (by simpa using hu)
      case c4 => unfold maxLen; omega
      case c5 => omega
      case c6 => have := hM.size; omega
      intro v' w2 hown1 hgrow _
      have hM2 : Mo w1 w2 := mo_grown (hM.trans (Mor.out : Mo wr _)) hgrow (fun k e => (HO.out.lt k e).1)
      have bg2 : Blk w2 g 132 (ndC ek ea ed lq fc) := by
        have hg : g < w1.heap.size := seg_lt T1.out.seg (g, ⟨ek, ea, ed⟩) (by rw [HAC.out]; simp)
        refine ⟨(hgrow.block g ?_ ?_).trans ((inferInstance : Blk (wr.alloc (.cells (enC ek ea ed) 88)) g 132 (ndC ek ea ed lq fc)).out)⟩
        · have := (hM.trans (Mor.out : Mo wr (wr.alloc (.cells (enC ek ea ed) 88)))).size; omega
        · intro e; have := (HO.out.lt g e.symm).1; omega
      have HO2 : Hid (w2.ownsRow w1.heap.size 88 40 v' (A ++ [(g, (⟨ek, ea, ed⟩ : En))]).length (rowE ((A ++ [(g, (⟨ek, ea, ed⟩ : En))]).map (·.2)))) := Lib.hid (by
        rw [List.map_append, rowE_append, List.length_append]
        have e : rowE ([(g, (⟨ek, ea, ed⟩ : En))].map (·.2)) = (enC ek ea ed).toList := by unfold rowE; simp
        rw [e]
        exact hown1)
      have ML : Hid (L.length - lenOf v' < L.length - lenOf u3) := Lib.hid (by
        rw [lenOf_own hown1, lenOf_own HO.out, HAC.out, List.length_append, List.length_cons]
        omega)
      have HL3 : Hid (L = A ++ [(g, (⟨ek, ea, ed⟩ : En))] ++ C) := Lib.hid (by rw [HAC.out, List.append_assoc]; rfl)
      clear hown1 hgrow bg
      go_wp2_with fail
      refine ⟨⟨A ++ [(g, ⟨ek, ea, ed⟩)], C, HL3.out, HFC.out.symm, ?_, hM2⟩, ML.out⟩
      clear HY HJ H0 HL T1 HAC HL3 HFC ML hM hM2 bg2 i0 hi hz0 hz1 hz2 HS LL
      have HQ := HO2.out
      clear HO2
      as_aux_lemma => exact HQ
set_option maxRecDepth 20000 in
theorem all_seq (n Bn T B : Nat) (room : Int) (L : List (Nat × En)) (w : World) (hT : TabAt w T B room L) (hL : L.length ≤ 65536) (hB : Boxed w Bn 82 (ptr T)) :
    SeqP Fence.wide n Try.prog 106 #[.pointer (some ⟨Bn, 0, none⟩)] encE (KpC w.heap.size) (fun pre x _ => ∃ r, pre ++ x :: r = L.map (·.2)) (fun xs => xs = L.map (·.2)) (fun pre => ∃ r, pre ++ r = L.map (·.2)) (L.map (·.2)).length w :=
  fun l J Jx W hW hJ _ hY h0 => all1_in n l Bn T B room L w.heap.size J Jx W hW.size (hT.mo (Mo.of hW)) hL (boxed_mo hB (Mo.of hW)) hJ hY h0
end Go.Proofs.Ytcflebggepmmcaa
/- pend.Copy. -/
namespace Go.Proofs.Ytcflebggepmmcaa
open Go.RowKit Go.Maps Go.Shelf

set_option maxRecDepth 20000 in
theorem run_build_nodeD (k a : Array Value) (d : Bool) [hk : SzA k 37] [ha : SzA a 2] (w : World) : (buildF 132 #[(0, .agg (enC k a d))]).run Try.prog w = .ok (.agg (ndC k a d nilp nilp)) w := by
  obtain ⟨x0, x1, x2, x3, x4, x5, x6, x7, x8, x9, x10, x11, x12, x13, x14, x15, x16, x17, x18, x19, x20, x21, x22, x23, x24, x25, x26, x27, x28, x29, x30, x31, x32, x33, x34, x35, x36, rfl⟩ := arr37 hk.out
  obtain ⟨y0, y1, rfl⟩ := arr2' ha.out
  exact run_build w _ _ _ (by kernel_rfl)
set_option maxRecDepth 20000 in
/-- a table's blocks: the map, and cells that are no entries -/
theorem foot_obj {W : World} {T B : Nat} {room : Int} {L : List (Nat × En)} (h : TabAt W T B room L) {i : Nat} (hf : Foot T B L i) : i = B ∨ ∃ cs t z, W.heap[i]? = some (.cells cs t z) ∧ t ≠ 88 := by
  rcases hf with rfl | rfl | ⟨q, hq, rfl⟩
  · exact .inr ⟨_, _, _, h.t.out, by decide⟩
  · exact .inl rfl
  · obtain ⟨o, x, b⟩ := seg_blk h.seg q hq
    exact .inr ⟨_, _, _, b.out, by decide⟩
set_option maxRecDepth 20000 in
/-- a table is kept by what an iterator's law does to its own blocks -/
theorem tabAt_grown {W W' : World} {n T B : Nat} {room : Int} {L : List (Nat × En)} {row : Option Nat} (h : TabAt W T B room L) (hB : B < n) (hg : W.grownBy W' row) (hr : ∀ r, row = some r → n ≤ r ∧ ∃ o : Obj, W.heap[r]? = some o ∧ o.isCells = false) : TabAt W' T B room L :=
  h.keep fun i hi hf => hg.block i hi fun e => by
    obtain ⟨h1, o, h2, h3⟩ := hr i e.symm
    rcases foot_obj h hf with rfl | ⟨cs, t, z, h4, _⟩
    · omega
    · rw [h4] at h2; cases h2; cases h3
set_option maxRecDepth 20000 in
theorem blk_grown' {W W' : World} {n g : Nat} {t : TypeId} {cs : Array Value} {row : Option Nat} (b : Blk W g t cs) (hg : W.grownBy W' row) (hr : ∀ r, row = some r → n ≤ r ∧ ∃ o : Obj, W.heap[r]? = some o ∧ o.isCells = false) : Blk W' g t cs :=
  ⟨(hg.block g b.lt fun e => by
    obtain ⟨h1, o, h2, h3⟩ := hr g e.symm
    rw [b.out] at h2; cases h2; cases h3).trans b.out⟩
structure CopyI (W0 : World) (T B cb n : Nat) (room : Int) (pre : List En) (W : World) : Prop where
  tab : ∃ L, TabAt W T B room L ∧ L.map (·.2) = pre ∧ ∀ q ∈ L, n ≤ q.1
  box : Blk W cb 82 #[ptr T]
  bel : Below W0.heap.size W0 W
set_option maxRecDepth 20000 in
theorem copyI_own {W0 : World} {T B cb n : Nat} {room : Int} (hB : B < n) (hn : W0.heap.size ≤ n) : OwnFrom n (CopyI W0 T B cb n room) := fun _ _ _ _ hs hg hr => by
  obtain ⟨⟨L, h1, h2, h3⟩, b, bel⟩ := hs
  exact ⟨⟨L, tabAt_grown h1 hB hg hr, h2, h3⟩, blk_grown' b hg hr, bel.grown hg bel.size (fun k e => Nat.le_trans hn (hr k e).1)⟩
set_option maxRecDepth 20000 in
theorem CopyI.alloc {W0 : World} {T B cb n : Nat} {room : Int} {pre : List En} {W : World} (h : CopyI W0 T B cb n room pre W) (o : Obj) : CopyI W0 T B cb n room pre (W.alloc o) := by
  obtain ⟨⟨L, h1, h2, h3⟩, b, bel⟩ := h
  exact ⟨⟨L, h1.mo (Mor.out : Mo W (W.alloc o)), h2, h3⟩, inferInstance, bel.alloc bel.size o⟩
set_option maxRecDepth 20000 in
/-- what a push keeps -/
theorem push_keeps {Wr w' : World} {n T B g : Nat} {room : Int} {L : List (Nat × En)} (h : TabAt Wr T B room L) (hB : B < n) (k : KpS (fun k => k = g ∨ Foot T B L k) Wr w') (hg : Wr.heap.size ≤ g) : KeepsFrom n Wr w' ∧ KpC n Wr w' := by
  refine ⟨⟨k.size, fun i o hi ho hc => ?_⟩, ⟨k.size, fun i hi cs z ho => ?_⟩⟩
  · have hlt := (Array.getElem?_eq_some_iff.1 ho).1
    rw [k.block i hlt (fun hs => ?_)]
    · exact ho
    · rcases hs with rfl | hf
      · omega
      · rcases foot_obj h hf with rfl | ⟨cs, t, z, h4, _⟩
        · omega
        · rw [h4] at ho; cases ho; cases hc
  · have hlt := (Array.getElem?_eq_some_iff.1 ho).1
    rw [k.block i hlt (fun hs => ?_)]
    · exact ho
    · rcases hs with rfl | hf
      · omega
      · rcases foot_obj h hf with rfl | ⟨cs', t, z', h4, h5⟩
        · omega
        · rw [h4] at ho; cases ho; exact h5 rfl
set_option maxRecDepth 20000 in
theorem copy_ret {R : Ending → World → Prop} {a : Act} {w : World} (v : Value) (D : Nat)
    (h2 : a.tmps.getD 2 undef = v) (hd : a.defers = [{ target := Target.collected D, args := #[] }])
    (hK : w.heap[D]? = some (.deferred (some [])))
    (hR : R (.returned v) (w.putObj D (.deferred none))) : bodyPostM Fence.wide 6 Try.prog Try.f49 R .ret a w := by
  obtain ⟨tm, df⟩ := a
  simp only at h2 hd
  subst hd
  refine ⟨by simp, .inl ⟨_, _, rfl, run_takeDeferred hK, ?_⟩⟩
  refine ⟨v, ?_, hR⟩
  have k2 : tm[2]?.getD undef = v := by simpa using h2
  simp [results, Try.results49, go_sem, k2]
def CopyRet (room : Int) (L : List (Nat × En)) (W : World) (e : Ending) (w' : World) : Prop := ∃ T' B' L', e = .returned (ptr T') ∧ TabAt w' T' B' room L' ∧ L'.map (·.2) = L.map (·.2) ∧ Mo W w' ∧ ∀ i, Foot T' B' L' i → W.heap.size ≤ i
attribute [local go_sem] Oper.semAt_some
attribute [local go_sem] blk_cell' blk_frozen' nd_old nd_new nd_ans nd_key nd_en
attribute [local go_sem ↓] loadF_key loadF_entry storeF_entry buildF_entry buildF_node
attribute [local go_sem] run_loadFo run_loadFz run_loadF0 run_storeF0 run_build_nodeD
set_option maxRecDepth 20000 in
set_option maxHeartbeats 8000000 in
theorem copy_any (T B : Nat) (room : Int) (L : List (Nat × En)) (W : World) (hT : TabAt W T B room L) (hL : L.length ≤ 65536) (r1 : 1 ≤ room) (r2 : room ≤ 65536) :
    Calls Try.prog 49 #[ptr T] W (CopyRet room L W) := by
  have HT := Lib.hid hT
  have ht := hT.t
  generalize firstP L nilp = fp at *
  generalize lastP nilp L = lp at *
  clear hT
  refine (callsIn_wide (n := 6)).1 ?_
  refine callsIn_of_wp_marks Try.func49 rfl trivial ?_ rfl
  simp only [Try.ntmps49, List.size_toArray, List.length_cons, List.length_nil, Nat.reduceAdd, Nat.reduceSub, Array.replicate_succ, Array.replicate_zero, List.push_toArray, List.append_toArray, List.nil_append, List.cons_append]
  refine wpIn_wide.2 ?_
  go_wp2_with fail
  refine (right_any T B room fp lp _).mono ?_
  rintro e w1 ⟨rfl, M1⟩
  have t1 : Blk w1 T 128 #[.int .i64 room, .map (some B), fp, lp] := M1.blk ht
  clear ht
  go_wp2_with fail
  refine (new_any room _).mono ?_
  rintro e w2 ⟨M2, ⟨-, -, T', B', rfl, tt, hT', hB'⟩ | ⟨hno, -⟩⟩
  rotate_left
  · exact absurd ⟨r1, r2⟩ hno
  have N2 := M1.trans M2
  go_wp2_with fail
  refine (all_any _ _).mono ?_
  rintro e w3 ⟨rfl, rfl⟩
  go_wp2_with fail
  obtain ⟨w, hw⟩ : ∃ w, (w2.alloc (.cells #[.pointer (some ⟨T', 0, none⟩)] 82)).alloc (.cells #[.pointer (some ⟨T, 0, none⟩)] 82) = w := ⟨_, rfl⟩
  have x0 : Blk w w2.heap.size 82 #[ptr T'] := by rw [← hw]; infer_instance
  have x1 : Boxed w (w2.heap.size + 1) 82 (ptr T) := by rw [← hw]; exact (inferInstance : Blk _ _ _ _).out
  have hMw : Mo w2 w := by rw [← hw]; exact Mor.out
  rw [hw]
  have hsz : w2.heap.size ≤ w.heap.size := hMw.size
  clear hw
  have hB2 : B' < w.heap.size := by have := tt.lt B' (.inr (.inl rfl)); omega
  have hWT : W.heap.size ≤ T' := Nat.le_trans M1.size hT'
  have hWB : W.heap.size ≤ B' := Nat.le_trans M1.size hB'
  have hWw : W.heap.size ≤ w.heap.size := Nat.le_trans N2.size hsz
  have hTw : T' < w.heap.size := by have := tt.t.lt; omega
  refine (wpIn_wide (n := 6)).1 ?_
  refine wpIn_range_px (F := Fence.wide) (n := 6) (w0 := w) rfl (by omega) (gf := 106) (lb := #[.pointer (some ⟨w2.heap.size + 1, 0, none⟩)]) rfl trivial (enters_of Try.func106 (by kernel_rfl) rfl)
    (all_seq 5 _ T B room L w (HT.out.mo (N2.trans hMw)) hL x1) KpC.trans (KpC.put (w := w)) (Below.refl _ _) (fun _ => rfl)
    (CopyI W T' B' w2.heap.size w.heap.size room) (fun _ _ _ => False)
    (copyI_own hB2 hWw) (fun _ _ _ _ _ h _ _ => h.elim)
    ⟨⟨[], tt.mo hMw, rfl, fun q hq => (by cases hq)⟩, x0, (N2.trans hMw).below⟩
    (fun pre x a' W' => ∃ Bx, Blk W' Bx 88 (enC x.k x.a x.d) ∧ (∃ r, pre ++ x :: r = L.map (·.2)) ∧ a' = (⟨#[ptr T, undef, .pointer none, ptr w2.heap.size, .int .i64 0, ptr Bx, ptr T, .bool true, .bool false, .tuple #[ptr T', .int .i64 0], ptr T, .pointer (some ⟨T, 0, none⟩), .pointer (some ⟨T, 0, none⟩), .int .i64 room, .tuple #[ptr T', .int .i64 0], ptr T', .int .i64 0, ptr T, .func (.func 106) #[] #[.pointer (some ⟨w2.heap.size + 1, 0, none⟩)], .agg (enC x.k x.a x.d), undef, undef, undef, undef, undef, undef], []⟩ : Act))
    (fun pre x a' _ _ W' row h hg hr => by
      obtain ⟨Bx, h1, h2, h3⟩ := h
      exact ⟨Bx, blk_grown' h1 hg hr, h2, h3⟩)
    ?assign ?body ?done ?stop
  case stop => intro _ _ _ _ _ _ h; exact h.elim
  case assign =>
    rintro l pre ⟨xk, xa, xd⟩ Wr K hI hP hK
    have eok : EnOk ⟨xk, xa, xd⟩ := by
      obtain ⟨r, hr⟩ := hP
      have hm : (⟨xk, xa, xd⟩ : En) ∈ L.map (·.2) := by rw [← hr]; simp
      obtain ⟨q, hq, e⟩ := List.mem_map.1 hm
      rw [← e]
      exact HT.out.ok q hq
    have z1 := key_sz eok.k
    have z2 := at_sz eok.a
    have y1 := one_of_fits eok.k
    have y2 := one_of_fits eok.a
    have HP := Lib.hid hP
    simp only at z1 z2 y1 y2
    clear hP eok
    dsimp only [encE]
    gi_wp2
    exact hK _ _ ((KeepsOthers.alloc _ _).from _) ⟨by simp, fun k _ cs z h => (Below.heap_alloc _ _ _ (Array.getElem?_eq_some_iff.1 h).1).trans h⟩ (hI.alloc _) ⟨Wr.heap.size, inferInstance, HP.out, rfl⟩
  case body =>
    rintro l pre ⟨xk, xa, xd⟩ a' Wr hl ⟨r, hr⟩ ⟨⟨L', h1, rfl, h3⟩, cbx, bel⟩ ⟨Bx, hbx, ⟨r2, hmore⟩, rfl⟩ hlt
    have hlr : l < Wr.heap.size := (Array.getElem?_eq_some_iff.1 hr).1
    clear hr
    have eok : EnOk ⟨xk, xa, xd⟩ := by
      have hm : (⟨xk, xa, xd⟩ : En) ∈ L.map (·.2) := by rw [← hmore]; simp
      obtain ⟨q, hq, e⟩ := List.mem_map.1 hm
      rw [← e]
      exact HT.out.ok q hq
    have z1 := key_sz eok.k
    have z2 := at_sz eok.a
    have y1 := one_of_fits eok.k
    have y2 := one_of_fits eok.a
    simp only at z1 z2 y1 y2 hbx
    have hnk : ∀ q ∈ L', q.2.k ≠ xk := fun q hq e => by
      have nd := HT.out.keys
      have e2 : L.map (·.2.k) = (L.map (·.2)).map (·.k) := by rw [List.map_map]; rfl
      rw [e2, ← hmore, List.map_append, List.map_cons, List.nodup_append] at nd
      exact nd.2.2 _ (List.mem_map_of_mem (f := fun e : En => e.k) (List.mem_map_of_mem (f := fun q : Nat × En => q.2) hq)) _ List.mem_cons_self e
    have hl' : L'.length ≤ 65536 := by
      rw [List.length_map, List.length_map] at hlt
      omega
    have PU := Lib.hid (fun w' (M : Mo Wr w') (b : Blk w' Wr.heap.size 132 (ndC xk xa xd nilp nilp)) => push_any T' B' Wr.heap.size room L' ⟨xk, xa, xd⟩ nilp nilp w' (h1.mo M) b (fun e => by have := h1.t.lt; omega) (fun q hq e => by have := seg_lt h1.seg q hq; omega) eok hnk hl')
    have HH := Lib.hid h1
    have H3 := Lib.hid h3
    have HM := Lib.hid hmore
    have HB := Lib.hid bel
    clear h1 h3 hmore bel hnk eok hlt hl'
    gi_wp2
    refine ⟨trivial, CallsIn.inRound l ((callsIn_wide.2 (PU.out _ Mor.out inferInstance)).mono ?_)⟩
    rintro e w9 ⟨rfl, tt9, kp9⟩
    gi_wp2
    have K9 : KpS (fun k => k = Wr.heap.size ∨ Foot T' B' L' k) Wr w9 := KpS.trans (S' := fun k => k = Wr.heap.size ∨ Foot T' B' L' k) (KpS.of_mo (Mor.out : Mo Wr (Wr.alloc (.cells (ndC xk xa xd nilp nilp) 132)))) kp9 fun _ _ q => q
    obtain ⟨q1, q2⟩ := push_keeps HH.out hB2 K9 (Nat.le_refl _)
    refine ⟨q1, q2, ⟨_, tt9, by rw [List.map_append]; rfl, fun q hq => ?_⟩, K9.blk cbx ?_, ?_⟩
    · rcases List.mem_append.1 hq with h | h
      · exact H3.out q h
      · rw [List.mem_singleton] at h; subst h
        show w.heap.size ≤ Wr.heap.size
        omega
    · rintro (h | h)
      · have := cbx.lt; omega
      · rcases h with h | h | ⟨q, hq, h⟩
        · have := tt.t.lt; omega
        · have := tt.lt B' (.inr (.inl rfl)); omega
        · obtain ⟨o, x, b⟩ := seg_blk HH.out.seg q hq
          have h5 := b.out
          rw [h, cbx.out] at h5
          injection h5 with h5
          injection h5 with _ h5
          exact absurd h5 (by decide)
    · have hm : Mo W Wr := Mo.of HB.out
      refine (KpS.mo K9 hm fun k hk hs => ?_).below
      rcases hs with rfl | rfl | rfl | ⟨q, hq, rfl⟩
      · exact hm.size
      · exact hWT
      · exact hWB
      · exact Nat.le_trans hWw (H3.out q hq)
  case done =>
    rintro D xs Wr hD rfl ⟨⟨L', h1, h2, h3⟩, cbx, bel⟩ hK
    have hM : Mo W Wr := Mo.of bel
    go_wp2_with fail
    refine copy_ret (ptr T') D rfl rfl hK ⟨T', B', L', rfl, tabAt_grown h1 hB2 (grownBy_putObj' Wr D _) (fun r e => by cases e; exact ⟨hD, _, hK, rfl⟩), h2, Mo.of_below hM (belowK_b (w := w) hWw _ D _ _ hD hK rfl rfl), ?_⟩
    rintro i (rfl | rfl | ⟨q, hq, rfl⟩)
    · exact hWT
    · exact hWB
    · exact Nat.le_trans hWw (h3 q hq)
set_option maxRecDepth 20000 in
theorem copy_e (T B : Nat) (room : Int) (E : List En) (P : Nat → Prop) (W : World) (h : TabE W T B room E P) (hL : E.length ≤ 65536) (r1 : 1 ≤ room) (r2 : room ≤ 65536) :
    Calls Try.prog 49 #[ptr T] W fun e w' => ∃ T' B', e = .returned (ptr T') ∧ TabE w' T' B' room E (fun i => W.heap.size ≤ i) ∧ Mo W w' := by
  obtain ⟨L, h1, rfl, h3⟩ := h
  refine (copy_any T B room L W h1 (by rwa [List.length_map] at hL) r1 r2).mono ?_
  rintro e w' ⟨T', B', L', h4, h5, h6, h7, h8⟩
  exact ⟨T', B', h4, ⟨L', h5, h6, h8⟩, h7⟩
end Go.Proofs.Ytcflebggepmmcaa
