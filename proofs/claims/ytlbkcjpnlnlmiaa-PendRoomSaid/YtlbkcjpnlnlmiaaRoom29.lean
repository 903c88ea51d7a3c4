/- horologelaw29.PendRoom returns true: the walk (printed by gen/genroom.py). -/
import Derived.Test.YtlbkcjpnlnlmiaaPendX
import Derived.Test.YtlbkcjpnlnlmiaaRule29
import Derived.Deep.DeepCutAuto
namespace Go.Proofs.Ytlbkcjpnlnlmiaa
open Go.RowKit Go.Maps Go.Shelf

set_option maxRecDepth 20000 in
theorem hasE_keys {E : List En} {k : Array Value} : hasE E k = true ↔ k ∈ E.map (·.k) := by
  unfold hasE
  rw [List.any_eq_true, List.mem_map]
  constructor
  · rintro ⟨e, he, q⟩; exact ⟨e, he, eqA_iff.1 q⟩
  · rintro ⟨e, he, rfl⟩; exact ⟨e, he, eqA_self _⟩
set_option maxRecDepth 20000 in
theorem hasE_not {E : List En} {k : Array Value} (h : hasE E k = false) : ∀ e ∈ E, e.k ≠ k := fun e he q => by
  have : hasE E k = true := hasE_keys.2 (q ▸ List.mem_map_of_mem (f := fun e : En => e.k) he)
  rw [h] at this
  cases this
set_option maxRecDepth 20000 in
theorem ask_in {room : Int} {E : List En} {k a : Array Value} (nd : (E.map (·.k)).Nodup) (hl : (E.length : Int) ≤ room) (h : hasE E k = true) : askE room E k a = (true, none, strike E k ++ [⟨k, a, false⟩]) ∧ (strike E k ++ [(⟨k, a, false⟩ : En)]).length = E.length := by
  have hk := strike_len nd (hasE_keys.1 h)
  have e1 : (strike E k ++ [(⟨k, a, false⟩ : En)]).length = E.length := by rw [List.length_append, List.length_singleton]; exact hk
  exact ⟨by rw [ask_le rfl (by rw [e1]; exact hl), h], e1⟩
set_option maxRecDepth 20000 in
theorem ask_room {room : Int} {E : List En} {k a : Array Value} (hl : (E.length : Int) < room) (h : hasE E k = false) : askE room E k a = (false, none, E ++ [⟨k, a, false⟩]) := by
  rw [ask_le (X := E ++ [⟨k, a, false⟩]) (by rw [strike_self (hasE_not h)]) (by rw [List.length_append, List.length_singleton]; omega), h]
set_option maxRecDepth 20000 in
theorem ask_full {room : Int} {e : En} {E : List En} {k a : Array Value} (hl : ((e :: E).length : Int) = room) (h : hasE (e :: E) k = false) : askE room (e :: E) k a = (false, some e, E ++ [⟨k, a, false⟩]) := by
  rw [ask_gt (x := e) (X := E ++ [⟨k, a, false⟩]) (by rw [strike_self (hasE_not h)]; rfl) (by rw [List.length_cons] at *; rw [List.length_append, List.length_singleton]; omega), h]
set_option maxRecDepth 20000 in
theorem has_new (E : List En) (k a : Array Value) : hasE (E ++ [(⟨k, a, false⟩ : En)]) k = true := hasE_keys.2 (by simp)
/-- no mark of deferred calls -/
def NoDef (W : World) (i : Nat) : Prop := ∀ ds, W.heap[i]? ≠ some (.deferred ds)
set_option maxRecDepth 20000 in
theorem TabE.noDef {W : World} {T B : Nat} {room : Int} {E : List En} {P : Nat → Prop} (h : TabE W T B room E P) : TabE W T B room E (fun i => P i ∧ NoDef W i) := by
  obtain ⟨L, h1, h2, h3⟩ := h
  refine ⟨L, h1, h2, fun i hf => ⟨h3 i hf, fun ds e => ?_⟩⟩
  rcases hf with rfl | rfl | ⟨q, hq, rfl⟩
  · rw [h1.t.out] at e; cases e
  · obtain ⟨_, _, hb⟩ := h1.map.isMap
    rw [hb] at e; cases e
  · obtain ⟨o, x, b⟩ := seg_blk h1.seg q hq
    rw [b.out] at e; cases e
/-- the marks that the loop has left -/
structure Marks (n0 : Nat) (W : World) (Ds : List Nat) : Prop where
  nd : Ds.Nodup
  low : ∀ D ∈ Ds, n0 ≤ D
  out : ∀ D ∈ Ds, W.heap[D]? = some (.deferred (some []))
abbrev markL (Ds : List Nat) : List Deferred := Ds.map fun D => { target := Target.collected D, args := #[] }
set_option maxRecDepth 20000 in
theorem marks_nil (n0 : Nat) (W : World) : Marks n0 W [] := ⟨List.nodup_nil, fun _ h => absurd h List.not_mem_nil, fun _ h => absurd h List.not_mem_nil⟩
set_option maxRecDepth 20000 in
theorem Marks.keep {n0 : Nat} {W w : World} {Ds : List Nat} (h : Marks n0 W Ds) (k : ∀ i, i < W.heap.size → (∃ ds, W.heap[i]? = some (.deferred ds)) → w.heap[i]? = W.heap[i]?) : Marks n0 w Ds :=
  ⟨h.nd, h.low, fun D hD => (k D (Array.getElem?_eq_some_iff.1 (h.out D hD)).1 ⟨_, h.out D hD⟩).trans (h.out D hD)⟩
set_option maxRecDepth 20000 in
theorem Marks.mo {n0 : Nat} {W w : World} {Ds : List Nat} (h : Marks n0 W Ds) (k : Mo W w) : Marks n0 w Ds := h.keep fun i hi _ => k.below.block i hi
set_option maxRecDepth 20000 in
theorem Marks.kp {n0 : Nat} {W w : World} {Ds : List Nat} {S : Nat → Prop} (h : Marks n0 W Ds) (k : KpS S W w) (hS : ∀ i, S i → NoDef W i) : Marks n0 w Ds := h.keep fun i hi ⟨ds, e⟩ => k.block i hi fun s => hS i s ds e
set_option maxRecDepth 20000 in
theorem Marks.cons {n0 : Nat} {W w : World} {Ds : List Nat} {D : Nat} (h : Marks n0 W Ds) (k : ∀ i, i < W.heap.size → (∃ ds, W.heap[i]? = some (.deferred ds)) → w.heap[i]? = W.heap[i]?) (hD : W.heap.size ≤ D) (hn : n0 ≤ D) (e : w.heap[D]? = some (.deferred (some []))) : Marks n0 w (D :: Ds) := by
  have h2 := h.keep k
  refine ⟨List.nodup_cons.2 ⟨fun hm => ?_, h.nd⟩, fun x hx => ?_, fun x hx => ?_⟩
  · have := (Array.getElem?_eq_some_iff.1 (h.out D hm)).1; omega
  · rcases List.mem_cons.1 hx with rfl | hx
    · exact hn
    · exact h.low x hx
  · rcases List.mem_cons.1 hx with rfl | hx
    · exact e
    · exact h2.out x hx
set_option maxRecDepth 20000 in
theorem leaves_marks {fn : Func} {tmps : Array Value} {R : Ending → World → Prop} {v : Value} {V : World} {n : Nat} (hres : ∀ w, (results fn tmps).run Try.prog w = .ok v w) : ∀ (Ds : List Nat) (w : World), Marks V.heap.size w Ds → Mo V w → (∀ w', Mo V w' → R (.returned v) w') → LeavesInM Fence.wide n Try.prog fn tmps R (markL Ds) .returning w
  | [], w, _, hm, hR => ⟨v, hres w, hR w hm⟩
  | D :: Ds, w, h, hm, hR => by
    have hK := h.out D List.mem_cons_self
    have hD := h.low D List.mem_cons_self
    have hm' : Mo V (w.putObj D (.deferred none)) := Mo.of_below hm (belowK_b (w := V) (Nat.le_refl _) _ D _ _ hD hK rfl rfl)
    have h' : Marks V.heap.size (w.putObj D (.deferred none)) Ds := by
      refine ⟨(List.nodup_cons.1 h.nd).2, fun x hx => h.low x (List.mem_cons_of_mem _ hx), fun x hx => ?_⟩
      have hne : x ≠ D := fun e => (List.nodup_cons.1 h.nd).1 (e ▸ hx)
      exact (World.putObj_heap_other hne).trans (h.out x (List.mem_cons_of_mem _ hx))
    exact ⟨by simp, .inl ⟨D, _, rfl, run_takeDeferred hK, leaves_marks hres Ds _ h' hm' hR⟩⟩
/-- what the loop has found first -/
def FirstOf (E : List En) (k : Array Value) (f : En) : Prop := EnOk f ∧ ∀ e E', E = e :: E' → hasE E k = false → f = e
structure RoomI (V : World) (g b0 : Nat) (cb k : Array Value) (pre : List En) (W : World) : Prop where
  bel : Below V.heap.size V W
  b : Blk W b0 42 cb
  f : (pre = [] ∧ Blk W g 45 (enC key0 wdz false)) ∨ ∃ e, EnOk e ∧ Blk W g 45 (enC e.k e.a e.d)
  all : ∀ e ∈ pre, e.k = k
structure RoomX (V : World) (g b0 : Nat) (cb k : Array Value) (c : Code) (pre : List En) (W : World) : Prop where
  c : c = .exit 2
  bel : Below V.heap.size V W
  b : Blk W b0 42 cb
  f : ∃ p e, pre = p ++ [e] ∧ EnOk e ∧ Blk W g 45 (enC e.k e.a e.d) ∧ e.k ≠ k ∧ ∀ e ∈ p, e.k = k
set_option maxRecDepth 20000 in
theorem roomI_own {V : World} {g b0 n : Nat} {cb k : Array Value} (hn : V.heap.size ≤ n) : OwnFrom n (RoomI V g b0 cb k) := fun _ _ _ _ hs hg hr =>
  ⟨hs.bel.grown hg hs.bel.size (fun k e => Nat.le_trans hn (hr k e).1), blk_grown' hs.b hg hr, by
    rcases hs.f with ⟨h, b⟩ | ⟨e, h, b⟩
    · exact .inl ⟨h, blk_grown' b hg hr⟩
    · exact .inr ⟨e, h, blk_grown' b hg hr⟩, hs.all⟩
set_option maxRecDepth 20000 in
theorem RoomI.alloc {V : World} {g b0 : Nat} {cb k : Array Value} {pre : List En} {W : World} (h : RoomI V g b0 cb k pre W) (o : Obj) : RoomI V g b0 cb k pre (W.alloc o) :=
  ⟨h.bel.alloc h.bel.size o, (Mor.out : Mo W (W.alloc o)).blk h.b, by
    rcases h.f with ⟨h, b⟩ | ⟨e, h, b⟩
    · exact .inl ⟨h, (Mor.out : Mo W (W.alloc o)).blk b⟩
    · exact .inr ⟨e, h, (Mor.out : Mo W (W.alloc o)).blk b⟩, h.all⟩
set_option maxRecDepth 20000 in
theorem roomX_own {V : World} {g b0 n : Nat} {cb k : Array Value} (c : Code) (hn : V.heap.size ≤ n) : OwnFrom n (RoomX V g b0 cb k c) := fun _ _ _ _ hs hg hr => by
  obtain ⟨p, e, h1, h2, h3, h4, h5⟩ := hs.f
  exact ⟨hs.c, hs.bel.grown hg hs.bel.size (fun k e => Nat.le_trans hn (hr k e).1), blk_grown' hs.b hg hr, p, e, h1, h2, blk_grown' h3 hg hr, h4, h5⟩
set_option maxRecDepth 20000 in
theorem row_set_keeps {Wr : World} {n g : Nat} (h : g < n) (cs : Array Value) : KeepsFrom n Wr (Wr.setRow g cs) ∧ KpC n Wr (Wr.setRow g cs) := by
  have sz : Wr.heap.size ≤ (Wr.setRow g cs).heap.size := Nat.le_of_eq (setRow_size' Wr g cs).symm
  have key : ∀ k o, n ≤ k → Wr.heap[k]? = some o → (Wr.setRow g cs).heap[k]? = some o := fun k o hk ho => by
    rw [setRow_get_ne Wr g k cs (by omega)]
    exact ho
  exact ⟨⟨sz, fun k o hk ho _ => key k o hk ho⟩, ⟨sz, fun k hk cs z ho => key k _ hk ho⟩⟩
attribute [local go_sem] blk_cell' blk_frozen' do_kd do_key do_at en_at' en_key' en_ans
attribute [local go_sem ↓] loadF_key loadF_do storeF_do loadF_entry storeF_entry loadF_wide' neqF_key3 neqF_entry9
attribute [local go_sem] run_loadFo run_loadFz run_loadF0 run_storeF0
attribute [local go_sem] Oper.semAt_some
set_option maxRecDepth 20000 in
set_option maxHeartbeats 40000000 in
theorem room29_any (room : Int) (A : Option Addr) (cap L : Nat) (l : List Do) (W : World) (hr : -9223372036854775808 ≤ room ∧ room ≤ 9223372036854775807) (hL : l.length = L) (h : DoS W A cap l) :
    Calls Try.prog 4 #[.int .i64 room, .slice A L cap] W fun e w' => e = .returned (.bool true) ∧ Mo W w' := by
  have WK := Lib.hid works29_any
  have HD := Lib.hid h
  have hlim := h.lim
  rw [hL] at hlim
  have HL := Lib.hid hL
  clear h hL
  refine (callsIn_wide (n := 6)).1 ?_
  refine callsIn_of_wp_marks Try.func4 rfl trivial ?_ rfl
  simp only [Try.ntmps4, List.size_toArray, List.length_cons, List.length_nil, Nat.reduceAdd, Nat.reduceSub, Array.replicate_succ, Array.replicate_zero, List.push_toArray, List.append_toArray, List.nil_append, List.cons_append]
  refine wpIn_wide.2 ?_
  by_cases c0 : 200 < L
  · have d0 : decide (200 < (L : Int)) = true := decide_eq_true (by omega)
    go_wp2_with fail
    refine (WK.out _).mono ?_
    rintro e w1 ⟨rfl, M1⟩
    go_wp2_with fail
    exact ⟨.bool true, by simp [results, Try.results4, go_sem], rfl, Mo.trans Mor.out M1⟩
  have d0 : decide (200 < (L : Int)) = false := decide_eq_false (by omega)
  go_wp2_with fail
  refine (WK.out _).mono ?_
  rintro e w1 ⟨rfl, M1⟩
  have M1' := (Mor.out : Mo W _).trans M1
  clear M1 WK
  go_wp2_with fail
  by_cases cr : 1 ≤ room ∧ room ≤ 65536
  rotate_left
  · refine (new_out room cr _).mono ?_
    rintro e w2 ⟨rfl, M2⟩
    go_wp2_with fail
    exact ⟨.bool true, by simp [results, Try.results4, go_sem], rfl, M1'.trans (Mo.trans Mor.out M2)⟩
  refine (new_in room cr _).mono ?_
  rintro e w2 ⟨T, B, rfl, T2, M2⟩
  have M2' : Mo W w2 := M1'.trans (Mo.trans Mor.out M2)
  replace T2 := T2.weak (Q := fun i => W.heap.size ≤ i) fun i _ h => Nat.le_trans (M1'.trans Mor.out).size h
  clear M2 M1'
  go_wp2_with fail
  refine wp_loop (fun a' w' => ∃ (u4 u8 u9 u10 u11 u12 u13 u14 u15 u16 u17 u18 u19 u20 u38 u39 u40 u41 u42 u43 u44 u45 u46 u47 u48 u49 u50 u51 u52 u53 u54 u55 u56 u57 u58 u59 u60 u61 u62 u63 u64 u65 u66 u67 u68 u69 u70 u71 u72 u73 u74 u75 u76 u77 u78 u79 u80 u81 u82 u83 u84 u85 u86 u87 u88 u89 u90 u91 u92 u93 u94 u95 u96 u97 u98 u99 u100 u101 u102 u103 u104 u105 u106 u107 u108 u109 u110 u111 u112 u113 u114 u115 u116 u117 u118 u119 u120 u121 u122 u123 u124 u125 u126 u127 u128 u129 u130 u131 u132 u133 u134 u135 u136 u137 u138 : Value) (ds : List Deferred), (∃ (Ds : List Nat) (j : Nat) (E : List En), ds = markL Ds ∧ j ≤ L ∧ u38 = .int .i64 j ∧ TabE w' T B room E (fun i => W.heap.size ≤ i) ∧ (E.length : Int) ≤ room ∧ Mo W w' ∧ Marks W.heap.size w' Ds) ∧ a' = (⟨#[Value.int IntKind.i64 room, Value.slice A L cap, undef, undef, u4, ptr T, Value.int IntKind.i64 0, undef, u8, u9, u10, u11, u12, u13, u14, u15, u16, u17, u18, u19, u20, Value.slice A L cap, Value.int IntKind.i64 (L : Int), Value.bool false, Value.bool false, Value.bool true, Value.bool false, Value.bool false, undef, Value.tuple #[ptr T, Value.int IntKind.i64 0], Value.int IntKind.i64 room, Value.tuple #[ptr T, Value.int IntKind.i64 0], ptr T, Value.int IntKind.i64 0, Value.int IntKind.i64 0, Value.bool false, Value.slice A L cap, Value.int IntKind.i64 (L : Int), u38, u39, u40, u41, u42, u43, u44, u45, u46, u47, u48, u49, u50, u51, u52, u53, u54, u55, u56, u57, u58, u59, u60, u61, u62, u63, u64, u65, u66, u67, u68, u69, u70, u71, u72, u73, u74, u75, u76, u77, u78, u79, u80, u81, u82, u83, u84, u85, u86, u87, u88, u89, u90, u91, u92, u93, u94, u95, u96, u97, u98, u99, u100, u101, u102, u103, u104, u105, u106, u107, u108, u109, u110, u111, u112, u113, u114, u115, u116, u117, u118, u119, u120, u121, u122, u123, u124, u125, u126, u127, u128, u129, u130, u131, u132, u133, u134, u135, u136, u137, u138], ds⟩ : Act)) (fun a' _ => L - (intOf (a'.tmps.getD 38 undef)).toNat) ?_ ?_
  · --@@ start
    (repeat apply Exists.intro)
    --@@ intro
    refine ⟨?_, rfl⟩
    --@@ frame
    refine ⟨[], 0, [], ?_, ?_, ?_, T2, ?_, M2', ?_⟩
    --@@ refined
    · rfl
    --@@ a1
    · omega
    --@@ a2
    · rfl
    --@@ a3
    · show (0 : Int) ≤ room
      omega
    --@@ a4
    · exact marks_nil _ _
    --@@ a5
  · --@@ atStart
    clear T2 M2'
    intro _ wr hinv
    obtain ⟨u4, hinv⟩ := hinv
    obtain ⟨u8, hinv⟩ := hinv
    obtain ⟨u9, hinv⟩ := hinv
    obtain ⟨u10, hinv⟩ := hinv
    obtain ⟨u11, hinv⟩ := hinv
    obtain ⟨u12, hinv⟩ := hinv
    obtain ⟨u13, hinv⟩ := hinv
    obtain ⟨u14, hinv⟩ := hinv
    obtain ⟨u15, hinv⟩ := hinv
    obtain ⟨u16, hinv⟩ := hinv
    obtain ⟨u17, hinv⟩ := hinv
    obtain ⟨u18, hinv⟩ := hinv
    obtain ⟨u19, hinv⟩ := hinv
    obtain ⟨u20, hinv⟩ := hinv
    obtain ⟨u38, hinv⟩ := hinv
    obtain ⟨u39, hinv⟩ := hinv
    obtain ⟨u40, hinv⟩ := hinv
    obtain ⟨u41, hinv⟩ := hinv
    obtain ⟨u42, hinv⟩ := hinv
    obtain ⟨u43, hinv⟩ := hinv
    obtain ⟨u44, hinv⟩ := hinv
    obtain ⟨u45, hinv⟩ := hinv
    obtain ⟨u46, hinv⟩ := hinv
    obtain ⟨u47, hinv⟩ := hinv
    obtain ⟨u48, hinv⟩ := hinv
    obtain ⟨u49, hinv⟩ := hinv
    obtain ⟨u50, hinv⟩ := hinv
    obtain ⟨u51, hinv⟩ := hinv
    obtain ⟨u52, hinv⟩ := hinv
    obtain ⟨u53, hinv⟩ := hinv
    obtain ⟨u54, hinv⟩ := hinv
    obtain ⟨u55, hinv⟩ := hinv
    obtain ⟨u56, hinv⟩ := hinv
    obtain ⟨u57, hinv⟩ := hinv
    obtain ⟨u58, hinv⟩ := hinv
    obtain ⟨u59, hinv⟩ := hinv
    obtain ⟨u60, hinv⟩ := hinv
    obtain ⟨u61, hinv⟩ := hinv
    obtain ⟨u62, hinv⟩ := hinv
    obtain ⟨u63, hinv⟩ := hinv
    obtain ⟨u64, hinv⟩ := hinv
    obtain ⟨u65, hinv⟩ := hinv
    obtain ⟨u66, hinv⟩ := hinv
    obtain ⟨u67, hinv⟩ := hinv
    obtain ⟨u68, hinv⟩ := hinv
    obtain ⟨u69, hinv⟩ := hinv
    obtain ⟨u70, hinv⟩ := hinv
    obtain ⟨u71, hinv⟩ := hinv
    obtain ⟨u72, hinv⟩ := hinv
    obtain ⟨u73, hinv⟩ := hinv
    obtain ⟨u74, hinv⟩ := hinv
    obtain ⟨u75, hinv⟩ := hinv
    obtain ⟨u76, hinv⟩ := hinv
    obtain ⟨u77, hinv⟩ := hinv
    obtain ⟨u78, hinv⟩ := hinv
    obtain ⟨u79, hinv⟩ := hinv
    obtain ⟨u80, hinv⟩ := hinv
    obtain ⟨u81, hinv⟩ := hinv
    obtain ⟨u82, hinv⟩ := hinv
    obtain ⟨u83, hinv⟩ := hinv
    obtain ⟨u84, hinv⟩ := hinv
    obtain ⟨u85, hinv⟩ := hinv
    obtain ⟨u86, hinv⟩ := hinv
    obtain ⟨u87, hinv⟩ := hinv
    obtain ⟨u88, hinv⟩ := hinv
    obtain ⟨u89, hinv⟩ := hinv
    obtain ⟨u90, hinv⟩ := hinv
    obtain ⟨u91, hinv⟩ := hinv
    obtain ⟨u92, hinv⟩ := hinv
    obtain ⟨u93, hinv⟩ := hinv
    obtain ⟨u94, hinv⟩ := hinv
    obtain ⟨u95, hinv⟩ := hinv
    obtain ⟨u96, hinv⟩ := hinv
    obtain ⟨u97, hinv⟩ := hinv
    obtain ⟨u98, hinv⟩ := hinv
    obtain ⟨u99, hinv⟩ := hinv
    obtain ⟨u100, hinv⟩ := hinv
    obtain ⟨u101, hinv⟩ := hinv
    obtain ⟨u102, hinv⟩ := hinv
    obtain ⟨u103, hinv⟩ := hinv
    obtain ⟨u104, hinv⟩ := hinv
    obtain ⟨u105, hinv⟩ := hinv
    obtain ⟨u106, hinv⟩ := hinv
    obtain ⟨u107, hinv⟩ := hinv
    obtain ⟨u108, hinv⟩ := hinv
    obtain ⟨u109, hinv⟩ := hinv
    obtain ⟨u110, hinv⟩ := hinv
    obtain ⟨u111, hinv⟩ := hinv
    obtain ⟨u112, hinv⟩ := hinv
    obtain ⟨u113, hinv⟩ := hinv
    obtain ⟨u114, hinv⟩ := hinv
    obtain ⟨u115, hinv⟩ := hinv
    obtain ⟨u116, hinv⟩ := hinv
    obtain ⟨u117, hinv⟩ := hinv
    obtain ⟨u118, hinv⟩ := hinv
    obtain ⟨u119, hinv⟩ := hinv
    obtain ⟨u120, hinv⟩ := hinv
    obtain ⟨u121, hinv⟩ := hinv
    obtain ⟨u122, hinv⟩ := hinv
    obtain ⟨u123, hinv⟩ := hinv
    obtain ⟨u124, hinv⟩ := hinv
    obtain ⟨u125, hinv⟩ := hinv
    obtain ⟨u126, hinv⟩ := hinv
    obtain ⟨u127, hinv⟩ := hinv
    obtain ⟨u128, hinv⟩ := hinv
    obtain ⟨u129, hinv⟩ := hinv
    obtain ⟨u130, hinv⟩ := hinv
    obtain ⟨u131, hinv⟩ := hinv
    obtain ⟨u132, hinv⟩ := hinv
    obtain ⟨u133, hinv⟩ := hinv
    obtain ⟨u134, hinv⟩ := hinv
    obtain ⟨u135, hinv⟩ := hinv
    obtain ⟨u136, hinv⟩ := hinv
    obtain ⟨u137, hinv⟩ := hinv
    obtain ⟨u138, hinv⟩ := hinv
    obtain ⟨ds, hrel, ha⟩ := hinv
    subst ha
    obtain ⟨Ds, j, E, rfl, hj, rfl, hT, hEr, hM, hDs⟩ := hrel
    --@@ rintro
    dsimp only
    --@@ dsimp
    by_cases cj : j < L
    · have hjl : j < l.length := by rw [HL.out]; exact cj
      obtain ⟨g, off, rfl, ld, -, -⟩ := (HD.out.mo hM).get j hjl
      have XO := HD.out.ok _ (List.getElem_mem hjl)
      have i0 : (0 : Int) ≤ j := by omega
      have i1 : (j : Int) < L := by omega
      generalize l[j] = x at *
      obtain ⟨xd, xk, xa⟩ := x
      have zk := key_sz XO.k
      have za := at_sz XO.a
      have ok1 := one_of_fits XO.k
      have oa1 := one_of_fits XO.a
      simp only at zk za ok1 oa1
      have XOK := Lib.hid XO
      have HEr := Lib.hid hEr
      have EL : E.length ≤ 65536 := by have := cr.2; omega
      clear XO hjl hEr
      --@@ pre10
      go_upto_region 10 with (fail)
      --@@ upto10
      refine wp_name ?_
      intro w4 hw4
      have b4 : Blk w4 wr.heap.size 42 (doC ⟨xd, xk, xa⟩) := by rw [hw4]; infer_instance
      have f4 : Blk w4 (wr.heap.size + 1) 45 (enC key0 wdz false) := by rw [hw4]; exact blk_en0 inferInstance
      have hT4 : TabE w4 T B room E (fun i => W.heap.size ≤ i ∧ i < wr.heap.size) := by rw [hw4]; exact (hT.weak (Q := fun i => W.heap.size ≤ i ∧ i < wr.heap.size) fun i h1 h2 => ⟨h2, h1⟩).mo Mor.out
      have hM4 : Mo W w4 := by rw [hw4]; exact hM.trans Mor.out
      have hD4 : Marks W.heap.size w4 Ds := by rw [hw4]; exact hDs.mo Mor.out
      have hWx := hM.size
      have hMr4 : Mo wr w4 := by rw [hw4]; exact Mor.out
      have hMW0 := hM
      have hTr0 : TabE wr T B room E (fun i => W.heap.size ≤ i ∧ i < wr.heap.size) := hT.weak fun i h1 h2 => ⟨h2, h1⟩
      clear hw4 ld hT hM
      obtain ⟨bx, hbx⟩ : ∃ b, wr.heap.size = b := ⟨_, rfl⟩
      rw [hbx] at b4 f4 hT4 hWx hTr0 ⊢
      go_wp2_with fail
      refine (len_e T B room E _ _ hT4).mono ?_
      rintro e w5 ⟨rfl, M5⟩
      have b5 := M5.blk b4
      have f5 := M5.blk f4
      have hT5 := hT4.mo M5
      have hM5 := hM4.trans M5
      have hMr5 := hMr4.trans M5
      have hD5 := hD4.mo M5
      clear b4 f4 hT4 hM4 hD4 hMr4 M5
      go_wp2_with fail
      refine (all_any _ _).mono ?_
      rintro e w6 ⟨rfl, rfl⟩
      go_wp2_with fail
      obtain ⟨Ls, hTL, hLE, hP⟩ := hT5
      have LE : Ls.length ≤ 65536 := by rw [← hLE, List.length_map] at EL; exact EL
      have hT5 : TabE w5 T B room E (fun i => W.heap.size ≤ i ∧ i < bx) := ⟨Ls, hTL, hLE, hP⟩
      obtain ⟨w, hw⟩ : ∃ w, w5.alloc (.cells #[.pointer (some ⟨T, 0, none⟩)] 24) = w := ⟨_, rfl⟩
      have x1 : Boxed w w5.heap.size 24 (ptr T) := by rw [← hw]; exact (inferInstance : Blk _ _ _ _).out
      have hMw : Mo w5 w := by rw [← hw]; exact Mor.out
      rw [hw]
      have hsz : w5.heap.size ≤ w.heap.size := hMw.size
      clear hw
      have hMr := hMW0
      have hTW := hTr0
      have hMrw : Mo wr w := hMr5.trans hMw
      have hfl : bx + 1 < w.heap.size := by have := f5.lt; omega
      have hrs : wr.heap.size ≤ w.heap.size := hMrw.size
      have key0_ok : EnOk ⟨key0, wdz, false⟩ := ⟨keyP_n 0 (by omega), by
        have e : ksOf 40 = [.i .i64, .i .u64] := by kernel_rfl
        rw [e]
        exact ⟨⟨rfl, rfl⟩, ⟨rfl, rfl⟩, trivial⟩⟩
      refine (wpIn_wide (n := 6)).1 ?_
      refine wpIn_range_px (F := Fence.wide) (n := 6) (w0 := w) rfl (by omega) (gf := 24) (lb := #[.pointer (some ⟨w5.heap.size, 0, none⟩)]) rfl trivial (enters_of Try.func24 (by kernel_rfl) rfl)
        (all_seq 5 _ T B room Ls w (hTL.mo hMw) LE x1) KpC.trans (KpC.put (w := w)) (Below.refl _ _) (fun _ => rfl)
        (RoomI wr (bx + 1) bx (doC ⟨xd, xk, xa⟩) xk) (RoomX wr (bx + 1) bx (doC ⟨xd, xk, xa⟩) xk)
        (roomI_own hrs) (fun c => roomX_own c hrs)
        ⟨hMrw.below, hMw.blk b5, .inl ⟨rfl, hMw.blk f5⟩, fun _ h => (by cases h)⟩
        (fun pre x a' W' => ∃ Bx, Blk W' Bx 45 (enC x.k x.a x.d) ∧ Bx ≠ bx + 1 ∧ (∃ r, pre ++ x :: r = Ls.map (·.2)) ∧ a' = (⟨#[Value.int IntKind.i64 room, Value.slice (some { block := g, off := off }) L cap, undef, undef, u4, ptr T, Value.int IntKind.i64 0, undef, Value.pointer (some { block := bx, off := 0 }), Value.pointer (some { block := bx + 1, off := 0 }), Value.int IntKind.i64 ↑E.length, ptr Bx, u12, u13, u14, u15, u16, u17, u18, u19, u20, Value.slice (some { block := g, off := off }) L cap, Value.int IntKind.i64 (L : Int), Value.bool false, Value.bool false, Value.bool true, Value.bool false, Value.bool false, undef, Value.tuple #[ptr T, Value.int IntKind.i64 0], Value.int IntKind.i64 room, Value.tuple #[ptr T, Value.int IntKind.i64 0], ptr T, Value.int IntKind.i64 0, Value.int IntKind.i64 0, Value.bool false, Value.slice (some { block := g, off := off }) L cap, Value.int IntKind.i64 (L : Int), Value.int IntKind.i64 (j : Int), Value.bool true, Value.pointer (some { block := g, off := off + j * 40 }), Value.agg (doC { kd := xd, k := xk, a := xa }), ptr T, Value.int IntKind.i64 ↑E.length, ptr T, Value.func (.func 24) #[] #[Value.pointer (some { block := w5.heap.size, off := 0 })], .agg (enC x.k x.a x.d), u47, u48, u49, u50, u51, u52, u53, u54, u55, u56, u57, u58, u59, u60, u61, u62, u63, u64, u65, u66, u67, u68, u69, u70, u71, u72, u73, u74, u75, u76, u77, u78, u79, u80, u81, u82, u83, u84, u85, u86, u87, u88, u89, u90, u91, u92, u93, u94, u95, u96, u97, u98, u99, u100, u101, u102, u103, u104, u105, u106, u107, u108, u109, u110, u111, u112, u113, u114, u115, u116, u117, u118, u119, u120, u121, u122, u123, u124, u125, u126, u127, u128, u129, u130, u131, u132, u133, u134, u135, u136, u137, u138], []⟩ : Act))
        (fun pre x a' _ _ W' row h hg hr => by
          obtain ⟨Bx, h1, h2, h3, h4⟩ := h
          exact ⟨Bx, blk_grown' h1 hg hr, h2, h3, h4⟩)
        ?assign ?body ?done ?stop
      case assign =>
        rintro l' pre ⟨yk, ya, yd⟩ Wr K hI hP' hK
        have eok : EnOk ⟨yk, ya, yd⟩ := by
          obtain ⟨r, hr⟩ := hP'
          have hm : (⟨yk, ya, yd⟩ : En) ∈ Ls.map (·.2) := by rw [← hr]; simp
          obtain ⟨q, hq, e⟩ := List.mem_map.1 hm
          rw [← e]
          exact hTL.ok q hq
        have z1 := key_sz eok.k
        have z2 := at_sz eok.a
        have y1 := one_of_fits eok.k
        have y2 := one_of_fits eok.a
        have HP := Lib.hid hP'
        simp only at z1 z2 y1 y2
        clear hP' eok
        have hne : Wr.heap.size ≠ bx + 1 := by
          rcases hI.f with ⟨-, b⟩ | ⟨e, ok, b⟩ <;> (have := b.lt; omega)
        dsimp only [encE]
        gi_wp2
        exact hK _ _ ((KeepsOthers.alloc _ _).from _) ⟨by simp, fun k _ cs z h => (Below.heap_alloc _ _ _ (Array.getElem?_eq_some_iff.1 h).1).trans h⟩ (hI.alloc _) ⟨Wr.heap.size, inferInstance, hne, HP.out, rfl⟩
      case body =>
        rintro l' pre ⟨yk, ya, yd⟩ a' Wr hl' ⟨r, hr'⟩ ⟨bel, bb, hf, hall⟩ ⟨Bx, hbx', hbne, ⟨r2, hmore⟩, rfl⟩ hlt
        have hlr : l' < Wr.heap.size := (Array.getElem?_eq_some_iff.1 hr').1
        clear hr'
        have hM' : Mo wr Wr := Mo.of bel
        have eok : EnOk ⟨yk, ya, yd⟩ := by
          have hm : (⟨yk, ya, yd⟩ : En) ∈ Ls.map (·.2) := by rw [← hmore]; simp
          obtain ⟨q, hq, e⟩ := List.mem_map.1 hm
          rw [← e]
          exact hTL.ok q hq
        obtain ⟨cs0, zf, bf⟩ : ∃ cs, SzA cs 40 ∧ Blk Wr (bx + 1) 45 cs := by
          rcases hf with ⟨-, b⟩ | ⟨e, ok, b⟩
          · exact ⟨_, inferInstance, b⟩
          · have z1 := key_sz ok.k
            have z2 := at_sz ok.a
            exact ⟨_, inferInstance, b⟩
        have z1 := key_sz eok.k
        have z2 := at_sz eok.a
        have y1 := one_of_fits eok.k
        have y2 := one_of_fits eok.a
        simp only at z1 z2 y1 y2 hbx'
        have EOK := Lib.hid eok
        have HALL := Lib.hid hall
        have nq := fun w => run_neq_flat fl_key w eok.k XOK.out.k
        rw [neqF_key3] at nq
        obtain ⟨q1, q2⟩ := row_set_keeps (Wr := Wr) hfl (enC yk ya yd)
        have q3 : Below wr.heap.size wr (Wr.setRow (bx + 1) (enC yk ya yd)) := (mo_setRow hM' (by omega) _).below
        have q4 := blk_setRow (cs' := enC yk ya yd) bf
        have q5 := blk_setRow_ne (cs' := enC yk ya yd) bb (show bx + 1 ≠ bx by omega)
        have q6 := blk_setRow_ne (cs' := enC yk ya yd) hbx' (Ne.symm hbne)
        clear hmore bel hall hf eok
        by_cases ck : yk = xk
        · subst ck
          rw [eqA_self] at nq
          gi_wp2
          refine ⟨q1, q2, q3, q5, .inr ⟨_, EOK.out, q4⟩, fun e he => ?_⟩
          rcases List.mem_append.1 he with h | h
          · exact HALL.out e h
          · rw [List.mem_singleton] at h; rw [h]
        · have dk : eqA yk xk = false := by rw [Bool.eq_false_iff]; exact fun c => ck (eqA_iff.1 c)
          rw [dk] at nq
          have CK := Lib.hid ck
          clear ck dk
          gi_wp2
          exact ⟨q1, rfl, q3, q5, pre, _, rfl, EOK.out, q4, CK.out, HALL.out⟩
      case done =>
        rintro D xs Wr hD rfl ⟨bel, bb, hf, hall⟩ hK
        have hM' : Mo wr Wr := Mo.of bel
        obtain ⟨f, hf1, ff⟩ : ∃ f : En, FirstOf E xk f ∧ Blk Wr (bx + 1) 45 (enC f.k f.a f.d) := by
          rcases hf with ⟨h0, b⟩ | ⟨e, ok, b⟩
          · refine ⟨⟨key0, wdz, false⟩, ⟨key0_ok, fun e E' h1 _ => ?_⟩, b⟩
            rw [← hLE, h0] at h1
            cases h1
          · refine ⟨e, ⟨ok, fun e0 E' h1 h2 => ?_⟩, b⟩
            have hm : e0 ∈ E := by rw [h1]; exact List.mem_cons_self
            exact absurd (hall e0 (by rw [hLE]; exact hm)) (hasE_not h2 e0 hm)
        clear hf hall
        have hD5' : Marks W.heap.size Wr (D :: Ds) := Marks.cons (W := wr) hDs (fun i hi _ => hM'.below.block i hi) (by omega) (by omega) hK
        have hTr : TabE Wr T B room E (fun i => W.heap.size ≤ i ∧ i < bx) := (hTW.mo hM')
        have hMW := hMr.trans hM'
        obtain ⟨n, hn⟩ : ∃ n, E.length = n := ⟨_, rfl⟩
        have HN := Lib.hid hn
        rw [hn]
        have hEr : (n : Int) ≤ room := by rw [← hn]; exact HEr.out
        have EL' : n ≤ 65536 := by omega
        have HT := Lib.hid hTr.noDef
        have HDs := Lib.hid hD5'
        have OKE := Lib.hid hTr.ok
        clear hD5' hTr hn hK bel
        go_wp2_with fail
        refine (find_e T B room E _ xk _ HT.out XOK.out.k).mono ?_
        rintro e w7 ⟨rfl, M7⟩
        obtain ⟨cs1, ecs1, s1, s2⟩ := out_form (findE E xk) (fun e he => OKE.out e (List.mem_of_find?_eq_some he))
        rw [ecs1]
        have T7 := Lib.hid ((HT.out.weak (Q := fun i => W.heap.size ≤ i ∧ i < bx) fun i _ q => q.1).mo M7)
        have D7 := Lib.hid (HDs.out.mo M7)
        have b7 := M7.blk bb
        have f7 := M7.blk ff
        have N7 := hMW.trans M7
        have zf1 := key_sz hf1.1.k
        have zf2 := at_sz hf1.1.a
        have HF1 := Lib.hid hf1
        clear HT HDs bb ff hMW M7 ecs1 hf1
        go_upto_region 16 with (fail)
        refine wp_name ?_
        intro w8 hw8
        have T8 := Lib.hid (show TabE w8 T B room E (fun i => (W.heap.size ≤ i ∧ i < bx) ∧ NoDef w8 i) by rw [hw8]; exact (T7.out.mo Mor.out).noDef)
        have D8 := Lib.hid (show Marks W.heap.size w8 (D :: Ds) by rw [hw8]; exact D7.out.mo Mor.out)
        have b8 : Blk w8 bx 42 (doC ⟨xd, xk, xa⟩) := by rw [hw8]; infer_instance
        have f8 : Blk w8 (bx + 1) 45 (enC f.k f.a f.d) := by rw [hw8]; infer_instance
        have N8 : Mo W w8 := by rw [hw8]; exact N7.trans Mor.out
        clear hw8 T7 D7 b7 f7 N7 s1 s2
        have nd8 := Lib.hid T8.out.keys
        go_wp2_with fail
        refine (ask_e T B room E _ xk xa _ T8.out XOK.out.k XOK.out.a EL).mono ?_
        rintro e w9 ⟨⟨ra, rb, rc⟩, hr, rfl, T9, K9⟩
        dsimp only at T9 ⊢
        have D9 := Lib.hid (D8.out.kp K9 fun i q => q.2)
        have b9 := K9.blk b8 (fun q => by have := q.1.2; omega)
        have f9 := K9.blk f8 (fun q => by have := q.1.2; omega)
        have N9 : Mo W w9 := K9.mo N8 fun i _ q => q.1.1
        have T9h := Lib.hid (T9.weak (Q := fun i => W.heap.size ≤ i ∧ i ≠ bx ∧ i ≠ bx + 1) fun i _ q => by
          have h1 := b8.lt
          have h2 := f8.lt
          rcases q with q | q
          · have := q.1.1; have := q.1.2; omega
          · have := N8.size; omega)
        have hrh := Lib.hid hr
        clear T9 K9 hr T8 D8 b8 f8 N8
        obtain ⟨hb, gb, o, E1, m1, hre, LEQ0, hgb, CF0⟩ : ∃ (hb gb : Bool) (o : Option En) (E1 : List En) (m1 : Nat), (ra, rb, rc) = (hb, o, E1) ∧ E1.length = m1 ∧ o.isSome = gb ∧ ((hb = true ∧ gb = false ∧ m1 = n) ∨ (hb = false ∧ gb = true ∧ m1 = n ∧ (n : Int) = room ∧ o = some f) ∨ (hb = false ∧ gb = false ∧ m1 = n + 1 ∧ (n : Int) < room)) ∧ hasE E xk = hb ∧ hasE E1 xk = true := by
          rw [← hrh.out]
          cases hA : hasE E xk with
          | true =>
            obtain ⟨AI, L0⟩ := ask_in (room := room) (a := xa) nd8.out HEr.out hA
            rw [HN.out] at L0
            exact ⟨_, _, _, _, _, AI, L0, rfl, .inl ⟨rfl, rfl, rfl⟩, rfl, has_new _ _ _⟩
          | false =>
            by_cases cn : (n : Int) = room
            · obtain ⟨e0, E0, hE0⟩ : ∃ e E', E = e :: E' := by
                cases hh : E with
                | nil => have := HN.out; rw [hh] at this; simp at this; omega
                | cons e E' => exact ⟨e, E', rfl⟩
              have hf0 : f = e0 := HF1.out.2 e0 E0 hE0 hA
              have hA' := hA
              have hN' := HN.out
              rw [hE0] at hA' hN' ⊢
              have AI := ask_full (a := xa) (room := room) (by rw [hN']; exact cn) hA'
              exact ⟨_, _, _, _, n, AI, by rw [List.length_append, ← hN', List.length_cons]; rfl, rfl, .inr (.inl ⟨rfl, rfl, rfl, cn, by rw [hf0]⟩), rfl, has_new _ _ _⟩
            · have cn2 : (n : Int) < room := by omega
              have AI := ask_room (a := xa) (room := room) (E := E) (by rw [HN.out]; exact cn2) hA
              exact ⟨_, _, _, _, n + 1, AI, by rw [List.length_append, HN.out]; rfl, rfl, .inr (.inr ⟨rfl, rfl, rfl, cn2⟩), rfl, has_new _ _ _⟩
        obtain ⟨CF, hhb, hE1⟩ := CF0
        obtain ⟨rfl, rfl, rfl⟩ : hb = ra ∧ o = rb ∧ E1 = rc := by
          injection hre with h1 h2
          injection h2 with h2 h3
          exact ⟨h1.symm, h2.symm, h3.symm⟩
        have m1r : (m1 : Int) ≤ room := by rcases CF with ⟨-, -, h⟩ | ⟨-, -, h, -⟩ | ⟨-, -, h, h'⟩ <;> omega
        have AGAIN : Hid (askE room E1 xk xa = (true, none, strike E1 xk ++ [⟨xk, xa, false⟩]) ∧ (strike E1 xk ++ [(⟨xk, xa, false⟩ : En)]).length = E1.length) := Lib.hid (ask_in T9h.out.keys (by rw [LEQ0]; exact m1r) hE1)
        have LE1 := Lib.hid LEQ0
        have LN := Lib.hid (fun w (h : TabE w T B room E1 (fun i => W.heap.size ≤ i ∧ i ≠ bx ∧ i ≠ bx + 1)) => len_e T B room E1 _ w h)
        rw [LEQ0] at LN
        obtain ⟨cs2, ecs2, s3, s4⟩ : ∃ cs, outV o = .agg cs ∧ SzA cs 40 ∧ OneA cs := out_form o (fun e he => ask_ok (E := E) OKE.out ⟨XOK.out.k, XOK.out.a⟩ (by rw [hrh.out]; exact he))
        rw [ecs2, hgb, hhb]
        have HCS := Lib.hid ecs2
        have HCF := Lib.hid CF
        clear hre LEQ0 hgb CF hhb hE1 hrh ecs2
        go_upto_region 17 with (fail)
        refine wp_name ?_
        intro wA hwA
        have gA : Blk wA w9.heap.size 45 cs2 := by rw [hwA]; infer_instance
        have TA := Lib.hid (show TabE wA T B room E1 (fun i => W.heap.size ≤ i ∧ i ≠ bx ∧ i ≠ bx + 1) by rw [hwA]; exact T9h.out.mo Mor.out)
        have DA := Lib.hid (show Marks W.heap.size wA (D :: Ds) by rw [hwA]; exact D9.out.mo Mor.out)
        have bA : Blk wA bx 42 (doC ⟨xd, xk, xa⟩) := by rw [hwA]; infer_instance
        have fA : Blk wA (bx + 1) 45 (enC f.k f.a f.d) := by rw [hwA]; infer_instance
        have NA : Mo W wA := by rw [hwA]; exact N9.trans Mor.out
        clear hwA T9h D9 b9 f9 N9 s3 s4
        go_cut [17] from 39 to 138 (fun s17 wx => s17 = .bool gb ∧ wA = wx)
        case first =>
          rcases HCF.out with ⟨rfl, rfl, rfl⟩ | ⟨rfl, rfl, rfl, cn, -⟩ | ⟨rfl, rfl, rfl, cn⟩
          · by_cases cn : (m1 : Int) = room
            · subst cn
              have dn : ((m1 : Int) == (m1 : Int)) = true := by simp
              go_wp2_with fail
              go_meet
              exact ⟨rfl, rfl⟩
            · have dn : ((m1 : Int) == room) = false := by simp [cn]
              go_wp2_with fail
              go_meet
              exact ⟨rfl, rfl⟩
          · subst cn
            have dn : ((m1 : Int) == (m1 : Int)) = true := by simp
            go_wp2_with fail
            go_meet
            exact ⟨rfl, rfl⟩
          · have dn : ((n : Int) == room) = false := by simp; omega
            go_wp2_with fail
            go_meet
            exact ⟨rfl, rfl⟩
        obtain ⟨rfl, rfl⟩ := hcut
        go_upto_region 18 with (fail)
        go_cut [112] from 39 to 138 (fun s wx => s = .bool false ∧ Mo wA wx)
        case first =>
          rcases HCF.out with ⟨rfl, rfl, rfl⟩ | ⟨rfl, rfl, rfl, cn, -⟩ | ⟨rfl, rfl, rfl, cn⟩
          · have w1 : IntKind.i64.wrap ((m1 : Int) + 1) = m1 + 1 := by rw [IntKind.wrap_i64]; omega
            by_cases cm : (m1 : Int) = room
            · subst cm
              clear m1r hEr
              have g1 : decide ((m1 : Int) < m1) = false := decide_eq_false (by omega)
              have g2 : (if (m1 : Int) < m1 + 1 then (m1 : Int) else m1 + 1) = m1 := if_pos (by omega)
              go_wp2_with fail
              refine (LN.out _ (TA.out.mo ((Mo.refl wA).trans (Mor.out : Mo wA _)))).mono ?_
              rintro e w10 ⟨rfl, M10⟩
              have MM1 : Mo wA w10 := (Mo.refl wA).trans ((Mor.out : Mo wA _).trans M10)
              clear M10
              go_wp2_with fail
              refine (LN.out _ (TA.out.mo (MM1.trans (Mor.out : Mo w10 _)))).mono ?_
              rintro e w11 ⟨rfl, M11⟩
              have MM2 : Mo wA w11 := MM1.trans ((Mor.out : Mo w10 _).trans M11)
              clear M11
              go_wp2_with fail
              refine (LN.out _ (TA.out.mo (MM2.trans (Mor.out : Mo w11 _)))).mono ?_
              rintro e w12 ⟨rfl, M12⟩
              have MM3 : Mo wA w12 := MM2.trans ((Mor.out : Mo w11 _).trans M12)
              clear M12
              go_wp2_with fail
              go_meet
              exact ⟨rfl, MM3.trans Mor.out⟩
            · have g1 : decide (room < (m1 : Int)) = false := decide_eq_false (by omega)
              have g2 : (if room < (m1 : Int) + 1 then room else (m1 : Int) + 1) = m1 + 1 := if_neg (by omega)
              have g3 : ((m1 : Int) != m1 + 1) = true := by simp; omega
              clear m1r hEr cm
              go_wp2_with fail
              refine (LN.out _ (TA.out.mo ((Mo.refl wA).trans (Mor.out : Mo wA _)))).mono ?_
              rintro e w10 ⟨rfl, M10⟩
              have MM1 : Mo wA w10 := (Mo.refl wA).trans ((Mor.out : Mo wA _).trans M10)
              clear M10
              go_wp2_with fail
              refine (LN.out _ (TA.out.mo (MM1.trans (Mor.out : Mo w10 _)))).mono ?_
              rintro e w11 ⟨rfl, M11⟩
              have MM2 : Mo wA w11 := MM1.trans ((Mor.out : Mo w10 _).trans M11)
              clear M11
              go_wp2_with fail
              refine (LN.out _ (TA.out.mo (MM2.trans (Mor.out : Mo w11 _)))).mono ?_
              rintro e w12 ⟨rfl, M12⟩
              have MM3 : Mo wA w12 := MM2.trans ((Mor.out : Mo w11 _).trans M12)
              clear M12
              go_wp2_with fail
              go_meet
              exact ⟨rfl, MM3.trans Mor.out⟩
          · have w1 : IntKind.i64.wrap ((m1 : Int) + 1) = m1 + 1 := by rw [IntKind.wrap_i64]; omega
            subst cn
            clear m1r hEr
            have g1 : decide ((m1 : Int) < m1) = false := decide_eq_false (by omega)
            have g2 : (if (m1 : Int) < m1 + 1 then (m1 : Int) else m1 + 1) = m1 := if_pos (by omega)
            go_wp2_with fail
            refine (LN.out _ (TA.out.mo ((Mo.refl wA).trans (Mor.out : Mo wA _)))).mono ?_
            rintro e w10 ⟨rfl, M10⟩
            have MM1 : Mo wA w10 := (Mo.refl wA).trans ((Mor.out : Mo wA _).trans M10)
            clear M10
            go_wp2_with fail
            refine (LN.out _ (TA.out.mo (MM1.trans (Mor.out : Mo w10 _)))).mono ?_
            rintro e w11 ⟨rfl, M11⟩
            have MM2 : Mo wA w11 := MM1.trans ((Mor.out : Mo w10 _).trans M11)
            clear M11
            go_wp2_with fail
            go_meet
            exact ⟨rfl, MM2.trans Mor.out⟩
          · have w1 : IntKind.i64.wrap ((n : Int) + 1) = n + 1 := by rw [IntKind.wrap_i64]; omega
            have w2 : ((n + 1 : Nat) : Int) = (n : Int) + 1 := by omega
            rw [w2] at LN
            go_wp2_with fail
            refine (LN.out _ (TA.out.mo ((Mo.refl wA).trans (Mor.out : Mo wA _)))).mono ?_
            rintro e w10 ⟨rfl, M10⟩
            have MM1 : Mo wA w10 := (Mo.refl wA).trans ((Mor.out : Mo wA _).trans M10)
            clear M10
            go_wp2_with fail
            refine (LN.out _ (TA.out.mo (MM1.trans (Mor.out : Mo w10 _)))).mono ?_
            rintro e w11 ⟨rfl, M11⟩
            have MM2 : Mo wA w11 := MM1.trans ((Mor.out : Mo w10 _).trans M11)
            clear M11
            go_wp2_with fail
            go_meet
            exact ⟨rfl, MM2.trans Mor.out⟩
        obtain ⟨rfl, MX⟩ := hcut
        rename World => wB
        have gB := MX.blk gA
        have TB := Lib.hid (TA.out.mo MX)
        have DB := Lib.hid (DA.out.mo MX)
        have bB := MX.blk bA
        have fB := MX.blk fA
        have NB := NA.trans MX
        clear gA TA DA bA fA NA MX LN
        go_upto_region 20 with (fail)
        go_cut [122] from 39 to 138 (fun s wx => s = .bool false ∧ wB = wx)
        case first =>
          have oz1 := one_of_fits HF1.out.1.k
          have oz2 := one_of_fits HF1.out.1.a
          rcases HCF.out with ⟨rfl, rfl, rfl⟩ | ⟨rfl, rfl, rfl, cn, ho⟩ | ⟨rfl, rfl, rfl, cn⟩
          · go_wp2_with fail
            go_meet
            exact ⟨rfl, rfl⟩
          · have NQ := fun w => entry_neq HF1.out.1 w
            clear cn
            obtain rfl : enC f.k f.a f.d = cs2 := by have := HCS.out; rw [ho] at this; injection this
            by_cases c1 : 1 < room
            · have dc1 : decide (1 < room) = true := decide_eq_true c1
              go_wp2_with fail
              go_meet
              exact ⟨rfl, rfl⟩
            · have dc1 : decide (1 < room) = false := decide_eq_false c1
              go_wp2_with fail
              go_meet
              exact ⟨rfl, rfl⟩
          · go_wp2_with fail
            go_meet
            exact ⟨rfl, rfl⟩
        obtain ⟨rfl, rfl⟩ := hcut
        go_wp2_with fail
        refine (ask_e T B room E1 _ xk xa _ TB.out.noDef XOK.out.k XOK.out.a (by have := LE1.out; omega)).mono ?_
        rintro e w20 ⟨⟨ra, rb, rc⟩, hr, rfl, T20, K20⟩
        have hr2 := AGAIN.out
        rw [hr2.1] at hr
        obtain ⟨rfl, rfl, rfl⟩ : true = ra ∧ none = rb ∧ strike E1 xk ++ [⟨xk, xa, false⟩] = rc := by
          injection hr with h1 h2
          injection h2 with h2 h3
          exact ⟨h1, h2, h3⟩
        have D20 := DB.out.kp K20 fun i q => q.2
        have N20 : Mo W w20 := K20.mo NB fun i _ q => q.1.1
        have T20h := Lib.hid (T20.weak (Q := fun i => W.heap.size ≤ i) fun i _ q => by
          rcases q with q | q
          · exact q.1.1
          · have := NB.size; omega)
        have D20h := Lib.hid D20
        have L20 := Lib.hid hr2.2
        clear hr T20 K20 D20 AGAIN TB DB bB fB gB NB hr2
        dsimp only [outV, Option.isSome]
        go_wp2_with fail
        refine ⟨?_, ?_⟩
        · (repeat apply Exists.intro)
          refine ⟨?_, rfl⟩
          exact ⟨D :: Ds, j + 1, _, rfl, by omega, by go_num, T20h.out.mo Mor.out, by rw [L20.out]; have := LE1.out; omega, N20.trans Mor.out, D20h.out.mo Mor.out⟩
        · simp [intOf]; omega
      case stop =>
        rintro D c pre Wr hD ⟨r9, hSp⟩ ⟨rfl, bel, bb, hf⟩ hK
        have hM' : Mo wr Wr := Mo.of bel
        obtain ⟨f, hf1, ff⟩ : ∃ f : En, FirstOf E xk f ∧ Blk Wr (bx + 1) 45 (enC f.k f.a f.d) := by
          obtain ⟨p, e, rfl, ok, b, hne, hall⟩ := hf
          refine ⟨e, ⟨ok, fun e0 E' h1 h2 => ?_⟩, b⟩
          rw [hLE, h1] at hSp
          cases p with
          | nil => rw [List.nil_append, List.singleton_append] at hSp; injection hSp
          | cons y p =>
            rw [List.cons_append, List.cons_append] at hSp
            injection hSp with h3 _
            subst h3
            exact absurd (hall y List.mem_cons_self) (hasE_not h2 y (by rw [h1]; exact List.mem_cons_self))
        clear hf hSp
        have hD5' : Marks W.heap.size Wr (D :: Ds) := Marks.cons (W := wr) hDs (fun i hi _ => hM'.below.block i hi) (by omega) (by omega) hK
        have hTr : TabE Wr T B room E (fun i => W.heap.size ≤ i ∧ i < bx) := (hTW.mo hM')
        have hMW := hMr.trans hM'
        obtain ⟨n, hn⟩ : ∃ n, E.length = n := ⟨_, rfl⟩
        have HN := Lib.hid hn
        rw [hn]
        have hEr : (n : Int) ≤ room := by rw [← hn]; exact HEr.out
        have EL' : n ≤ 65536 := by omega
        have HT := Lib.hid hTr.noDef
        have HDs := Lib.hid hD5'
        have OKE := Lib.hid hTr.ok
        clear hD5' hTr hn hK bel
        refine (wpIn_wide (n := 6)).2 ?_
        go_wp2_with fail
        refine (find_e T B room E _ xk _ HT.out XOK.out.k).mono ?_
        rintro e w7 ⟨rfl, M7⟩
        obtain ⟨cs1, ecs1, s1, s2⟩ := out_form (findE E xk) (fun e he => OKE.out e (List.mem_of_find?_eq_some he))
        rw [ecs1]
        have T7 := Lib.hid ((HT.out.weak (Q := fun i => W.heap.size ≤ i ∧ i < bx) fun i _ q => q.1).mo M7)
        have D7 := Lib.hid (HDs.out.mo M7)
        have b7 := M7.blk bb
        have f7 := M7.blk ff
        have N7 := hMW.trans M7
        have zf1 := key_sz hf1.1.k
        have zf2 := at_sz hf1.1.a
        have HF1 := Lib.hid hf1
        clear HT HDs bb ff hMW M7 ecs1 hf1
        go_upto_region 16 with (fail)
        refine wp_name ?_
        intro w8 hw8
        have T8 := Lib.hid (show TabE w8 T B room E (fun i => (W.heap.size ≤ i ∧ i < bx) ∧ NoDef w8 i) by rw [hw8]; exact (T7.out.mo Mor.out).noDef)
        have D8 := Lib.hid (show Marks W.heap.size w8 (D :: Ds) by rw [hw8]; exact D7.out.mo Mor.out)
        have b8 : Blk w8 bx 42 (doC ⟨xd, xk, xa⟩) := by rw [hw8]; infer_instance
        have f8 : Blk w8 (bx + 1) 45 (enC f.k f.a f.d) := by rw [hw8]; infer_instance
        have N8 : Mo W w8 := by rw [hw8]; exact N7.trans Mor.out
        clear hw8 T7 D7 b7 f7 N7 s1 s2
        have nd8 := Lib.hid T8.out.keys
        go_wp2_with fail
        refine (ask_e T B room E _ xk xa _ T8.out XOK.out.k XOK.out.a EL).mono ?_
        rintro e w9 ⟨⟨ra, rb, rc⟩, hr, rfl, T9, K9⟩
        dsimp only at T9 ⊢
        have D9 := Lib.hid (D8.out.kp K9 fun i q => q.2)
        have b9 := K9.blk b8 (fun q => by have := q.1.2; omega)
        have f9 := K9.blk f8 (fun q => by have := q.1.2; omega)
        have N9 : Mo W w9 := K9.mo N8 fun i _ q => q.1.1
        have T9h := Lib.hid (T9.weak (Q := fun i => W.heap.size ≤ i ∧ i ≠ bx ∧ i ≠ bx + 1) fun i _ q => by
          have h1 := b8.lt
          have h2 := f8.lt
          rcases q with q | q
          · have := q.1.1; have := q.1.2; omega
          · have := N8.size; omega)
        have hrh := Lib.hid hr
        clear T9 K9 hr T8 D8 b8 f8 N8
        obtain ⟨hb, gb, o, E1, m1, hre, LEQ0, hgb, CF0⟩ : ∃ (hb gb : Bool) (o : Option En) (E1 : List En) (m1 : Nat), (ra, rb, rc) = (hb, o, E1) ∧ E1.length = m1 ∧ o.isSome = gb ∧ ((hb = true ∧ gb = false ∧ m1 = n) ∨ (hb = false ∧ gb = true ∧ m1 = n ∧ (n : Int) = room ∧ o = some f) ∨ (hb = false ∧ gb = false ∧ m1 = n + 1 ∧ (n : Int) < room)) ∧ hasE E xk = hb ∧ hasE E1 xk = true := by
          rw [← hrh.out]
          cases hA : hasE E xk with
          | true =>
            obtain ⟨AI, L0⟩ := ask_in (room := room) (a := xa) nd8.out HEr.out hA
            rw [HN.out] at L0
            exact ⟨_, _, _, _, _, AI, L0, rfl, .inl ⟨rfl, rfl, rfl⟩, rfl, has_new _ _ _⟩
          | false =>
            by_cases cn : (n : Int) = room
            · obtain ⟨e0, E0, hE0⟩ : ∃ e E', E = e :: E' := by
                cases hh : E with
                | nil => have := HN.out; rw [hh] at this; simp at this; omega
                | cons e E' => exact ⟨e, E', rfl⟩
              have hf0 : f = e0 := HF1.out.2 e0 E0 hE0 hA
              have hA' := hA
              have hN' := HN.out
              rw [hE0] at hA' hN' ⊢
              have AI := ask_full (a := xa) (room := room) (by rw [hN']; exact cn) hA'
              exact ⟨_, _, _, _, n, AI, by rw [List.length_append, ← hN', List.length_cons]; rfl, rfl, .inr (.inl ⟨rfl, rfl, rfl, cn, by rw [hf0]⟩), rfl, has_new _ _ _⟩
            · have cn2 : (n : Int) < room := by omega
              have AI := ask_room (a := xa) (room := room) (E := E) (by rw [HN.out]; exact cn2) hA
              exact ⟨_, _, _, _, n + 1, AI, by rw [List.length_append, HN.out]; rfl, rfl, .inr (.inr ⟨rfl, rfl, rfl, cn2⟩), rfl, has_new _ _ _⟩
        obtain ⟨CF, hhb, hE1⟩ := CF0
        obtain ⟨rfl, rfl, rfl⟩ : hb = ra ∧ o = rb ∧ E1 = rc := by
          injection hre with h1 h2
          injection h2 with h2 h3
          exact ⟨h1.symm, h2.symm, h3.symm⟩
        have m1r : (m1 : Int) ≤ room := by rcases CF with ⟨-, -, h⟩ | ⟨-, -, h, -⟩ | ⟨-, -, h, h'⟩ <;> omega
        have AGAIN : Hid (askE room E1 xk xa = (true, none, strike E1 xk ++ [⟨xk, xa, false⟩]) ∧ (strike E1 xk ++ [(⟨xk, xa, false⟩ : En)]).length = E1.length) := Lib.hid (ask_in T9h.out.keys (by rw [LEQ0]; exact m1r) hE1)
        have LE1 := Lib.hid LEQ0
        have LN := Lib.hid (fun w (h : TabE w T B room E1 (fun i => W.heap.size ≤ i ∧ i ≠ bx ∧ i ≠ bx + 1)) => len_e T B room E1 _ w h)
        rw [LEQ0] at LN
        obtain ⟨cs2, ecs2, s3, s4⟩ : ∃ cs, outV o = .agg cs ∧ SzA cs 40 ∧ OneA cs := out_form o (fun e he => ask_ok (E := E) OKE.out ⟨XOK.out.k, XOK.out.a⟩ (by rw [hrh.out]; exact he))
        rw [ecs2, hgb, hhb]
        have HCS := Lib.hid ecs2
        have HCF := Lib.hid CF
        clear hre LEQ0 hgb CF hhb hE1 hrh ecs2
        go_upto_region 17 with (fail)
        refine wp_name ?_
        intro wA hwA
        have gA : Blk wA w9.heap.size 45 cs2 := by rw [hwA]; infer_instance
        have TA := Lib.hid (show TabE wA T B room E1 (fun i => W.heap.size ≤ i ∧ i ≠ bx ∧ i ≠ bx + 1) by rw [hwA]; exact T9h.out.mo Mor.out)
        have DA := Lib.hid (show Marks W.heap.size wA (D :: Ds) by rw [hwA]; exact D9.out.mo Mor.out)
        have bA : Blk wA bx 42 (doC ⟨xd, xk, xa⟩) := by rw [hwA]; infer_instance
        have fA : Blk wA (bx + 1) 45 (enC f.k f.a f.d) := by rw [hwA]; infer_instance
        have NA : Mo W wA := by rw [hwA]; exact N9.trans Mor.out
        clear hwA T9h D9 b9 f9 N9 s3 s4
        go_cut [17] from 39 to 138 (fun s17 wx => s17 = .bool gb ∧ wA = wx)
        case first =>
          rcases HCF.out with ⟨rfl, rfl, rfl⟩ | ⟨rfl, rfl, rfl, cn, -⟩ | ⟨rfl, rfl, rfl, cn⟩
          · by_cases cn : (m1 : Int) = room
            · subst cn
              have dn : ((m1 : Int) == (m1 : Int)) = true := by simp
              go_wp2_with fail
              go_meet
              exact ⟨rfl, rfl⟩
            · have dn : ((m1 : Int) == room) = false := by simp [cn]
              go_wp2_with fail
              go_meet
              exact ⟨rfl, rfl⟩
          · subst cn
            have dn : ((m1 : Int) == (m1 : Int)) = true := by simp
            go_wp2_with fail
            go_meet
            exact ⟨rfl, rfl⟩
          · have dn : ((n : Int) == room) = false := by simp; omega
            go_wp2_with fail
            go_meet
            exact ⟨rfl, rfl⟩
        obtain ⟨rfl, rfl⟩ := hcut
        go_upto_region 18 with (fail)
        go_cut [112] from 39 to 138 (fun s wx => s = .bool false ∧ Mo wA wx)
        case first =>
          rcases HCF.out with ⟨rfl, rfl, rfl⟩ | ⟨rfl, rfl, rfl, cn, -⟩ | ⟨rfl, rfl, rfl, cn⟩
          · have w1 : IntKind.i64.wrap ((m1 : Int) + 1) = m1 + 1 := by rw [IntKind.wrap_i64]; omega
            by_cases cm : (m1 : Int) = room
            · subst cm
              clear m1r hEr
              have g1 : decide ((m1 : Int) < m1) = false := decide_eq_false (by omega)
              have g2 : (if (m1 : Int) < m1 + 1 then (m1 : Int) else m1 + 1) = m1 := if_pos (by omega)
              go_wp2_with fail
              refine (LN.out _ (TA.out.mo ((Mo.refl wA).trans (Mor.out : Mo wA _)))).mono ?_
              rintro e w10 ⟨rfl, M10⟩
              have MM1 : Mo wA w10 := (Mo.refl wA).trans ((Mor.out : Mo wA _).trans M10)
              clear M10
              go_wp2_with fail
              refine (LN.out _ (TA.out.mo (MM1.trans (Mor.out : Mo w10 _)))).mono ?_
              rintro e w11 ⟨rfl, M11⟩
              have MM2 : Mo wA w11 := MM1.trans ((Mor.out : Mo w10 _).trans M11)
              clear M11
              go_wp2_with fail
              refine (LN.out _ (TA.out.mo (MM2.trans (Mor.out : Mo w11 _)))).mono ?_
              rintro e w12 ⟨rfl, M12⟩
              have MM3 : Mo wA w12 := MM2.trans ((Mor.out : Mo w11 _).trans M12)
              clear M12
              go_wp2_with fail
              go_meet
              exact ⟨rfl, MM3.trans Mor.out⟩
            · have g1 : decide (room < (m1 : Int)) = false := decide_eq_false (by omega)
              have g2 : (if room < (m1 : Int) + 1 then room else (m1 : Int) + 1) = m1 + 1 := if_neg (by omega)
              have g3 : ((m1 : Int) != m1 + 1) = true := by simp; omega
              clear m1r hEr cm
              go_wp2_with fail
              refine (LN.out _ (TA.out.mo ((Mo.refl wA).trans (Mor.out : Mo wA _)))).mono ?_
              rintro e w10 ⟨rfl, M10⟩
              have MM1 : Mo wA w10 := (Mo.refl wA).trans ((Mor.out : Mo wA _).trans M10)
              clear M10
              go_wp2_with fail
              refine (LN.out _ (TA.out.mo (MM1.trans (Mor.out : Mo w10 _)))).mono ?_
              rintro e w11 ⟨rfl, M11⟩
              have MM2 : Mo wA w11 := MM1.trans ((Mor.out : Mo w10 _).trans M11)
              clear M11
              go_wp2_with fail
              refine (LN.out _ (TA.out.mo (MM2.trans (Mor.out : Mo w11 _)))).mono ?_
              rintro e w12 ⟨rfl, M12⟩
              have MM3 : Mo wA w12 := MM2.trans ((Mor.out : Mo w11 _).trans M12)
              clear M12
              go_wp2_with fail
              go_meet
              exact ⟨rfl, MM3.trans Mor.out⟩
          · have w1 : IntKind.i64.wrap ((m1 : Int) + 1) = m1 + 1 := by rw [IntKind.wrap_i64]; omega
            subst cn
            clear m1r hEr
            have g1 : decide ((m1 : Int) < m1) = false := decide_eq_false (by omega)
            have g2 : (if (m1 : Int) < m1 + 1 then (m1 : Int) else m1 + 1) = m1 := if_pos (by omega)
            go_wp2_with fail
            refine (LN.out _ (TA.out.mo ((Mo.refl wA).trans (Mor.out : Mo wA _)))).mono ?_
            rintro e w10 ⟨rfl, M10⟩
            have MM1 : Mo wA w10 := (Mo.refl wA).trans ((Mor.out : Mo wA _).trans M10)
            clear M10
            go_wp2_with fail
            refine (LN.out _ (TA.out.mo (MM1.trans (Mor.out : Mo w10 _)))).mono ?_
            rintro e w11 ⟨rfl, M11⟩
            have MM2 : Mo wA w11 := MM1.trans ((Mor.out : Mo w10 _).trans M11)
            clear M11
            go_wp2_with fail
            go_meet
            exact ⟨rfl, MM2.trans Mor.out⟩
          · have w1 : IntKind.i64.wrap ((n : Int) + 1) = n + 1 := by rw [IntKind.wrap_i64]; omega
            have w2 : ((n + 1 : Nat) : Int) = (n : Int) + 1 := by omega
            rw [w2] at LN
            go_wp2_with fail
            refine (LN.out _ (TA.out.mo ((Mo.refl wA).trans (Mor.out : Mo wA _)))).mono ?_
            rintro e w10 ⟨rfl, M10⟩
            have MM1 : Mo wA w10 := (Mo.refl wA).trans ((Mor.out : Mo wA _).trans M10)
            clear M10
            go_wp2_with fail
            refine (LN.out _ (TA.out.mo (MM1.trans (Mor.out : Mo w10 _)))).mono ?_
            rintro e w11 ⟨rfl, M11⟩
            have MM2 : Mo wA w11 := MM1.trans ((Mor.out : Mo w10 _).trans M11)
            clear M11
            go_wp2_with fail
            go_meet
            exact ⟨rfl, MM2.trans Mor.out⟩
        obtain ⟨rfl, MX⟩ := hcut
        rename World => wB
        have gB := MX.blk gA
        have TB := Lib.hid (TA.out.mo MX)
        have DB := Lib.hid (DA.out.mo MX)
        have bB := MX.blk bA
        have fB := MX.blk fA
        have NB := NA.trans MX
        clear gA TA DA bA fA NA MX LN
        go_upto_region 20 with (fail)
        go_cut [122] from 39 to 138 (fun s wx => s = .bool false ∧ wB = wx)
        case first =>
          have oz1 := one_of_fits HF1.out.1.k
          have oz2 := one_of_fits HF1.out.1.a
          rcases HCF.out with ⟨rfl, rfl, rfl⟩ | ⟨rfl, rfl, rfl, cn, ho⟩ | ⟨rfl, rfl, rfl, cn⟩
          · go_wp2_with fail
            go_meet
            exact ⟨rfl, rfl⟩
          · have NQ := fun w => entry_neq HF1.out.1 w
            clear cn
            obtain rfl : enC f.k f.a f.d = cs2 := by have := HCS.out; rw [ho] at this; injection this
            by_cases c1 : 1 < room
            · have dc1 : decide (1 < room) = true := decide_eq_true c1
              go_wp2_with fail
              go_meet
              exact ⟨rfl, rfl⟩
            · have dc1 : decide (1 < room) = false := decide_eq_false c1
              go_wp2_with fail
              go_meet
              exact ⟨rfl, rfl⟩
          · go_wp2_with fail
            go_meet
            exact ⟨rfl, rfl⟩
        obtain ⟨rfl, rfl⟩ := hcut
        go_wp2_with fail
        refine (ask_e T B room E1 _ xk xa _ TB.out.noDef XOK.out.k XOK.out.a (by have := LE1.out; omega)).mono ?_
        rintro e w20 ⟨⟨ra, rb, rc⟩, hr, rfl, T20, K20⟩
        have hr2 := AGAIN.out
        rw [hr2.1] at hr
        obtain ⟨rfl, rfl, rfl⟩ : true = ra ∧ none = rb ∧ strike E1 xk ++ [⟨xk, xa, false⟩] = rc := by
          injection hr with h1 h2
          injection h2 with h2 h3
          exact ⟨h1, h2, h3⟩
        have D20 := DB.out.kp K20 fun i q => q.2
        have N20 : Mo W w20 := K20.mo NB fun i _ q => q.1.1
        have T20h := Lib.hid (T20.weak (Q := fun i => W.heap.size ≤ i) fun i _ q => by
          rcases q with q | q
          · exact q.1.1
          · have := NB.size; omega)
        have D20h := Lib.hid D20
        have L20 := Lib.hid hr2.2
        clear hr T20 K20 D20 AGAIN TB DB bB fB gB NB hr2
        dsimp only [outV, Option.isSome]
        go_wp2_with fail
        refine ⟨?_, ?_⟩
        · (repeat apply Exists.intro)
          refine ⟨?_, rfl⟩
          exact ⟨D :: Ds, j + 1, _, rfl, by omega, by go_num, T20h.out.mo Mor.out, by rw [L20.out]; have := LE1.out; omega, N20.trans Mor.out, D20h.out.mo Mor.out⟩
        · simp [intOf]; omega
    · have ej : j = L := by omega
      subst ej
      go_wp2_with fail
      exact leaves_marks (v := .bool true) (fun w => by simp [results, Try.results4, go_sem]) Ds wr hDs hM (fun w' h => ⟨rfl, h⟩)
end Go.Proofs.Ytlbkcjpnlnlmiaa
