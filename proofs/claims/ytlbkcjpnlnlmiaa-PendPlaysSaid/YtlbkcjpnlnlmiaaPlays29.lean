/- horologelaw29.PendPlays returns true: the walk. -/
import Derived.Test.YtlbkcjpnlnlmiaaPendX
import Derived.Test.YtlbkcjpnlnlmiaaRule29
import Derived.Deep.DeepCutAuto
namespace Go.Proofs.Ytlbkcjpnlnlmiaa
open Go.RowKit Go.Maps Go.Shelf

/-- no block of the reference's -/
def NoRef (W : World) (i : Nat) : Prop := ∀ cs t z, W.heap[i]? = some (.cells cs t z) → t ≠ 62 ∧ t ≠ 67
set_option maxRecDepth 20000 in
theorem TabE.noRef {W : World} {T B : Nat} {room : Int} {E : List En} {P : Nat → Prop} (h : TabE W T B room E P) : TabE W T B room E (fun i => P i ∧ NoRef W i) := by
  obtain ⟨L, h1, h2, h3⟩ := h
  refine ⟨L, h1, h2, fun i hf => ⟨h3 i hf, fun cs t z e => ?_⟩⟩
  rcases hf with rfl | rfl | ⟨q, hq, rfl⟩
  · rw [h1.t.out] at e; injection e with e; injection e with _ e _; subst e; exact ⟨by decide, by decide⟩
  · obtain ⟨_, _, hb⟩ := h1.map.isMap
    rw [hb] at e; cases e
  · obtain ⟨o, x, b⟩ := seg_blk h1.seg q hq
    rw [b.out] at e; injection e with e; injection e with _ e _; subst e; exact ⟨by decide, by decide⟩
set_option maxRecDepth 20000 in
/-- the reference's table lies still under what writes into ours -/
theorem RefAt.ours {W w : World} {R b : Nat} {room : Int} {E : List En} {v : Value} {S : Nat → Prop} (h : RefAt W R b room E v) (k : KpS S W w) (hS : ∀ i, S i → NoRef W i) : RefAt w R b room E v := by
  refine ⟨k.blk h.t fun q => (hS _ q _ _ _ h.t.out).1 rfl, ⟨h.row.1, ?_⟩, h.ok⟩
  rcases h.row.2 with q | ⟨g, cap, cur, rfl, hb, hg, rest⟩
  · exact .inl q
  · exact .inr ⟨g, cap, cur, rfl, hb, (k.block g (Array.getElem?_eq_some_iff.1 hg).1 fun q => (hS _ q _ _ _ hg).2 rfl).trans hg, rest⟩
set_option maxRecDepth 20000 in
/-- our table lies still under what writes into the reference's -/
theorem TabE.theirs {W w : World} {T B R b : Nat} {room room' : Int} {E E' : List En} {v : Value} {P S : Nat → Prop} (h : TabE W T B room E P) (r : RefAt W R b room' E' v) (k : KpS S W w) (hS : ∀ i, S i → i = R ∨ v.ownBlock = some i) : TabE w T B room E P := by
  refine (h.noRef.keep fun i hi hp => k.block i hi fun s => ?_).weak fun i _ q => q.1
  rcases hS i s with rfl | e
  · exact (hp.2 _ _ _ r.t.out).1 rfl
  · rcases r.row.2 with ⟨rfl, _⟩ | ⟨g, cap, cur, rfl, _, hg, _⟩
    · simp [Value.ownBlock] at e
    · obtain rfl : g = i := by simpa [Value.ownBlock] using e
      exact (hp.2 _ _ _ hg).2 rfl
set_option maxRecDepth 20000 in
theorem RefAt.low {W : World} {R b : Nat} {room : Int} {E : List En} {v : Value} (h : RefAt W R b room E v) : ∀ q, v.ownBlock = some q → b ≤ q := fun q e => by
  rcases h.row.2 with ⟨rfl, _⟩ | ⟨g, cap, cur, rfl, hb, hg, _⟩
  · simp [Value.ownBlock] at e
  · obtain rfl : g = q := by simpa [Value.ownBlock] using e
    exact hb
set_option maxRecDepth 20000 in
theorem RefAt.top {W : World} {R b : Nat} {room : Int} {E : List En} {v : Value} (h : RefAt W R b room E v) : ∀ q, v.ownBlock = some q → q < W.heap.size := fun q e => by
  rcases h.row.2 with ⟨rfl, _⟩ | ⟨g, cap, cur, rfl, hb, hg, _⟩
  · simp [Value.ownBlock] at e
  · obtain rfl : g = q := by simpa [Value.ownBlock] using e
    exact (Array.getElem?_eq_some_iff.1 hg).1
set_option maxRecDepth 20000 in
theorem wdz_fits : Fits (ksOf 40) wdz.toList := by
  have e : ksOf 40 = [.i .i64, .i .u64] := by kernel_rfl
  rw [e]
  exact ⟨⟨rfl, rfl⟩, ⟨rfl, rfl⟩, trivial⟩
set_option maxRecDepth 20000 in
theorem ansV_form {E : List En} {k : Array Value} (ok : ∀ e ∈ E, EnOk e) (hk : KeyP k) : ∃ x : En, EnOk x ∧ (ansV E k).1 = .agg (enC x.k x.a x.d) := by
  unfold ansV
  cases h : findE E k with
  | none => exact ⟨⟨k, wdz, false⟩, ⟨hk, wdz_fits⟩, rfl⟩
  | some e => exact ⟨e, ok e (List.mem_of_find?_eq_some h), rfl⟩
set_option maxRecDepth 20000 in
theorem plays_ret {R : Ending → World → Prop} {a : Act} {w : World} (D : Nat) (b : Bool)
    (h6 : a.tmps.getD 6 undef = .bool b) (hb : b = true) (hd : a.defers = [{ target := Target.collected D, args := #[] }])
    (hK : w.heap[D]? = some (.deferred (some [])))
    (hR : R (.returned (.bool true)) (w.putObj D (.deferred none))) : bodyPostM Fence.wide 6 Try.prog Try.f6 R .ret a w := by
  obtain ⟨tm, df⟩ := a
  simp only at h6 hd
  subst hd hb
  refine ⟨by simp, .inl ⟨_, _, rfl, run_takeDeferred hK, ?_⟩⟩
  refine ⟨.bool true, ?_, hR⟩
  have k6 : tm[6]?.getD undef = .bool true := by simpa using h6
  simp [results, Try.results6, go_sem, k6]
structure PlayI (V : World) (nc : Nat) (left : Int) (pre : List En) (W : World) : Prop where
  n : Blk W nc 3 #[.int .i64 pre.length]
  bel : Below V.heap.size V W
  c : pre.length = 0 ∨ (pre.length : Int) < left
structure PlayX (V : World) (nc : Nat) (left : Int) (c : Code) (pre : List En) (W : World) : Prop where
  c : c = .exit 3
  n : Blk W nc 3 #[.int .i64 pre.length]
  bel : Below V.heap.size V W
  k : 0 < pre.length ∧ left ≤ pre.length ∧ (pre.length = 1 ∨ (pre.length : Int) ≤ left)
set_option maxRecDepth 20000 in
theorem playI_own {V : World} {nc n : Nat} {left : Int} (hn : V.heap.size ≤ n) : OwnFrom n (PlayI V nc left) := fun _ _ _ _ hs hg hr =>
  ⟨blk_grown' hs.n hg hr, hs.bel.grown hg hs.bel.size (fun k e => Nat.le_trans hn (hr k e).1), hs.c⟩
set_option maxRecDepth 20000 in
theorem playX_own {V : World} {nc n : Nat} {left : Int} (c : Code) (hn : V.heap.size ≤ n) : OwnFrom n (PlayX V nc left c) := fun _ _ _ _ hs hg hr =>
  ⟨hs.c, blk_grown' hs.n hg hr, hs.bel.grown hg hs.bel.size (fun k e => Nat.le_trans hn (hr k e).1), hs.k⟩
attribute [local go_sem] blk_cell' blk_frozen' do_kd do_key do_at en_at' en_key' en_ans
attribute [local go_sem ↓] loadF_key loadF_do storeF_do loadF_entry storeF_entry loadF_wide' loadF_rentry storeF_rentry
attribute [local go_sem] run_loadFo run_loadFz run_loadF0 run_storeF0
attribute [local go_sem] Oper.semAt_some
set_option maxRecDepth 20000 in
theorem run_build_table0 (w : World) (k : Int) : (Instr.build 62 #[(0, .int .i64 k)]).run Try.prog w = .ok (.agg #[.int .i64 k, .slice none 0 0]) w := run_build w _ _ _ (by kernel_rfl)
set_option maxRecDepth 20000 in
set_option maxHeartbeats 40000000 in
theorem plays29_any (room left : Int) (A : Option Addr) (cap L : Nat) (l : List Do) (W : World) (hr : -9223372036854775808 ≤ room ∧ room ≤ 9223372036854775807) (hl : -9223372036854775808 ≤ left ∧ left ≤ 9223372036854775807) (hL : l.length = L) (h : DoS W A cap l) :
    Calls Try.prog 6 #[.int .i64 room, .slice A L cap, .int .i64 left] W fun e w' => e = .returned (.bool true) ∧ Mo W w' := by
  have WK := Lib.hid works29_any
  have HD := Lib.hid h
  have hlim := h.lim
  rw [hL] at hlim
  have HL := Lib.hid hL
  have rb := run_build_table0
  clear h hL
  refine (callsIn_wide (n := 6)).1 ?_
  refine callsIn_of_wp_marks Try.func6 rfl trivial ?_ rfl
  simp only [Try.ntmps6, List.size_toArray, List.length_cons, List.length_nil, Nat.reduceAdd, Nat.reduceSub, Array.replicate_succ, Array.replicate_zero, List.push_toArray, List.append_toArray, List.nil_append, List.cons_append]
  refine wpIn_wide.2 ?_
  by_cases c0 : 300 < L
  · have d0 : decide (300 < (L : Int)) = true := decide_eq_true (by omega)
    go_wp2_with fail
    refine (WK.out _).mono ?_
    rintro e w1 ⟨rfl, M1⟩
    go_wp2_with fail
    exact ⟨.bool true, by simp [results, Try.results6, go_sem], rfl, Mo.trans Mor.out M1⟩
  have d0 : decide (300 < (L : Int)) = false := decide_eq_false (by omega)
  go_wp2_with fail
  refine (WK.out _).mono ?_
  rintro e w1 ⟨rfl, M1⟩
  have B0 : Blk w1 W.heap.size 3 #[.int .i64 left] := M1.blk inferInstance
  have M1' := (Mor.out : Mo W _).trans M1
  clear M1 WK
  go_wp2_with fail
  by_cases cr : 1 ≤ room ∧ room ≤ 65536
  · have c1 : decide (room < 1) = false := decide_eq_false (by omega)
    have c2 : decide (65536 < room) = false := decide_eq_false (by omega)
    refine (new_in room cr _).mono ?_
    rintro e w2 ⟨T0, B0', rfl, T2, M2⟩
    have B2 := M2.blk B0
    go_upto_region 7 with (fail)
    refine wp_name ?_
    intro w3 hw3
    obtain ⟨R, hRs⟩ : ∃ R, w2.heap.size = R := ⟨_, rfl⟩
    have R3 : RefAt w3 R w1.heap.size room [] (.slice none 0 0) := ⟨by rw [hw3, ← hRs]; infer_instance, ⟨rfl, .inl ⟨rfl, rfl⟩⟩, fun e h => (by cases h)⟩
    have T3 : TabE w3 T0 B0' room [] (fun i => w1.heap.size ≤ i) := by rw [hw3]; exact T2.mo Mor.out
    have M3 : Mo w1 w3 := by rw [hw3]; exact M2.trans Mor.out
    have hWR : w1.heap.size ≤ R := by rw [← hRs]; exact M2.size
    rw [hRs]
    clear hw3 hRs T2 M2 B2 c1 c2
    go_wp2_with fail
    go_loopw [7, 53] (fun t i wr => ∃ (j T B : Nat) (v : Value), j ≤ L ∧ i = .int .i64 j ∧ t = ptr T ∧ TabE wr T B room (playE room l j) (fun i => w1.heap.size ≤ i) ∧ RefAt wr R w1.heap.size room (playE room l j) v ∧ Mo w1 wr) (fun _ i _ => L - (intOf i).toNat)
    case atStart => exact ⟨0, T0, B0', _, by omega, rfl, rfl, T3, R3, M3⟩
    case round =>
      clear T3 R3 M3
      obtain ⟨j, T, B, v, hj, rfl, rfl, hT, hR, hM⟩ := hrel
      have hMW := M1'.trans hM
      by_cases cj : j < L
      · have hjl : j < l.length := by rw [HL.out]; exact cj
        obtain ⟨g, off, rfl, ld, -, -⟩ := (HD.out.mo hMW).get j hjl
        have PE0 : playE room l (j + 1) = stepE room (playE room l j) l[j] := by rw [playE, List.getElem?_eq_getElem hjl]
        have XO := HD.out.ok _ (List.getElem_mem hjl)
        have EL1 := playE_len cr.1 l j
        have EL2 := playE_len cr.1 l (j + 1)
        have i0 : (0 : Int) ≤ j := by omega
        have i1 : (j : Int) < L := by omega
        generalize l[j] = x at *
        obtain ⟨xd, xk, xa⟩ := x
        have zk := key_sz XO.k
        have za := at_sz XO.a
        have ok1 := one_of_fits XO.k
        have oa1 := one_of_fits XO.a
        simp only at zk za ok1 oa1
        have XOK := Lib.hid XO
        clear XO hjl
        go_upto_region 10 with (fail)
        refine wp_name ?_
        intro w4 hw4
        have b4 : Blk w4 wr.heap.size 42 (doC ⟨xd, xk, xa⟩) := by rw [hw4]; infer_instance
        have hT4 : TabE w4 T B room (playE room l j) (fun i => w1.heap.size ≤ i ∧ i < wr.heap.size) := by rw [hw4]; exact (hT.weak (Q := fun i => w1.heap.size ≤ i ∧ i < wr.heap.size) fun i h1 h2 => ⟨h2, h1⟩).mo Mor.out
        have hR4 : RefAt w4 R w1.heap.size room (playE room l j) v := by rw [hw4]; exact hR.mo Mor.out
        have hM4 : Mo w1 w4 := by rw [hw4]; exact hM.trans Mor.out
        clear hw4 ld hT hR hM hMW
        generalize wr.heap.size = bx at *
        have hbx := b4.lt
        obtain ⟨E, hE⟩ : ∃ E, playE room l j = E := ⟨_, rfl⟩
        obtain ⟨E2, hE2⟩ : ∃ E2, playE room l (j + 1) = E2 := ⟨_, rfl⟩
        rw [hE] at PE0 EL1 hT4 hR4
        rw [hE2] at PE0 EL2
        have PE := Lib.hid hE2
        have EL : E.length ≤ 65536 := by have := cr.2; omega
        have nd := Lib.hid hT4.keys
        clear hE hE2
        by_cases k0 : xd = 0
        · have dk0 : (xd == 0) = true := by simp [k0]
          rw [stepE, if_pos k0] at PE0
          have HE2 := Lib.hid PE0
          have HT := Lib.hid hT4.noRef
          have HR := Lib.hid hR4
          clear k0 PE0 hT4 hR4
          go_wp2_with fail
          refine (ask_e T B room E _ xk xa _ HT.out XOK.out.k XOK.out.a EL).mono ?_
          rintro e w5 ⟨⟨ra, rb, rc⟩, hr, rfl, T5, K5⟩
          dsimp only at T5 ⊢
          have R5 := HR.out.ours K5 (fun i q => q.2)
          have M5 : Mo w1 w5 := K5.mo hM4 fun i _ q => q.1.1
          obtain rfl : hasE E xk = ra := by
            have := ask_fst room E xk xa
            rw [hr] at this
            exact this.symm
          obtain rfl : E2 = rc := by rw [HE2.out, hr]
          have T5' : TabE w5 T B room E2 (fun i => w1.heap.size ≤ i) := T5.weak fun i _ q => by
            rcases q with q | q
            · exact q.1.1
            · have := hM4.size; omega
          have OKr : ∀ e, rb = some e → EnOk e := fun e he => ask_ok HT.out.ok ⟨XOK.out.k, XOK.out.a⟩ (by rw [hr]; exact he)
          obtain ⟨cs, ecs, s1, s2⟩ := out_form rb OKr
          rw [ecs]
          have RA := Lib.hid (fun w (k : Mo w5 w) => rask_any R w1.heap.size room E v xk xa w (R5.mo k) XOK.out.k XOK.out.a EL nd.out (Nat.le_trans M5.size k.size))
          have T5h := Lib.hid T5'
          have R5h := Lib.hid R5
          have OKh := Lib.hid OKr
          have hrh := Lib.hid hr
          have ech := Lib.hid ecs
          have b5 := K5.blk b4 (fun q => by have := q.1.2; omega)
          clear T5 T5' K5 R5 OKr hr ecs b4 hM4 HT HR
          go_upto_region 13 with (fail)
          refine wp_name ?_
          intro u hu
          have bu : Blk u w5.heap.size 45 cs := by rw [hu]; infer_instance
          have b5u : Blk u bx 42 (doC ⟨xd, xk, xa⟩) := by rw [hu]; infer_instance
          have Mu : Mo w5 u := by rw [hu]; exact Mor.out
          clear hu b5
          go_wp2_with fail
          refine (RA.out _ Mu).mono ?_
          rintro e w6 ⟨v2, o, rfl, R6, K6, V6, hm⟩
          rw [hrh.out] at R6 hm
          dsimp only at R6 hm
          have T6 := (T5h.out.mo Mu).theirs (R5h.out.mo Mu) K6 (fun i q => q)
          have M6 : Mo w1 w6 := K6.mo (M5.trans Mu) fun i _ q => by
            rcases q with rfl | q
            · exact hWR
            · exact R5h.out.low i q
          have b6 : Blk w6 w5.heap.size 45 cs := K6.blk bu (fun q => by
            rcases q with q | q
            · have := R5h.out.t.lt; omega
            · have := R5h.out.top _ q; omega)
          have T6h := Lib.hid T6
          have R6h := Lib.hid R6
          have EL2' : E2.length ≤ 65536 := by have := cr.2; omega
          clear T6 R6 K6 V6 bu b5u Mu RA R5h T5h M5
          cases rb with
          | none =>
            subst hm
            clear OKh hrh
            go_wp2_with fail
            refine wp_region_mo (by kernel_rfl) (by kernel_rfl) ?_
            repeat (go_big_quiet_step (fail))
            refine wpQuiet_nil ?_
            intro _ hw'
            obtain ⟨⟨J9, d9⟩, hw''⟩ := hw'
            subst hw''
            have TT := T6h.out.mo (Mor.out : Mo w6 (more w6 J9 d9))
            have RR := R6h.out.mo (Mor.out : Mo w6 (more w6 J9 d9))
            have MM := M6.trans (Mor.out : Mo w6 (more w6 J9 d9))
            clear T6h R6h M6 b6
            go_wp2_with fail
            refine (stands_any T B R w1.heap.size room room E2 v2 _ _ TT RR EL2').mono ?_
            rintro e w8 ⟨rfl, M8⟩
            have TT8 := Lib.hid (TT.mo M8)
            have RR8 := Lib.hid (RR.mo M8)
            have MM8 := MM.trans M8
            clear TT RR MM M8
            go_wp2_with fail
            go_roundw
            case rel => exact ⟨j + 1, T, B, v2, by omega, by go_num, rfl, by rw [PE.out]; exact TT8.out, by rw [PE.out]; exact RR8.out, MM8⟩
            case measure => simp [intOf]; omega
          | some x =>
            obtain ⟨gx, cx, rfl, hcx⟩ := hm
            have xok := OKh.out x rfl
            have SM := Lib.hid (fun w => same29_any x xok w)
            have ld : ∀ J d, (loadF 67 (.pointer (some ⟨gx, 0, none⟩))).run Try.prog (more w6 J d) = .ok (.agg (enC x.k x.a x.d)) (more w6 J d) := fun J d => run_loadC 67 40 _ gx 0 _ (by rw [← Array.length_toList]; exact en_len xok) (fun j v hj => by
              have h1 := hcx j v hj
              have : LtW gx w6 := LtW.of_cell h1
              rw [(Mor.out : Mo w6 (more w6 J d)).cell, Nat.zero_add]
              exact h1)
            obtain rfl : enC x.k x.a x.d = cs := by have := ech.out; injection this
            clear OKh hrh xok hcx
            go_wp2_with fail
            refine wp_region_mo (by kernel_rfl) (by kernel_rfl) ?_
            repeat (go_big_quiet_step (first | (with_reducible exact quiet_mo (SM.out _))))
            refine wpQuiet_nil ?_
            intro _ hw'
            obtain ⟨⟨J9, d9⟩, hw''⟩ := hw'
            subst hw''
            have TT := T6h.out.mo (Mor.out : Mo w6 (more w6 J9 d9))
            have RR := R6h.out.mo (Mor.out : Mo w6 (more w6 J9 d9))
            have MM := M6.trans (Mor.out : Mo w6 (more w6 J9 d9))
            clear T6h R6h M6 b6 ld SM
            go_wp2_with fail
            refine (stands_any T B R w1.heap.size room room E2 v2 _ _ TT RR EL2').mono ?_
            rintro e w8 ⟨rfl, M8⟩
            have TT8 := Lib.hid (TT.mo M8)
            have RR8 := Lib.hid (RR.mo M8)
            have MM8 := MM.trans M8
            clear TT RR MM M8
            go_wp2_with fail
            go_roundw
            case rel => exact ⟨j + 1, T, B, v2, by omega, by go_num, rfl, by rw [PE.out]; exact TT8.out, by rw [PE.out]; exact RR8.out, MM8⟩
            case measure => simp [intOf]; omega
        · have dk0 : (xd == 0) = false := by simp [k0]
          rw [stepE, if_neg k0] at PE0
          have EL2' : E2.length ≤ 65536 := by have := cr.2; omega
          clear k0
          by_cases k1 : xd = 1
          · have dk1 : (xd == 1) = true := by simp [k1]
            rw [if_pos k1] at PE0
            have HE2 := Lib.hid PE0
            have HT := Lib.hid hT4.noRef
            have HR := Lib.hid hR4
            obtain ⟨x, xok, hx⟩ := ansV_form hT4.ok XOK.out.k
            have HX := Lib.hid hx
            have z1 := key_sz xok.k
            have z2 := at_sz xok.a
            have y1 := one_of_fits xok.k
            have y2 := one_of_fits xok.a
            clear k1 PE0 hT4 hR4 hx
            go_wp2_with fail
            refine (answer_e T B room E _ xk _ HT.out XOK.out.k).mono ?_
            rintro e w5 ⟨⟨ra, rb⟩, hr, rfl, T5, K5⟩
            obtain rfl : .agg (enC x.k x.a x.d) = ra := by
              have := HX.out
              rw [hr] at this
              exact this.symm
            have R5 := HR.out.ours K5 (fun i q => q.2)
            have M5 : Mo w1 w5 := K5.mo hM4 fun i _ q => q.1.1
            have T5' : TabE w5 T B room E2 (fun i => w1.heap.size ≤ i) := by
              rw [HE2.out]
              exact T5.weak fun i _ q => q.1.1
            have RA := Lib.hid (fun w (k : Mo w5 w) => ranswer_any R w1.heap.size room E v xk w (R5.mo k) XOK.out.k EL nd.out)
            have T5h := Lib.hid T5'
            have R5h := Lib.hid R5
            have hrh := Lib.hid hr
            have b5 := K5.blk b4 (fun q => by have := q.1.2; omega)
            clear T5 T5' K5 R5 hr b4 hM4 HT HR HX
            go_upto_region 18 with (fail)
            refine wp_name ?_
            intro u hu
            have bu : Blk u w5.heap.size 45 (enC x.k x.a x.d) := by rw [hu]; infer_instance
            have b5u : Blk u bx 42 (doC ⟨xd, xk, xa⟩) := by rw [hu]; infer_instance
            have Mu : Mo w5 u := by rw [hu]; exact Mor.out
            clear hu b5
            go_wp2_with fail
            refine (RA.out _ Mu).mono ?_
            rintro e w6 ⟨r, hr, rfl, R6, K6⟩
            rw [hrh.out] at hr
            subst hr
            have T6 := (T5h.out.mo Mu).theirs (R5h.out.mo Mu) K6 (fun i q => .inr q)
            have M6 : Mo w1 w6 := K6.mo (M5.trans Mu) fun i _ q => R5h.out.low i q
            have b6 : Blk w6 w5.heap.size 45 (enC x.k x.a x.d) := K6.blk bu (fun q => by have := R5h.out.top _ q; omega)
            rw [← HE2.out] at R6
            have T6h := Lib.hid T6
            have R6h := Lib.hid R6
            clear T6 R6 K6 bu b5u Mu RA R5h T5h M5 hrh
            go_upto_region 19 with (fail)
            refine wp_name ?_
            intro u hu
            have bu : Blk u w5.heap.size 45 (enC x.k x.a x.d) := by rw [hu]; infer_instance
            have bv : Blk u w6.heap.size 67 (enC x.k x.a x.d) := by rw [hu]; infer_instance
            have Mu : Mo w6 u := by rw [hu]; exact Mor.out
            clear hu b6
            go_wp2_with fail
            refine (same29_any x xok _).mono ?_
            rintro e w7 ⟨rfl, M7⟩
            have TT := T6h.out.mo (Mu.trans M7)
            have RR := R6h.out.mo (Mu.trans M7)
            have MM := M6.trans (Mu.trans M7)
            clear T6h R6h M6 bu bv Mu M7
            go_wp2_with fail
            refine (stands_any T B R w1.heap.size room room E2 v _ _ TT RR EL2').mono ?_
            rintro e w8 ⟨rfl, M8⟩
            have TT8 := Lib.hid (TT.mo M8)
            have RR8 := Lib.hid (RR.mo M8)
            have MM8 := MM.trans M8
            clear TT RR MM M8
            go_wp2_with fail
            go_roundw
            case rel => exact ⟨j + 1, T, B, v, by omega, by go_num, rfl, by rw [PE.out]; exact TT8.out, by rw [PE.out]; exact RR8.out, MM8⟩
            case measure => simp [intOf]; omega
          · have dk1 : (xd == 1) = false := by simp [k1]
            rw [if_neg k1] at PE0
            subst PE0
            clear k1
            by_cases k2 : xd = 2
            · have dk2 : (xd == 2) = true := by simp [k2]
              have HT := Lib.hid hT4
              have HR := Lib.hid hR4
              clear k2 hT4 hR4
              go_wp2_with fail
              refine (copy_e T B room E2 _ _ HT.out EL cr.1 cr.2).mono ?_
              rintro e w5 ⟨T', B', rfl, TN, M5⟩
              have b5 := M5.blk b4
              have T5 := Lib.hid ((HT.out.mo M5).noRef)
              have R5 := Lib.hid (HR.out.mo M5)
              have N5 := hM4.trans M5
              have TN5 := Lib.hid (TN.weak (Q := fun i => w4.heap.size ≤ i ∧ i < w5.heap.size) fun i h1 h2 => ⟨h2, h1⟩)
              have sz5 := M5.size
              have sz4 := hM4.size
              clear TN HT HR b4 hM4 M5
              go_wp2_with fail
              refine (ask_e T B room E2 _ xk xa _ T5.out XOK.out.k XOK.out.a EL).mono ?_
              rintro e w6 ⟨⟨ra, rb, rc⟩, -, rfl, T6, K6⟩
              dsimp only at T6 ⊢
              have R6 := Lib.hid (R5.out.ours K6 (fun i q => q.2))
              have N6 : Mo w1 w6 := K6.mo N5 fun i _ q => q.1.1
              have TN6 := Lib.hid (TN5.out.keep (w := w6) fun i hi hp => K6.block i hi fun q => by have := q.1.2; omega)
              have b6 := K6.blk b5 (fun q => by have := q.1.2; omega)
              have T6h := Lib.hid T6.noRef
              have sz6 := K6.size
              generalize outV rb = ob
              clear T6 K6 T5 R5 N5 TN5 b5
              go_wp2_with fail
              refine (answer_e T B room rc _ xk _ T6h.out XOK.out.k).mono ?_
              rintro e w7 ⟨⟨ra', rb'⟩, -, rfl, -, K7⟩
              dsimp only
              have RR := R6.out.ours K7 (fun i q => q.2)
              have MM : Mo w1 w7 := K7.mo N6 fun i _ q => by
                rcases q.1 with q | q
                · exact q.1.1
                · omega
              have TT := (TN6.out.keep (w := w7) fun i hi hp => K7.block i hi fun q => by
                rcases q.1 with q | q
                · have := q.1.2; omega
                · omega).weak (Q := fun i => w1.heap.size ≤ i) fun i _ q => by omega
              clear K7 T6h R6 N6 TN6 b6
              go_wp2_with fail
              refine (stands_any T' B' R w1.heap.size room room E2 v _ _ TT RR EL2').mono ?_
              rintro e w8 ⟨rfl, M8⟩
              have TT8 := Lib.hid (TT.mo M8)
              have RR8 := Lib.hid (RR.mo M8)
              have MM8 := MM.trans M8
              clear TT RR MM M8
              go_wp2_with fail
              go_roundw
              case rel => exact ⟨j + 1, T', B', v, by omega, by go_num, rfl, by rw [PE.out]; exact TT8.out, by rw [PE.out]; exact RR8.out, MM8⟩
              case measure => simp [intOf]; omega
            · have dk2 : (xd == 2) = false := by simp [k2]
              have TT := hT4.weak (Q := fun i => w1.heap.size ≤ i) fun i _ q => q.1
              have RR := hR4
              have MM := hM4
              clear k2 hT4 hR4 hM4
              go_wp2_with fail
              refine (stands_any T B R w1.heap.size room room E2 v _ _ TT RR EL2').mono ?_
              rintro e w8 ⟨rfl, M8⟩
              have TT8 := Lib.hid (TT.mo M8)
              have RR8 := Lib.hid (RR.mo M8)
              have MM8 := MM.trans M8
              clear TT RR MM M8
              go_wp2_with fail
              go_roundw
              case rel => exact ⟨j + 1, T, B, v, by omega, by go_num, rfl, by rw [PE.out]; exact TT8.out, by rw [PE.out]; exact RR8.out, MM8⟩
              case measure => simp [intOf]; omega
      · obtain rfl : j = L := by omega
        obtain ⟨E, hE⟩ : ∃ E, playE room l j = E := ⟨_, rfl⟩
        have EL := playE_len cr.1 l j
        rw [hE] at hT hR EL
        clear hE cj hj
        go_wp2_with fail
        refine (all_any _ _).mono ?_
        rintro e w3' ⟨rfl, rfl⟩
        go_wp2_with fail
        -- RANGE
        obtain ⟨Ls, hTL, rfl, hP⟩ := hT
        have LE : Ls.length ≤ 65536 := by rw [List.length_map] at EL; have := cr.2; omega
        obtain ⟨w, hw⟩ : ∃ w, (wr.alloc (.cells #[.int .i64 0] 3)).alloc (.cells #[.pointer (some ⟨T, 0, none⟩)] 24) = w := ⟨_, rfl⟩
        have x0 : Blk w wr.heap.size 3 #[.int .i64 0] := by rw [← hw]; infer_instance
        have x1 : Boxed w (wr.heap.size + 1) 24 (ptr T) := by rw [← hw]; exact (inferInstance : Blk _ _ _ _).out
        have hMw : Mo wr w := by rw [← hw]; exact Mor.out
        rw [hw]
        have hsz : wr.heap.size ≤ w.heap.size := hMw.size
        have hVw : wr.heap.size < w.heap.size := x0.lt
        have Br : Blk wr W.heap.size 3 #[.int .i64 left] := hM.blk B0
        clear hw
        refine (wpIn_wide (n := 6)).1 ?_
        refine wpIn_range_px (F := Fence.wide) (n := 6) (w0 := w) rfl (by omega) (gf := 24) (lb := #[.pointer (some ⟨wr.heap.size + 1, 0, none⟩)]) rfl trivial (enters_of Try.func24 (by kernel_rfl) rfl)
          (all_seq 5 _ T B room Ls w (hTL.mo hMw) LE x1) KpC.trans (KpC.put (w := w)) (Below.refl _ _) (fun _ => rfl)
          (PlayI wr wr.heap.size left) (PlayX wr wr.heap.size left)
          (playI_own hsz) (fun c => playX_own c hsz)
          ⟨x0, hMw.below, .inl rfl⟩
          (fun pre x a' _ => (∃ r, pre ++ x :: r = Ls.map (·.2)) ∧ a' = (⟨#[Value.int IntKind.i64 room, Value.slice A j cap, Value.int IntKind.i64 left, undef, undef, Value.pointer (some { block := W.heap.size, off := 0 }), u6, ptr T, Value.int IntKind.i64 0, Value.pointer (some { block := R, off := 0 }), undef, u11, u12, u13, u14, u15, u16, u17, u18, u19, u20, u21, Value.pointer (some { block := wr.heap.size, off := 0 }), Value.slice A j cap, Value.int IntKind.i64 (j : Int), Value.bool false, Value.bool false, Value.bool true, Value.bool false, Value.bool false, undef, Value.tuple #[ptr T0, Value.int IntKind.i64 0], Value.int IntKind.i64 room, Value.tuple #[ptr T0, Value.int IntKind.i64 0], ptr T0, Value.int IntKind.i64 0, Value.int IntKind.i64 room, Value.bool false, Value.bool false, Value.int IntKind.i64 room, Value.bool false, Value.bool false, undef, undef, undef, undef, undef, undef, Value.int IntKind.i64 room, Value.agg #[Value.int IntKind.i64 room, Value.slice none 0 0], Value.pointer (some { block := R, off := 0 }), Value.slice A j cap, Value.int IntKind.i64 (j : Int), Value.int IntKind.i64 (j : Int), Value.bool false, u55, u56, u57, u58, u59, u60, u61, u62, u63, u64, u65, u66, u67, u68, u69, u70, u71, u72, u73, u74, u75, u76, u77, u78, u79, u80, u81, u82, u83, u84, u85, u86, u87, u88, u89, u90, u91, u92, u93, u94, u95, u96, u97, u98, u99, u100, u101, u102, u103, u104, u105, u106, u107, u108, u109, u110, u111, u112, u113, u114, u115, u116, u117, u118, u119, u120, u121, u122, u123, u124, u125, u126, u127, u128, u129, u130, u131, u132, u133, u134, u135, u136, u137, u138, u139, u140, u141, u142, u143, u144, u145, u146, u147, ptr T, Value.func (.func 24) #[] #[Value.pointer (some { block := wr.heap.size + 1, off := 0 })], .agg (enC x.k x.a x.d), undef, undef, undef, undef, undef, undef, undef, undef, undef, undef, undef, undef, undef, undef, undef], []⟩ : Act))
          (fun _ _ _ _ _ _ _ h _ _ => h)
          ?assign ?body ?done ?stop
        case assign =>
          rintro l' pre ⟨xk, xa, xd⟩ Wr K hI hP' hK
          dsimp only [encE]
          gi_wp2
          exact hK _ _ (KeepsFrom.refl _ _) ⟨Nat.le_refl _, fun _ _ _ _ h => h⟩ hI ⟨hP', rfl⟩
        case body =>
          rintro l' pre x a' Wr hl' ⟨r, hr'⟩ ⟨cn, bel, hc⟩ ⟨⟨r2, hmore⟩, rfl⟩ hlt
          clear hr'
          have hM' : Mo wr Wr := Mo.of bel
          obtain ⟨q, hq⟩ : ∃ q, pre.length = q := ⟨_, rfl⟩
          rw [hq] at cn hc
          rw [hq, List.length_map] at hlt
          have e1 : (((pre ++ [x]).length : Nat) : Int) = (q : Int) + 1 := by rw [List.length_append, hq]; simp
          have E1 := Lib.hid e1
          have HBL := Lib.hid bel
          have Bl := hM'.blk Br
          have i0 : (0 : Int) ≤ q := by omega
          have j1 : IntKind.i64.wrap ((q : Int) + 1) = q + 1 := by rw [IntKind.wrap_i64]; omega
          have cn9 := blk_setCell cn 0 (.int .i64 ((q : Int) + 1))
          have Bl9 := blk_setCell_ne Bl (show wr.heap.size ≠ W.heap.size by have := Br.lt; omega) 0 (.int .i64 ((q : Int) + 1))
          obtain ⟨q1, q2⟩ := mo_set_keeps (Mo.refl Wr) hVw 0 (.int .i64 ((q : Int) + 1))
          have M9 := (mo_setCell hM' (Nat.le_refl _) 0 (.int .i64 ((q : Int) + 1))).below
          have HC := Lib.hid hc
          clear e1 hq hmore hc bel
          by_cases cl : left ≤ (q : Int) + 1
          · have dl : decide (left ≤ (q : Int) + 1) = true := decide_eq_true cl
            gi_wp2
            refine ⟨q1, rfl, by rw [E1.out]; exact cn9, M9, ?_⟩
            have := HC.out
            have := E1.out
            omega
          · have dl : decide (left ≤ (q : Int) + 1) = false := decide_eq_false cl
            gi_wp2
            refine ⟨q1, q2, by rw [E1.out]; exact cn9, M9, .inr ?_⟩
            have := E1.out
            omega
        case done =>
          rintro D xs Wr hD rfl ⟨cn, bel, hc⟩ hK
          have hM' : Mo wr Wr := Mo.of bel
          obtain ⟨Av, cv, rfl⟩ : ∃ A c, v = .slice A (Ls.map (·.2)).length c := row_sl' hR.row
          have tr := (hM'.blk hR.t)
          have Bl := hM'.blk Br
          have hDl : D < Wr.heap.size := (Array.getElem?_eq_some_iff.1 hK).1
          obtain ⟨N, hN⟩ : ∃ N, (Ls.map (·.2)).length = N := ⟨_, rfl⟩
          rw [hN] at cn hc tr
          have HK := Lib.hid hK
          have HC := Lib.hid hc
          have MN : Hid (min (N : Int) (max left 1) = N) := Lib.hid (by omega)
          clear hN hc hK hR bel
          go_wp2_with fail
          refine wp_region_mo (by kernel_rfl) (by kernel_rfl) ?_
          repeat (go_big_quiet_step (fail))
          refine wpQuiet_nil ?_
          intro _ hw'
          obtain ⟨⟨J9, d9⟩, hw''⟩ := hw'
          subst hw''
          go_wp2_with fail
          all_goals
            have M9 : Mo Wr (more Wr J9 d9) := Mor.out
            have hK9 : (more Wr J9 d9).heap[D]? = some (.deferred (some [])) := (M9.below.block D hDl).trans HK.out
            refine plays_ret D _ rfl ?_ rfl hK9 ⟨rfl, Mo.of_below ((hMW.trans hM').trans M9) (belowK_b (w := w) (Nat.le_trans hMW.size hsz) _ D _ _ hD hK9 rfl rfl)⟩
            have := HC.out
            first
              | rfl
              | (simp only [beq_iff_eq]; omega)
        case stop =>
          rintro D c pre Wr hD ⟨r9, hSp⟩ ⟨rfl, cn, bel, hk⟩ hK
          have hM' : Mo wr Wr := Mo.of bel
          obtain ⟨Av, cv, rfl⟩ : ∃ A c, v = .slice A (Ls.map (·.2)).length c := row_sl' hR.row
          have tr := (hM'.blk hR.t)
          have Bl := hM'.blk Br
          have hDl : D < Wr.heap.size := (Array.getElem?_eq_some_iff.1 hK).1
          obtain ⟨q, hq⟩ : ∃ q, pre.length = q := ⟨_, rfl⟩
          have hqN : q ≤ (Ls.map (·.2)).length := by rw [← hSp, List.length_append]; omega
          obtain ⟨N, hN⟩ : ∃ N, (Ls.map (·.2)).length = N := ⟨_, rfl⟩
          rw [hq] at cn hk
          rw [hN] at tr hqN
          have HK := Lib.hid hK
          have HC := Lib.hid hk
          have HQ := Lib.hid hqN
          clear hN hk hK hR bel hq hSp hqN
          refine (wpIn_wide (n := 6)).2 ?_
          go_wp2_with fail
          refine wp_region_mo (by kernel_rfl) (by kernel_rfl) ?_
          repeat (go_big_quiet_step (fail))
          refine wpQuiet_nil ?_
          intro _ hw'
          obtain ⟨⟨J9, d9⟩, hw''⟩ := hw'
          subst hw''
          go_wp2_with fail
          all_goals
            have M9 : Mo Wr (more Wr J9 d9) := Mor.out
            have hK9 : (more Wr J9 d9).heap[D]? = some (.deferred (some [])) := (M9.below.block D hDl).trans HK.out
            refine plays_ret D _ rfl ?_ rfl hK9 ⟨rfl, Mo.of_below ((hMW.trans hM').trans M9) (belowK_b (w := w) (Nat.le_trans hMW.size hsz) _ D _ _ hD hK9 rfl rfl)⟩
            have := HC.out
            have := HQ.out
            first
              | rfl
              | (simp only [beq_iff_eq]; omega)
  · -- BAD ROOM
    refine (new_out room cr _).mono ?_
    rintro e w2 ⟨rfl, M2⟩
    by_cases c1 : room < 1
    · have d1 : decide (room < 1) = true := decide_eq_true c1
      go_wp2_with fail
      exact ⟨.bool true, by simp [results, Try.results6, go_sem], rfl, M1'.trans M2⟩
    · have d1 : decide (room < 1) = false := decide_eq_false c1
      have d2 : decide (65536 < room) = true := decide_eq_true (by omega)
      go_wp2_with fail
      exact ⟨.bool true, by simp [results, Try.results6, go_sem], rfl, M1'.trans M2⟩
end Go.Proofs.Ytlbkcjpnlnlmiaa
