/- horologelaw29.stands: true where the tables hold the same entries. -/
import Derived.Test.YtlbkcjpnlnlmiaaPendV
import Derived.Test.YtlbkcjpnlnlmiaaPendU
import Derived.Test.YtlbkcjpnlnlmiaaRoundQ
namespace Go.Proofs.Ytlbkcjpnlnlmiaa
open Go.RowKit Go.Maps Go.Shelf

set_option maxRecDepth 20000 in
theorem ks_entry : ksOf 45 = ksOf 38 ++ ksOf 40 ++ [.b] := by kernel_rfl
set_option maxRecDepth 20000 in
theorem fits_entry {e : En} (h : EnOk e) : Fits (ksOf 45) (enC e.k e.a e.d).toList := by
  have e1 : (enC e.k e.a e.d).toList = e.k.toList ++ e.a.toList ++ [.bool e.d] := by unfold enC; simp
  rw [ks_entry, e1]
  exact fits_append (fits_append h.k h.a) ⟨trivial, trivial⟩
set_option maxRecDepth 20000 in
theorem neqF_entry9 (x y : Value) : binOp .neq 45 x y = neqF 45 x y := rfl
set_option maxRecDepth 20000 in
theorem entry_neq {e : En} (h : EnOk e) (w : World) : (neqF 45 (.agg (enC e.k e.a e.d)) (.agg (enC e.k e.a e.d))).run Try.prog w = .ok (.bool false) w := by
  have := run_neq_flat fl_entry w (fits_entry h) (fits_entry h)
  rw [eqA_self] at this
  exact this
set_option maxRecDepth 20000 in
theorem row_sl' {w : World} {b n s : Nat} {T : TypeId} {v : Value} {xs : List Value} (h : w.ownsRow b T s v n xs) : ∃ A c, v = .slice A n c := by
  rcases h.2 with ⟨rfl, rfl⟩ | ⟨g, cap, cur, rfl, _⟩
  · exact ⟨_, _, rfl⟩
  · exact ⟨_, _, rfl⟩
set_option maxRecDepth 20000 in
theorem mo_set_keeps {Wr w8 : World} (M : Mo Wr w8) {n nc : Nat} (h : nc < n) (i : Nat) (v : Value) : KeepsFrom n Wr (w8.setCell ⟨nc, i, none⟩ v) ∧ KpC n Wr (w8.setCell ⟨nc, i, none⟩ v) := by
  have sz : Wr.heap.size ≤ (w8.setCell ⟨nc, i, none⟩ v).heap.size := by
    have := M.size
    simpa [World.setCell] using this
  have key : ∀ k o, n ≤ k → Wr.heap[k]? = some o → (w8.setCell ⟨nc, i, none⟩ v).heap[k]? = some o := fun k o hk ho => by
    rw [heap_setCell_other w8 ⟨nc, i, none⟩ k v (by show k ≠ nc; omega)]
    exact (M.below.block k (Array.getElem?_eq_some_iff.1 ho).1).trans ho
  exact ⟨⟨sz, fun k o hk ho _ => key k o hk ho⟩, ⟨sz, fun k hk cs z ho => key k _ hk ho⟩⟩
structure StandI (V : World) (nc : Nat) (pre : List En) (W : World) : Prop where
  n : Blk W nc 3 #[.int .i64 pre.length]
  bel : Below V.heap.size V W
set_option maxRecDepth 20000 in
theorem standI_own {V : World} {nc n : Nat} (hn : V.heap.size ≤ n) : OwnFrom n (StandI V nc) := fun _ _ _ _ hs hg hr =>
  ⟨blk_grown' hs.n hg hr, hs.bel.grown hg hs.bel.size (fun k e => Nat.le_trans hn (hr k e).1)⟩
set_option maxRecDepth 20000 in
theorem stands_ret {R : Ending → World → Prop} {a : Act} {w : World} (b4 D : Nat) (v : Value)
    (h4 : a.tmps.getD 4 undef = .pointer (some ⟨b4, 0, none⟩)) (hd : a.defers = [{ target := Target.collected D, args := #[] }])
    (x4 : Boxed w b4 4 v) (hK : w.heap[D]? = some (.deferred (some [])))
    (hR : R (.returned v) (w.putObj D (.deferred none))) : bodyPostM Fence.wide 6 Try.prog Try.f20 R .ret a w := by
  have y4 := (x4.kept (grownBy_putObj' w D (.deferred none)) (fun e => by
    obtain rfl : b4 = D := by simpa using e
    rw [show w.heap[b4]? = _ from x4] at hK; cases hK)).cell
  obtain ⟨tm, df⟩ := a
  simp only at h4 hd
  subst hd
  refine ⟨by simp, .inl ⟨_, _, rfl, run_takeDeferred hK, ?_⟩⟩
  refine ⟨v, ?_, hR⟩
  have k4 : tm[4]?.getD undef = .pointer (some ⟨b4, 0, none⟩) := by simpa using h4
  simp [results, Try.results20, go_sem, k4, y4]
attribute [local go_sem] blk_cell' blk_frozen' nd_old nd_new nd_ans nd_key nd_en en_key' en_at' en_ans
attribute [local go_sem ↓] loadF_key loadF_entry storeF_entry loadF_rentry neqF_entry9
attribute [local go_sem] run_loadFo run_loadFz run_loadF0 run_storeF0
attribute [local go_sem] Oper.semAt_some
set_option maxRecDepth 20000 in
set_option maxHeartbeats 8000000 in
theorem stands_any (T B R b : Nat) (room room' : Int) (E : List En) (v : Value) (P : Nat → Prop) (W : World) (hT : TabE W T B room E P) (hR : RefAt W R b room' E v) (hL : E.length ≤ 65536) :
    Calls Try.prog 20 #[ptr T, ptr R] W fun e w' => e = .returned (.bool true) ∧ Mo W w' := by
  have HT := Lib.hid hT
  have HR := Lib.hid hR
  have hr := hR.t
  clear hT hR
  refine (callsIn_wide (n := 6)).1 ?_
  refine callsIn_of_wp_marks Try.func20 rfl trivial ?_ rfl
  simp only [Try.ntmps20, List.size_toArray, List.length_cons, List.length_nil, Nat.reduceAdd, Nat.reduceSub, Array.replicate_succ, Array.replicate_zero, List.push_toArray, List.append_toArray, List.nil_append, List.cons_append]
  refine wpIn_wide.2 ?_
  go_upto_region 1 with (fail)
  refine wp_name ?_
  intro V hV
  have b2 : Blk V W.heap.size 24 #[ptr T] := by rw [hV]; infer_instance
  have b3 : Blk V (W.heap.size + 1) 59 #[ptr R] := by rw [hV]; infer_instance
  have b4 : Blk V (W.heap.size + 2) 4 #[.bool false] := by rw [hV]; infer_instance
  have MV : Mo W V := by rw [hV]; exact Mor.out
  have hr2 := MV.blk hr
  have HB4 : Hid (W.heap.size + 2 < V.heap.size) := Lib.hid b4.lt
  clear hV hr
  go_wp2_with fail
  refine (all_any _ _).mono ?_
  rintro e w3 ⟨rfl, rfl⟩
  go_wp2_with fail
  obtain ⟨L, hT, rfl, hP⟩ := HT.out
  obtain ⟨w, hw⟩ : ∃ w, (V.alloc (.cells #[.int .i64 0] 3)).alloc (.cells #[.pointer (some ⟨T, 0, none⟩)] 24) = w := ⟨_, rfl⟩
  have x0 : Blk w V.heap.size 3 #[.int .i64 0] := by rw [← hw]; infer_instance
  have x1 : Boxed w (V.heap.size + 1) 24 (ptr T) := by rw [← hw]; exact (inferInstance : Blk _ _ _ _).out
  have hMw : Mo V w := by rw [← hw]; exact Mor.out
  rw [hw]
  have hsz : V.heap.size ≤ w.heap.size := hMw.size
  have hVw : V.heap.size < w.heap.size := x0.lt
  clear hw
  rw [List.length_map] at hL
  refine (wpIn_wide (n := 6)).1 ?_
  refine wpIn_range_px (F := Fence.wide) (n := 6) (w0 := w) rfl (by omega) (gf := 24) (lb := #[.pointer (some ⟨V.heap.size + 1, 0, none⟩)]) rfl trivial (enters_of Try.func24 (by kernel_rfl) rfl)
    (all_seq 5 _ T B room L w (hT.mo (MV.trans hMw)) hL x1) KpC.trans (KpC.put (w := w)) (Below.refl _ _) (fun _ => rfl)
    (StandI V V.heap.size) (fun _ _ _ => False)
    (standI_own hsz) (fun _ _ _ _ _ h _ _ => h.elim)
    ⟨x0, hMw.below⟩
    (fun pre x a' W' => ∃ Bx, Blk W' Bx 45 (enC x.k x.a x.d) ∧ (∃ r, pre ++ x :: r = L.map (·.2)) ∧ a' = (⟨#[ptr T, ptr R, ptr W.heap.size, ptr (W.heap.size + 1), ptr (W.heap.size + 1 + 1), ptr V.heap.size, ptr Bx, undef, undef, ptr T, .func (.func 24) #[] #[.pointer (some ⟨V.heap.size + 1, 0, none⟩)], .agg (enC x.k x.a x.d), undef, undef, undef, undef, undef, undef, undef, undef, undef, undef, undef, undef, undef, undef, undef, undef, undef, undef, undef, undef, undef, undef, undef, undef, undef, undef, undef, undef, undef, undef, undef, undef, undef, undef, undef, undef, undef, undef, undef, undef, undef, undef, undef, undef, undef, undef, undef, undef], []⟩ : Act))
    (fun pre x a' _ _ W' row h hg hr => by
      obtain ⟨Bx, h1, h2, h3⟩ := h
      exact ⟨Bx, blk_grown' h1 hg hr, h2, h3⟩)
    ?assign ?body ?done ?stop
  case stop => intro _ _ _ _ _ _ h; exact h.elim
  case assign =>
    rintro l pre ⟨xk, xa, xd⟩ Wr K hI hP hK
    have eok : EnOk ⟨xk, xa, xd⟩ := by
      obtain ⟨r, hr⟩ := hP
      have hm : (⟨xk, xa, xd⟩ : En) ∈ L.map (·.2) := by rw [← hr]; simp
      obtain ⟨q, hq, e⟩ := List.mem_map.1 hm
      rw [← e]
      exact hT.ok q hq
    have z1 := key_sz eok.k
    have z2 := at_sz eok.a
    have y1 := one_of_fits eok.k
    have y2 := one_of_fits eok.a
    have HP := Lib.hid hP
    simp only at z1 z2 y1 y2
    clear hP eok
    dsimp only [encE]
    gi_wp2
    exact hK _ _ ((KeepsOthers.alloc _ _).from _) ⟨by simp, fun k _ cs z h => (Below.heap_alloc _ _ _ (Array.getElem?_eq_some_iff.1 h).1).trans h⟩ ⟨by have := hI.n; infer_instance, hI.bel.alloc hI.bel.size _⟩ ⟨Wr.heap.size, inferInstance, HP.out, rfl⟩
  case body =>
    rintro l pre x a' Wr hl ⟨r, hr⟩ ⟨cn, bel⟩ ⟨Bx, hbx, ⟨r2, hmore⟩, rfl⟩ hlt
    have hlr : l < Wr.heap.size := (Array.getElem?_eq_some_iff.1 hr).1
    clear hr
    have hM : Mo V Wr := Mo.of bel
    have eok : EnOk x := by
      have hm : x ∈ L.map (·.2) := by rw [← hmore]; simp
      obtain ⟨q, hq, e⟩ := List.mem_map.1 hm
      rw [← e]
      exact hT.ok q hq
    obtain ⟨q, hq⟩ : ∃ q, pre.length = q := ⟨_, rfl⟩
    have hqL : q < (L.map (·.2)).length := by rw [← hq]; exact hlt
    have hEq : (L.map (·.2))[q] = x := by
      have : (L.map (·.2))[q]? = some x := by rw [← hmore, ← hq]; simp
      rw [List.getElem?_eq_getElem hqL] at this
      exact Option.some.inj this
    obtain ⟨g, c2, e2, -, hcell⟩ := own_cells' (HR.out.mo (MV.trans hM)).row HR.out.ok (by omega)
    have hc := hcell q hqL
    rw [hEq] at hc
    have FD := Lib.hid (fun w (M : Mo V w) => find_e T B room (L.map (·.2)) P x.k w (HT.out.mo (MV.trans M)) eok.k)
    have nd := HT.out.keys
    have hmem : x ∈ L.map (·.2) := by rw [← hmore]; simp
    rw [hasE_find, findE_some nd hmem] at FD
    obtain ⟨N, hN⟩ : ∃ N, (L.map (·.2)).length = N := ⟨_, rfl⟩
    rw [hN] at e2 hqL hlt
    have hNl : N ≤ 65536 := by rw [← hN, List.length_map]; exact hL
    have SM := Lib.hid (fun w => same29_any x eok w)
    have ld : ∀ J d, (loadF 67 (.pointer (some ⟨g, q * 40, none⟩))).run Try.prog (more Wr J d) = .ok (.agg (enC x.k x.a x.d)) (more Wr J d) := fun J d => run_loadC 67 40 _ g (q * 40) _ (by rw [← Array.length_toList]; exact en_len eok) (fun j v hj => by
      have := hc j v hj
      have : LtW g Wr := LtW.of_cell this
      rw [(Mor.out : Mo Wr (more Wr J d)).cell]
      assumption)
    have nq := fun w => entry_neq eok w
    have LG : LtW g Wr := ⟨by
      have h0 := hc 39 (.bool x.d) (by
        have z1 := key_sz eok.k
        have z2 := at_sz eok.a
        rw [Array.getElem?_toList]; exact en_ans _ _ _)
      exact (LtW.of_cell h0).out⟩
    subst e2
    have hrr : Blk Wr R 62 #[.int .i64 room', .slice (some ⟨g, 0, none⟩) N c2] := hM.blk hr2
    have c2' := hM.blk b2
    have c3' := hM.blk b3
    have HMm := Lib.hid hmore
    have HQ := Lib.hid hq
    have HBL := Lib.hid bel
    rw [hq] at cn
    have d1 : decide (N ≤ q) = false := decide_eq_false (by omega)
    have i0 : (0 : Int) ≤ q := by omega
    have i1 : (q : Int) < N := by omega
    have j1 : IntKind.i64.wrap ((q : Int) + 1) = q + 1 := by rw [IntKind.wrap_i64]; omega
    have z1 := key_sz eok.k
    have z2 := at_sz eok.a
    have y1 := one_of_fits eok.k
    have y2 := one_of_fits eok.a
    obtain ⟨xk, xa, xd⟩ := x
    simp only at z1 z2 y1 y2 hbx ld nq
    clear hcell hc nd hmem hN hEq hlt bel hmore hq b2 b3 hr2 eok
    gi_wp2
    refine wpIn_region_mo (by kernel_rfl) (by kernel_rfl) (by kernel_rfl) (fun ⟨_, _, h⟩ => h) ?_
    repeat (go_big_quiet_step (first | (with_reducible exact quiet_mo (SM.out _))))
    refine wpQuiet_nil ?_
    intro _ hw'
    obtain ⟨⟨J9, d9⟩, hw''⟩ := hw'
    subst hw''
    gi_wp2
    refine ⟨trivial, CallsIn.inRound l ((callsIn_wide.2 (FD.out _ (hM.trans Mor.out))).mono ?_)⟩
    rintro e w8 ⟨rfl, M8⟩
    have MW8 : Mo Wr w8 := (Mor.out : Mo Wr (more Wr J9 d9)).trans M8
    have cn8 := MW8.blk cn
    have cx8 := MW8.blk hbx
    clear M8 cn hbx c2' c3' hrr LG ld FD SM
    dsimp only [outV, Option.isSome]
    gi_wp2
    obtain ⟨q1, q2⟩ := mo_set_keeps MW8 hVw 0 (.int .i64 ((q : Int) + 1))
    have cn9 := blk_setCell cn8 0 (.int .i64 ((q : Int) + 1))
    refine ⟨q1.trans ((KeepsOthers.alloc _ _).from _), q2.trans ⟨by simp, fun k _ cs z h => (Below.heap_alloc _ _ _ (Array.getElem?_eq_some_iff.1 h).1).trans h⟩, ⟨?_, ?_⟩⟩
    · have e1 : (((pre ++ [(⟨xk, xa, xd⟩ : En)]).length : Nat) : Int) = (q : Int) + 1 := by rw [List.length_append, HQ.out]; simp
      rw [e1]
      exact (Mor.out : Mo (w8.setCell ⟨V.heap.size, 0, none⟩ (.int .i64 ((q : Int) + 1))) _).blk cn9
    · exact ((mo_setCell (hM.trans MW8) (Nat.le_refl _) 0 (.int .i64 ((q : Int) + 1))).trans Mor.out).below
  case done =>
    rintro D xs Wr hD rfl ⟨cn, bel⟩ hK
    have hM : Mo V Wr := Mo.of bel
    obtain ⟨N, hN⟩ : ∃ N, (L.map (·.2)).length = N := ⟨_, rfl⟩
    obtain ⟨A, c, rfl⟩ : ∃ A c, v = .slice A N c := by rw [← hN]; exact row_sl' HR.out.row
    have LN := Lib.hid (fun w (M : Mo V w) => len_e T B room (L.map (·.2)) P w (HT.out.mo (MV.trans M)))
    rw [hN] at cn LN
    have hrr := hM.blk hr2
    have c2' := hM.blk b2
    have c3' := hM.blk b3
    have c4' := hM.blk b4
    have hDl : D < Wr.heap.size := (Array.getElem?_eq_some_iff.1 hK).1
    have HK := Lib.hid hK
    have dN : (N == N) = true := by simp
    clear b2 b3 b4 hr2 bel hN hK
    go_wp2_with fail
    refine wp_region_mo_tail 13 (by kernel_rfl) (by kernel_rfl) ?_
    simp only [List.take_succ_cons, List.take_zero, List.drop_succ_cons, List.drop_zero]
    repeat (go_big_quiet_step (first | (with_reducible exact quiet_mo (LN.out _ (hM.trans Mor.out)))))
    refine wpQuiet_nil ?_
    intro _ hw'
    obtain ⟨⟨J9, d9⟩, hw''⟩ := hw'
    subst hw''
    go_wp2_with fail
    have M9 : Mo Wr (more Wr J9 d9) := Mor.out
    have hne : W.heap.size + 1 + 1 ≠ D := by have := c4'.lt; have h2 := (M9.blk c4').lt; have := MV.size; have := hsz; have h3 : W.heap.size + 2 < V.heap.size := HB4.out; omega
    have M8 : Mo (Wr.setCell ⟨W.heap.size + 1 + 1, 0, none⟩ (.bool true)) (more (Wr.setCell ⟨W.heap.size + 1 + 1, 0, none⟩ (.bool true)) J9 d9) := Mor.out
    have hK9 : (more (Wr.setCell ⟨W.heap.size + 1 + 1, 0, none⟩ (.bool true)) J9 d9).heap[D]? = some (.deferred (some [])) := (M8.below.block D (by simpa [World.setCell] using hDl)).trans ((heap_setCell_other Wr ⟨W.heap.size + 1 + 1, 0, none⟩ D _ (Ne.symm hne)).trans HK.out)
    exact stands_ret (W.heap.size + 1 + 1) D (.bool true) rfl rfl (boxed_of (M8.blk (blk_setCell c4' 0 (.bool true)))) hK9 ⟨rfl, Mo.of_below ((mo_setCell (g := W.heap.size + 1 + 1) (MV.trans hM) (by omega) 0 (.bool true)).trans M8) (belowK_b (w := w) (Nat.le_trans MV.size hsz) _ D _ _ hD hK9 rfl rfl)⟩
end Go.Proofs.Ytlbkcjpnlnlmiaa
