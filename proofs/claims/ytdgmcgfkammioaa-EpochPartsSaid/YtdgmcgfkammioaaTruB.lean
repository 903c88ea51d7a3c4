/- law33: the reference's Agreed. -/
import Derived.Test.YtdgmcgfkammioaaTruA
import Derived.Test.YtdgmcgfkammioaaQTail
namespace Go.Proofs.Ytdgmcgfkammioaa
open Go.RowKit

abbrev ivC (i : Iv) : Array Value := #[.int .i64 i.lo, .int .i64 i.hi]
def ivO : Option Iv → Iv
  | none => ⟨0, 0⟩
  | some i => i
/-- the least of those that many have -/
structure Best (m : Nat) (h : Iv → Nat) (v : Iv → Int) (s : List Iv) (b : Bool) (x : Int) : Prop where
  no : b = false → x = 0 ∧ ∀ y ∈ s, h y < m
  yes : b = true → (∃ y ∈ s, v y = x ∧ m ≤ h y) ∧ ∀ y ∈ s, m ≤ h y → x ≤ v y
set_option maxRecDepth 20000 in
theorem best_nil (m : Nat) (h : Iv → Nat) (v : Iv → Int) : Best m h v [] false 0 := ⟨fun _ => ⟨rfl, fun y hy => by cases hy⟩, fun h => by cases h⟩
set_option maxRecDepth 20000 in
theorem Best.skip {m : Nat} {h : Iv → Nat} {v : Iv → Int} {s : List Iv} {b : Bool} {x : Int} (k : Best m h v s b x) (y : Iv) (hy : h y < m) : Best m h v (s ++ [y]) b x := by
  refine ⟨fun e => ⟨(k.no e).1, fun z hz => ?_⟩, fun e => ⟨?_, fun z hz q => ?_⟩⟩
  · rcases List.mem_append.1 hz with hz | hz
    · exact (k.no e).2 z hz
    · rw [List.mem_singleton.1 hz]; exact hy
  · obtain ⟨w, hw, h1⟩ := (k.yes e).1
    exact ⟨w, List.mem_append_left _ hw, h1⟩
  · rcases List.mem_append.1 hz with hz | hz
    · exact (k.yes e).2 z hz q
    · rw [List.mem_singleton.1 hz] at q; omega
set_option maxRecDepth 20000 in
theorem Best.keep {m : Nat} {h : Iv → Nat} {v : Iv → Int} {s : List Iv} {x : Int} (k : Best m h v s true x) (y : Iv) (hy : x ≤ v y) : Best m h v (s ++ [y]) true x := by
  refine ⟨fun e => (by cases e), fun e => ⟨?_, fun z hz q => ?_⟩⟩
  · obtain ⟨w, hw, h1⟩ := (k.yes e).1
    exact ⟨w, List.mem_append_left _ hw, h1⟩
  · rcases List.mem_append.1 hz with hz | hz
    · exact (k.yes e).2 z hz q
    · rw [List.mem_singleton.1 hz]; exact hy
set_option maxRecDepth 20000 in
theorem Best.first {m : Nat} {h : Iv → Nat} {v : Iv → Int} {s : List Iv} {x : Int} (k : Best m h v s false x) (y : Iv) (hy : m ≤ h y) : Best m h v (s ++ [y]) true (v y) := by
  refine ⟨fun e => (by cases e), fun e => ⟨⟨y, List.mem_append_right _ List.mem_cons_self, rfl, hy⟩, fun z hz q => ?_⟩⟩
  rcases List.mem_append.1 hz with hz | hz
  · have := (k.no rfl).2 z hz; omega
  · rw [List.mem_singleton.1 hz]; exact Int.le_refl _
set_option maxRecDepth 20000 in
theorem Best.less {m : Nat} {h : Iv → Nat} {v : Iv → Int} {s : List Iv} {x : Int} (k : Best m h v s true x) (y : Iv) (hy : m ≤ h y) (hx : v y < x) : Best m h v (s ++ [y]) true (v y) := by
  refine ⟨fun e => (by cases e), fun e => ⟨⟨y, List.mem_append_right _ List.mem_cons_self, rfl, hy⟩, fun z hz q => ?_⟩⟩
  rcases List.mem_append.1 hz with hz | hz
  · have := (k.yes rfl).2 z hz q; omega
  · rw [List.mem_singleton.1 hz]; exact Int.le_refl _
abbrev LowB (l : List Iv) (m : Nat) (s : List Iv) (b : Bool) (x : Int) : Prop := Best m (fun y => had l y.lo) (fun y => y.lo) s b x
abbrev HighB (l : List Iv) (m : Nat) (s : List Iv) (b : Bool) (x : Int) : Prop := Best m (fun y => had l y.hi) (fun y => -y.hi) s b (-x)
set_option maxRecDepth 20000 in
theorem best_agr {l : List Iv} {m : Nat} (hm : 0 < m) {b c : Bool} {x y : Int} (h : LowB l m l b x) (k : HighB l m l c y) : ∃ o, IsAgr l m o ∧ ivO o = ⟨x, y⟩ ∧ o.isSome = b := by
  cases b with
  | false =>
    obtain ⟨rfl, h2⟩ := h.no rfl
    have hn : IsAgr l m none := h2
    refine ⟨none, hn, ?_, rfl⟩
    cases c with
    | false =>
      have := (k.no rfl).1
      obtain rfl : y = 0 := by omega
      rfl
    | true =>
      obtain ⟨z, hz, _, h3⟩ := (k.yes rfl).1
      have := agr_none hm hn z.hi
      omega
  | true =>
    obtain ⟨⟨z, hz, rfl, h3⟩, h4⟩ := h.yes rfl
    cases c with
    | false =>
      obtain ⟨u, hu, _, _, h5⟩ := had_high (l := l) (p := z.lo) (by omega)
      have := (k.no rfl).2 u hu
      omega
    | true =>
      obtain ⟨⟨u, hu, h5, h6⟩, h7⟩ := k.yes rfl
      obtain rfl : u.hi = y := by omega
      exact ⟨some ⟨z.lo, u.hi⟩, ⟨⟨⟨z, hz, rfl⟩, h3, h4⟩, ⟨⟨u, hu, rfl⟩, h6, fun t ht q => by have := h7 t ht q; show t.hi ≤ u.hi; omega⟩⟩, rfl, rfl⟩
set_option maxRecDepth 20000 in
theorem take_snoc (l : List Iv) (j : Nat) (hj : j < l.length) : l.take (j + 1) = l.take j ++ [l[j]] := by
  rw [List.take_add_one, List.getElem?_eq_getElem hj]
  rfl
set_option maxRecDepth 20000 in
theorem run_loadRIv (w : World) (g : Nat) (t : TypeId) (cs : Array Value) (h : Blk w g t cs) (z : cs.size = 2) : (loadVar 79 ⟨g, 0, none⟩).run Try.prog w = .ok (.agg cs) w :=
  run_loadVar_row w g t 79 cs (0, 0) _ h.out Try.underlying79 rfl (by rw [z]; kernel_rfl)
attribute [local go_sem] blk_cell' blk_frozen'
set_option maxRecDepth 20000 in
set_option maxHeartbeats 8000000 in
theorem ragreed_any (l : List Iv) (A : Option Addr) (c : Nat) (m : Nat) (W : World) (hR : IvRow W A l) (hl : l.length ≤ 65536) (hm : 0 < m) :
    Calls Try.prog 49 #[.slice A l.length c, .int .i64 m] W fun e w' => (∃ o, IsAgr l m o ∧ e = .returned (.tuple #[.agg (ivC (ivO o)), .bool o.isSome])) ∧ Mo W w' := by
  have HR := Lib.hid hR
  have HA := Lib.hid (fun p w (M : Mo W w) => had_any l A c p w (hR.mo M) hl)
  clear hR
  obtain ⟨N, hN⟩ : ∃ N, l.length = N := ⟨_, rfl⟩
  have HN := Lib.hid hN
  rw [hN] at hl HA ⊢
  clear hN
  go_enter Try.func49, Try.ntmps49
  go_wp2_with fail
  go_loopw [7, 8, 9] (fun bl bh i wr => ∃ (j : Nat) (b c : Bool) (x y : Int), j ≤ N ∧ i = .int .i64 j ∧ bl = .bool b ∧ bh = .bool c ∧ LowB l m (l.take j) b x ∧ HighB l m (l.take j) c y ∧ Blk wr W.heap.size 79 #[.int .i64 0, .int .i64 0] ∧ Blk wr (W.heap.size + 1) 79 #[.int .i64 x, .int .i64 y] ∧ Mo W wr) (fun _ _ i _ => N - (intOf i).toNat)
  case atStart => exact ⟨0, false, false, 0, 0, by omega, rfl, rfl, rfl, best_nil _ _ _, best_nil _ _ _, inferInstance, inferInstance, Mor.out⟩
  case round =>
    obtain ⟨j, b, c', x, y, hj, rfl, rfl, rfl, hL, hH, hB4, hB6, hM⟩ := hrel
    have HL := Lib.hid hL
    have HH := Lib.hid hH
    clear hL hH
    by_cases cj : j < N
    · have hjl : j < l.length := by rw [HN.out]; exact cj
      obtain ⟨g, off, rfl, hc⟩ := HR.out.resolve_left (fun e => by rw [e] at hjl; simp at hjl)
      obtain ⟨v, hv⟩ : ∃ v, l[j] = v := ⟨_, rfl⟩
      obtain ⟨lo, elo⟩ : ∃ x, v.lo = x := ⟨_, rfl⟩
      obtain ⟨hi, ehi⟩ : ∃ x, v.hi = x := ⟨_, rfl⟩
      have HC : Hid (∀ w, Mo W w → w.cell? ⟨g, off + j * 2, none⟩ = some (.int .i64 lo) ∧ w.cell? ⟨g, off + j * 2 + 1, none⟩ = some (.int .i64 hi)) := Lib.hid (fun w k => by
        obtain ⟨a, b⟩ := hc j hjl
        have : LtW g W := LtW.of_cell a
        rw [hv, elo] at a
        rw [hv, ehi] at b
        exact ⟨by rw [k.cell, a], by rw [k.cell, b]⟩)
      have HS := take_snoc l j hjl
      rw [hv] at HS
      have S1 : Hid (had l lo < m → LowB l m (l.take (j + 1)) b x) := Lib.hid (fun q => by rw [HS]; exact HL.out.skip v (by rw [elo]; exact q))
      have S2 : Hid (b = false → m ≤ had l lo → LowB l m (l.take (j + 1)) true lo) := Lib.hid (fun e q => by subst e; rw [HS, ← elo]; exact HL.out.first v (by rw [elo]; exact q))
      have S3 : Hid (b = true → m ≤ had l lo → lo < x → LowB l m (l.take (j + 1)) true lo) := Lib.hid (fun e q r => by subst e; rw [HS, ← elo]; exact HL.out.less v (by rw [elo]; exact q) (by rw [elo]; exact r))
      have S4 : Hid (b = true → ¬ lo < x → LowB l m (l.take (j + 1)) true x) := Lib.hid (fun e r => by subst e; rw [HS]; exact HL.out.keep v (by rw [elo]; omega))
      have T1 : Hid (had l hi < m → HighB l m (l.take (j + 1)) c' y) := Lib.hid (fun q => by rw [HS]; exact HH.out.skip v (by rw [ehi]; exact q))
      have T2 : Hid (c' = false → m ≤ had l hi → HighB l m (l.take (j + 1)) true hi) := Lib.hid (fun e q => by subst e; rw [HS, ← ehi]; exact HH.out.first v (by rw [ehi]; exact q))
      have T3 : Hid (c' = true → m ≤ had l hi → y < hi → HighB l m (l.take (j + 1)) true hi) := Lib.hid (fun e q r => by subst e; rw [HS, ← ehi]; exact HH.out.less v (by rw [ehi]; exact q) (by rw [ehi]; omega))
      have T4 : Hid (c' = true → ¬ y < hi → HighB l m (l.take (j + 1)) true y) := Lib.hid (fun e r => by subst e; rw [HS]; exact HH.out.keep v (by rw [ehi]; omega))
      clear HS hc hv elo ehi hjl HL HH
      have e0 : (0 : Int) ≤ j := by omega
      have e1 : (j : Int) < N := by omega
      go_upto_region 5 with (fail)
      go_cut [39] (fun s wx => ∃ q : Bool, s = .bool q ∧ (q = true → LowB l m (l.take (j + 1)) true lo) ∧ (q = false → LowB l m (l.take (j + 1)) b x) ∧ Mo wr wx)
      case first =>
        obtain ⟨y0, y1⟩ := HC.out _ hM
        have z0 : LtW g wr := LtW.of_cell y0
        obtain ⟨h0, eh0⟩ : ∃ k, had l lo = k := ⟨_, rfl⟩
        have HB := Lib.hid (fun w M => HA.out lo w M)
        have U1 := S1
        have U2 := S2
        have U3 := S3
        have U4 := S4
        rw [eh0] at HB U1 U2 U3
        clear eh0 HC S1 S2 S3 S4 T1 T2 T3 T4
        by_cases c1 : m ≤ h0
        · have d1 : decide ((m : Int) ≤ (h0 : Int)) = true := decide_eq_true (by omega)
          cases b with
          | false =>
            have SS := Lib.hid (U2.out rfl c1)
            clear U1 U2 U3 U4
            refine wp_region_mo (by kernel_rfl) (by kernel_rfl) ?_
            repeat (go_big_quiet_step (with_reducible exact quiet_mo_same (HB.out _ (hM.trans Mor.out))))
            refine wpQuiet_nil ?_
            intro _ hw'
            obtain ⟨⟨JQ, dQ⟩, hw''⟩ := hw'
            subst hw''
            go_wp2_with fail
            go_meet
            exact ⟨true, rfl, fun _ => SS.out, fun e => (by cases e), Mor.out⟩
          | true =>
            by_cases c2 : lo < x
            · have d2 : decide (lo < x) = true := decide_eq_true c2
              have SS := Lib.hid (U3.out rfl c1 c2)
              clear U1 U2 U3 U4
              refine wp_region_mo (by kernel_rfl) (by kernel_rfl) ?_
              repeat (go_big_quiet_step (with_reducible exact quiet_mo_same (HB.out _ (hM.trans Mor.out))))
              refine wpQuiet_nil ?_
              intro _ hw'
              obtain ⟨⟨JQ, dQ⟩, hw''⟩ := hw'
              subst hw''
              go_wp2_with fail
              go_meet
              exact ⟨true, rfl, fun _ => SS.out, fun e => (by cases e), Mor.out⟩
            · have d2 : decide (lo < x) = false := decide_eq_false c2
              have SS := Lib.hid (U4.out rfl c2)
              clear U1 U2 U3 U4
              refine wp_region_mo (by kernel_rfl) (by kernel_rfl) ?_
              repeat (go_big_quiet_step (with_reducible exact quiet_mo_same (HB.out _ (hM.trans Mor.out))))
              refine wpQuiet_nil ?_
              intro _ hw'
              obtain ⟨⟨JQ, dQ⟩, hw''⟩ := hw'
              subst hw''
              go_wp2_with fail
              go_meet
              exact ⟨false, rfl, fun e => (by cases e), fun _ => SS.out, Mor.out⟩
        · have d1 : decide ((m : Int) ≤ (h0 : Int)) = false := decide_eq_false (by omega)
          have SS := Lib.hid (U1.out (by omega))
          clear U1 U2 U3 U4
          refine wp_region_mo (by kernel_rfl) (by kernel_rfl) ?_
          repeat (go_big_quiet_step (with_reducible exact quiet_mo_same (HB.out _ (hM.trans Mor.out))))
          refine wpQuiet_nil ?_
          intro _ hw'
          obtain ⟨⟨JQ, dQ⟩, hw''⟩ := hw'
          subst hw''
          go_wp2_with fail
          go_meet
          exact ⟨false, rfl, fun e => (by cases e), fun _ => SS.out, Mor.out⟩
      obtain ⟨q, rfl, k1, k2, M1⟩ := hcut
      have hM1 := hM.trans M1
      have b4 := M1.blk hB4
      have b6 := M1.blk hB6
      clear hM M1 hB4 hB6
      cases q with
      | true =>
        have LL := Lib.hid (k1 rfl)
        clear k1 k2
        obtain ⟨y0, y1⟩ := HC.out _ hM1
        go_upto_region 6 with (fail)
        go_upto_region 7 with (fail)
        refine wp_name ?_
        intro w6 hw6
        have B66 : Blk w6 (W.heap.size + 1) 79 #[.int .i64 lo, .int .i64 y] := by rw [hw6]; exact blk_setCell b6 0 (.int .i64 lo)
        have B46 : Blk w6 W.heap.size 79 #[.int .i64 0, .int .i64 0] := by rw [hw6]; exact blk_setCell_ne b4 (show W.heap.size + 1 ≠ W.heap.size by omega) 0 (.int .i64 lo)
        have M6 : Mo W w6 := by rw [hw6]; exact mo_setCell hM1 (show W.heap.size ≤ W.heap.size + 1 by omega) 0 (.int .i64 lo)
        clear hw6 b4 b6 hM1 y0 y1
        have b4 := B46
        have b6 := B66
        clear B46 B66
        go_upto_region 8 with (fail)
        go_cut [68] (fun s wx => ∃ q : Bool, s = .bool q ∧ (q = true → HighB l m (l.take (j + 1)) true hi) ∧ (q = false → HighB l m (l.take (j + 1)) c' y) ∧ Mo w6 wx)
        case first =>
          obtain ⟨y0, y1⟩ := HC.out _ M6
          have z0 : LtW g w6 := LtW.of_cell y1
          obtain ⟨h0, eh0⟩ : ∃ k, had l hi = k := ⟨_, rfl⟩
          have HB := Lib.hid (fun w M => HA.out hi w M)
          have U1 := T1
          have U2 := T2
          have U3 := T3
          have U4 := T4
          rw [eh0] at HB U1 U2 U3
          clear eh0 HC S1 S2 S3 S4 T1 T2 T3 T4
          by_cases c1 : m ≤ h0
          · have d1 : decide ((m : Int) ≤ (h0 : Int)) = true := decide_eq_true (by omega)
            cases c' with
            | false =>
              have SS := Lib.hid (U2.out rfl c1)
              clear U1 U2 U3 U4
              refine wp_region_mo (by kernel_rfl) (by kernel_rfl) ?_
              repeat (go_big_quiet_step (with_reducible exact quiet_mo_same (HB.out _ (M6.trans Mor.out))))
              refine wpQuiet_nil ?_
              intro _ hw'
              obtain ⟨⟨JQ, dQ⟩, hw''⟩ := hw'
              subst hw''
              go_wp2_with fail
              go_meet
              exact ⟨true, rfl, fun _ => SS.out, fun e => (by cases e), Mor.out⟩
            | true =>
              by_cases c2 : y < hi
              · have d2 : decide (y < hi) = true := decide_eq_true c2
                have SS := Lib.hid (U3.out rfl c1 c2)
                clear U1 U2 U3 U4
                refine wp_region_mo (by kernel_rfl) (by kernel_rfl) ?_
                repeat (go_big_quiet_step (with_reducible exact quiet_mo_same (HB.out _ (M6.trans Mor.out))))
                refine wpQuiet_nil ?_
                intro _ hw'
                obtain ⟨⟨JQ, dQ⟩, hw''⟩ := hw'
                subst hw''
                go_wp2_with fail
                go_meet
                exact ⟨true, rfl, fun _ => SS.out, fun e => (by cases e), Mor.out⟩
              · have d2 : decide (y < hi) = false := decide_eq_false c2
                have SS := Lib.hid (U4.out rfl c2)
                clear U1 U2 U3 U4
                refine wp_region_mo (by kernel_rfl) (by kernel_rfl) ?_
                repeat (go_big_quiet_step (with_reducible exact quiet_mo_same (HB.out _ (M6.trans Mor.out))))
                refine wpQuiet_nil ?_
                intro _ hw'
                obtain ⟨⟨JQ, dQ⟩, hw''⟩ := hw'
                subst hw''
                go_wp2_with fail
                go_meet
                exact ⟨false, rfl, fun e => (by cases e), fun _ => SS.out, Mor.out⟩
          · have d1 : decide ((m : Int) ≤ (h0 : Int)) = false := decide_eq_false (by omega)
            have SS := Lib.hid (U1.out (by omega))
            clear U1 U2 U3 U4
            refine wp_region_mo (by kernel_rfl) (by kernel_rfl) ?_
            repeat (go_big_quiet_step (with_reducible exact quiet_mo_same (HB.out _ (M6.trans Mor.out))))
            refine wpQuiet_nil ?_
            intro _ hw'
            obtain ⟨⟨JQ, dQ⟩, hw''⟩ := hw'
            subst hw''
            go_wp2_with fail
            go_meet
            exact ⟨false, rfl, fun e => (by cases e), fun _ => SS.out, Mor.out⟩
        obtain ⟨q, rfl, k1, k2, M2⟩ := hcut
        have M3 := M6.trans M2
        have B4 := M2.blk b4
        have B6 := M2.blk b6
        cases q with
        | true =>
          have KK := Lib.hid (k1 rfl)
          clear k1 k2
          obtain ⟨-, y1⟩ := HC.out _ M3
          go_upto_region 9 with (fail)
          go_upto_region 10 with (fail)
          refine wp_name ?_
          intro w9 hw9
          have B69 := blk_setCell B6 1 (.int .i64 hi)
          have B49 := blk_setCell_ne B4 (show W.heap.size + 1 ≠ W.heap.size by omega) 1 (.int .i64 hi)
          have M9 := mo_setCell M3 (show W.heap.size ≤ W.heap.size + 1 by omega) 1 (.int .i64 hi)
          rw [← hw9] at B69 B49 M9
          clear hw9
          go_wp2_with fail
          go_roundw
          case rel => exact ⟨j + 1, true, true, lo, hi, by omega, by go_num, rfl, rfl, LL.out, KK.out, B49, B69, M9⟩
          case measure => simp [intOf]; omega
        | false =>
          have KK := Lib.hid (k2 rfl)
          clear k1 k2
          go_wp2_with fail
          go_roundw
          case rel => exact ⟨j + 1, true, c', lo, y, by omega, by go_num, rfl, rfl, LL.out, KK.out, B4, B6, M3⟩
          case measure => simp [intOf]; omega
      | false =>
        have LL := Lib.hid (k2 rfl)
        clear k1 k2
        go_upto_region 8 with (fail)
        go_cut [68] (fun s wx => ∃ q : Bool, s = .bool q ∧ (q = true → HighB l m (l.take (j + 1)) true hi) ∧ (q = false → HighB l m (l.take (j + 1)) c' y) ∧ Mo wc wx)
        case first =>
          obtain ⟨y0, y1⟩ := HC.out _ hM1
          have z0 : LtW g wc := LtW.of_cell y1
          obtain ⟨h0, eh0⟩ : ∃ k, had l hi = k := ⟨_, rfl⟩
          have HB := Lib.hid (fun w M => HA.out hi w M)
          have U1 := T1
          have U2 := T2
          have U3 := T3
          have U4 := T4
          rw [eh0] at HB U1 U2 U3
          clear eh0 HC S1 S2 S3 S4 T1 T2 T3 T4
          by_cases c1 : m ≤ h0
          · have d1 : decide ((m : Int) ≤ (h0 : Int)) = true := decide_eq_true (by omega)
            cases c' with
            | false =>
              have SS := Lib.hid (U2.out rfl c1)
              clear U1 U2 U3 U4
              refine wp_region_mo (by kernel_rfl) (by kernel_rfl) ?_
              repeat (go_big_quiet_step (with_reducible exact quiet_mo_same (HB.out _ (hM1.trans Mor.out))))
              refine wpQuiet_nil ?_
              intro _ hw'
              obtain ⟨⟨JQ, dQ⟩, hw''⟩ := hw'
              subst hw''
              go_wp2_with fail
              go_meet
              exact ⟨true, rfl, fun _ => SS.out, fun e => (by cases e), Mor.out⟩
            | true =>
              by_cases c2 : y < hi
              · have d2 : decide (y < hi) = true := decide_eq_true c2
                have SS := Lib.hid (U3.out rfl c1 c2)
                clear U1 U2 U3 U4
                refine wp_region_mo (by kernel_rfl) (by kernel_rfl) ?_
                repeat (go_big_quiet_step (with_reducible exact quiet_mo_same (HB.out _ (hM1.trans Mor.out))))
                refine wpQuiet_nil ?_
                intro _ hw'
                obtain ⟨⟨JQ, dQ⟩, hw''⟩ := hw'
                subst hw''
                go_wp2_with fail
                go_meet
                exact ⟨true, rfl, fun _ => SS.out, fun e => (by cases e), Mor.out⟩
              · have d2 : decide (y < hi) = false := decide_eq_false c2
                have SS := Lib.hid (U4.out rfl c2)
                clear U1 U2 U3 U4
                refine wp_region_mo (by kernel_rfl) (by kernel_rfl) ?_
                repeat (go_big_quiet_step (with_reducible exact quiet_mo_same (HB.out _ (hM1.trans Mor.out))))
                refine wpQuiet_nil ?_
                intro _ hw'
                obtain ⟨⟨JQ, dQ⟩, hw''⟩ := hw'
                subst hw''
                go_wp2_with fail
                go_meet
                exact ⟨false, rfl, fun e => (by cases e), fun _ => SS.out, Mor.out⟩
          · have d1 : decide ((m : Int) ≤ (h0 : Int)) = false := decide_eq_false (by omega)
            have SS := Lib.hid (U1.out (by omega))
            clear U1 U2 U3 U4
            refine wp_region_mo (by kernel_rfl) (by kernel_rfl) ?_
            repeat (go_big_quiet_step (with_reducible exact quiet_mo_same (HB.out _ (hM1.trans Mor.out))))
            refine wpQuiet_nil ?_
            intro _ hw'
            obtain ⟨⟨JQ, dQ⟩, hw''⟩ := hw'
            subst hw''
            go_wp2_with fail
            go_meet
            exact ⟨false, rfl, fun e => (by cases e), fun _ => SS.out, Mor.out⟩
        obtain ⟨q, rfl, k1, k2, M2⟩ := hcut
        have M3 := hM1.trans M2
        have B4 := M2.blk b4
        have B6 := M2.blk b6
        cases q with
        | true =>
          have KK := Lib.hid (k1 rfl)
          clear k1 k2
          obtain ⟨-, y1⟩ := HC.out _ M3
          go_upto_region 9 with (fail)
          go_upto_region 10 with (fail)
          refine wp_name ?_
          intro w9 hw9
          have B69 := blk_setCell B6 1 (.int .i64 hi)
          have B49 := blk_setCell_ne B4 (show W.heap.size + 1 ≠ W.heap.size by omega) 1 (.int .i64 hi)
          have M9 := mo_setCell M3 (show W.heap.size ≤ W.heap.size + 1 by omega) 1 (.int .i64 hi)
          rw [← hw9] at B69 B49 M9
          clear hw9
          go_wp2_with fail
          go_roundw
          case rel => exact ⟨j + 1, b, true, x, hi, by omega, by go_num, rfl, rfl, LL.out, KK.out, B49, B69, M9⟩
          case measure => simp [intOf]; omega
        | false =>
          have KK := Lib.hid (k2 rfl)
          clear k1 k2
          go_wp2_with fail
          go_roundw
          case rel => exact ⟨j + 1, b, c', x, y, by omega, by go_num, rfl, rfl, LL.out, KK.out, B4, B6, M3⟩
          case measure => simp [intOf]; omega
    · obtain rfl : j = N := by omega
      have e : l.take j = l := List.take_of_length_le (by rw [HN.out]; exact Nat.le_refl _)
      rw [e] at HL HH
      obtain ⟨o, ho, e1, e2⟩ := best_agr hm HL.out HH.out
      have HO := Lib.hid ho
      clear ho
      go_wp2_with fail
      refine ret_cell_tmp Try.results49 W.heap.size (.agg #[.int .i64 x, .int .i64 y]) rfl rfl (run_loadRIv _ _ _ _ (blk_setCell (blk_setCell hB4 0 _) 1 _) rfl) ?_
      exact ⟨⟨o, HO.out, by rw [e1, e2]; rfl⟩, mo_setCell (mo_setCell hM (Nat.le_refl _) 0 _) (Nat.le_refl _) 1 _⟩
end Go.Proofs.Ytdgmcgfkammioaa
