/- horologelaw33.TruthFinds: the walk. -/
import Derived.Test.YtdppkbnjedehbaaOf33
namespace Go.Proofs.Ytdppkbnjedehbaa
open Go.RowKit

def eqR (x y : Value) : Sem Value := binOp .eql 37 x y
def neR (x y : Value) : Sem Value := binOp .neq 37 x y
def eqT (x y : Value) : Sem Value := binOp .eql 27 x y
set_option maxRecDepth 20000 in
theorem eqR_fold (x y : Value) : binOp .eql 37 x y = eqR x y := rfl
set_option maxRecDepth 20000 in
theorem neR_fold (x y : Value) : binOp .neq 37 x y = neR x y := rfl
set_option maxRecDepth 20000 in
theorem eqT_fold (x y : Value) : binOp .eql 27 x y = eqT x y := rfl
set_option maxRecDepth 20000 in
theorem eqR_same {a b : Int} (ha : Is64 a) (hb : Is64 b) (w : World) : (eqR (.agg #[.int .i64 a, .int .i64 b]) (.agg #[.int .i64 a, .int .i64 b])).run Try.prog w = .ok (.bool true) w := eql_riv ha hb w
set_option maxRecDepth 20000 in
theorem neR_same {a b : Int} (ha : Is64 a) (hb : Is64 b) (w : World) : (neR (.agg #[.int .i64 a, .int .i64 b]) (.agg #[.int .i64 a, .int .i64 b])).run Try.prog w = .ok (.bool false) w := neq_riv ha hb w
set_option maxRecDepth 20000 in
theorem eqT_same {a b : Int} (ha : Is64 a) (hb : Is64 b) (w : World) : (eqT (.agg #[.int .i64 a, .int .i64 b]) (.agg #[.int .i64 a, .int .i64 b])).run Try.prog w = .ok (.bool true) w := eql_iv ha hb w
set_option maxRecDepth 20000 in
theorem agr_64 {l : List Iv} {m : Nat} {i : Iv} (hb : ∀ x ∈ l, Is64 x.lo ∧ Is64 x.hi) (h : IsAgr l m (some i)) : Is64 i.lo ∧ Is64 i.hi := by
  obtain ⟨⟨⟨x, hx, ex⟩, _⟩, ⟨⟨y, hy, ey⟩, _⟩⟩ := h
  rw [← ex, ← ey]
  exact ⟨(hb x hx).1, (hb y hy).2⟩
attribute [local go_sem ↓] eqR_fold neR_fold eqT_fold
attribute [local go_sem] blk_cell' blk_frozen'
set_option maxRecDepth 20000 in
set_option maxHeartbeats 16000000 in
theorem finds33_any (l : List Iv) (A : Option Addr) (c : Nat) (f : Int) (W : World) (hS : IvS W A c l) (hf : Is64 f) : Calls Try.prog 3 #[.slice A l.length c, .int .i64 f] W fun e w' => e = .returned (.bool true) ∧ Mo W w' := by
  have HW := Lib.hid (fun w => works_any w)
  by_cases c0 : 60 < l.length
  · have d0 : decide ((60 : Int) < (l.length : Int)) = true := decide_eq_true (by omega)
    go_enter Try.func3, Try.ntmps3
    go_wp2_with fail
    refine (HW.out _).mono ?_
    rintro e w1 ⟨rfl, M1⟩
    go_wp2_with fail
    go_ret
    exact ⟨rfl, (Mor.out : Mo W _).trans M1⟩
  · have d0 : decide ((60 : Int) < (l.length : Int)) = false := decide_eq_false (by omega)
    have hl : l.length ≤ 60 := by omega
    have OF := Lib.hid (of_any l A c W hS.row hS.lim)
    have FI := Lib.hid (fun w (M : Mo W w) => find_any l A c w (hS.row.mo M) (by omega) hS.inIv)
    have AG := Lib.hid (fun w (M : Mo W w) => agreed_any l A c f w (hS.row.mo M) (by omega) hS.inIv)
    have RM := Lib.hid (fun v c w (h : IvRow w v l) => rmay_any l v c w h (by omega))
    have RF := Lib.hid (fun v c w (h : IvRow w v l) => rfind_any l v c w h (by omega))
    have RA := Lib.hid (fun v c m w (h : IvRow w v l) hm => ragreed_any l v c m w h (by omega) hm)
    have OK := Lib.hid hS.ok
    clear hS c0
    obtain ⟨N, hN⟩ : ∃ N, l.length = N := ⟨_, rfl⟩
    have HN := Lib.hid hN
    rw [hN] at hl d0 OF FI AG RM RF RA ⊢
    clear hN
    go_enter Try.func3, Try.ntmps3
    go_wp2_with fail
    refine OF.out.mono ?_
    rintro e w1 ⟨v1, rfl, O1, M1⟩
    obtain ⟨A1, c1, rfl, R1⟩ := own_ivs O1 HN.out
    have R1' := Lib.hid R1
    clear O1 R1 OF
    go_wp2_with fail
    refine (FI.out _ M1).mono ?_
    intro e w2 h2
    have M2 := h2.1
    have H2 := Lib.hid h2.2
    have N2 := M1.trans M2
    clear h2 FI
    by_cases my : MayL l
    · have H2' : (∃ i f v, IsFind l (some (i, f)) ∧ e = .returned (.tuple #[.agg (fdC i.lo i.hi (f : Nat) v), .int .i64 0]) ∧ w2.ownsRow w1.heap.size 3 1 v (trueL l i).length (natL (trueL l i))) ∨ (IsFind l none ∧ e = .returned (.tuple #[.agg (fdC 0 0 0 (.slice none 0 0)), .int .i64 4])) := by
        rcases H2.out with h | h | h
        · have := HN.out; omega
        · exact absurd my h.2.1
        · exact h.2.2
      rcases H2' with h | h
      · obtain ⟨i, f0, v, hi, rfl, own⟩ := h
        rw [natL_eq] at own
        obtain ⟨A2, c2, rfl, R2⟩ := own_ints own (natI_length _)
        have R2' := Lib.hid R2
        have HI := Lib.hid hi
        have b64 := agr_64 OK.out hi.2.1
        have tl : (trueL l i).length ≤ N := by rw [← HN.out]; exact trueT_len l i l.length
        obtain ⟨il, ih⟩ := i
        simp only at b64
        obtain ⟨n2, hn2⟩ : ∃ n, (trueL l ⟨il, ih⟩).length = n := ⟨_, rfl⟩
        have HN2 := Lib.hid hn2
        rw [hn2] at tl ⊢
        clear own hi R2 H2 hn2
        go_wp2_with fail
        refine (AG.out _ (N2.trans Mor.out)).mono ?_
        intro e w3 h3
        have M3 := h3.1
        obtain ⟨yl, yh, isb, E3, f1, f2⟩ : ∃ yl yh isb, e = .returned (.tuple #[.agg #[.int .i64 yl, .int .i64 yh], .bool isb]) ∧ (¬ (0 ≤ f ∧ f < N) → isb = false) ∧ (0 ≤ f ∧ f < N → ∃ o, IsAgr l (N - f.toNat) o ∧ ivO o = ⟨yl, yh⟩ ∧ o.isSome = isb) := by
          rcases h3.2 with ⟨q1, q2, q3, q4, o, ho, q6⟩ | ⟨q1, q2⟩
          · rw [HN.out] at q2 ho
            exact ⟨(ivO o).lo, (ivO o).hi, o.isSome, q6, fun q => absurd ⟨q1, q2⟩ q, fun _ => ⟨o, ho, rfl, rfl⟩⟩
          · rw [HN.out] at q1
            exact ⟨0, 0, false, q2, fun _ => rfl, fun q => absurd ⟨q.1, q.2, my, by omega⟩ q1⟩
        subst E3
        have F1 := Lib.hid f1
        have F2 := Lib.hid f2
        have T3 : Mo w1 w3 := M2.trans ((Mor.out : Mo w2 _).trans M3)
        have B3 : Blk w3 w2.heap.size 30 (fdC il ih (f0 : Nat) (.slice A2 n2 c2)) := M3.blk inferInstance
        clear h3 f1 f2 AG
        go_wp2_with fail
        refine (RM.out _ _ _ (R1'.out.mo (T3.trans Mor.out))).mono ?_
        rintro e w4 ⟨⟨b, rfl, hb⟩, M4⟩
        obtain rfl : b = true := hb.2 my
        have T35a := (Mor.out : Mo w3 _).trans M4
        have T4 := T3.trans ((Mor.out : Mo w3 _).trans M4)
        have B4 : Blk w4 w2.heap.size 30 (fdC il ih (f0 : Nat) (.slice A2 n2 c2)) := M4.blk inferInstance
        have BY4 : Blk w4 w3.heap.size 27 #[.int .i64 yl, .int .i64 yh] := M4.blk inferInstance
        clear hb RM M4 B3
        go_wp2_with fail
        refine (RF.out _ _ _ (R1'.out.mo T4)).mono ?_
        intro e w5 h5
        have M5 := h5.1
        have H5 := Lib.hid h5.2
        have T5 := T4.trans M5
        have T35 := Lib.hid (T35a.trans M5)
        have B5 := M5.blk B4
        have BY5 := M5.blk BY4
        clear h5 RF M5 T4 B4 BY4
        have E5 : ∃ v5 c5, e = .returned (.tuple #[.agg #[.int .i64 il, .int .i64 ih], .int .i64 (f0 : Nat), .slice v5 n2 c5, .bool true]) ∧ IntRow w5 v5 (natI (trueL l ⟨il, ih⟩)) := by
          rcases H5.out with ⟨i', f', v', q1, q2, q3⟩ | ⟨q1, _⟩
          · have := isFind_uniq HI.out q1
            injection this with this
            injection this with q4 q5
            subst q4 q5
            rw [natL_eq] at q3
            obtain ⟨A5, c5, rfl, q6⟩ := own_ints q3 (natI_length _)
            exact ⟨A5, c5, by rw [q2, HN2.out], q6⟩
          · have := isFind_uniq HI.out q1
            cases this
        obtain ⟨A5, c5, rfl, R5⟩ := E5
        have R5' := Lib.hid R5
        clear H5 R5
        have q0 := neR_same b64.1 b64.2
        have EQ := Lib.hid (fun w (h1 : IntRow w A2 (natI (trueL l ⟨il, ih⟩))) (h2 : IntRow w A5 (natI (trueL l ⟨il, ih⟩))) => equalI_any (natI (trueL l ⟨il, ih⟩)) (natI (trueL l ⟨il, ih⟩)) A2 A5 c2 c5 w h1 h2 (by rw [natI_length, HN2.out]; omega) (by rw [natI_length, HN2.out]; omega))
        rw [natI_length, HN2.out, decide_eq_true rfl] at EQ
        have T25 : Mo w2 w5 := (Mor.out : Mo w2 _).trans (M3.trans T35.out)
        go_wp2_with fail
        refine (EQ.out _ (R2'.out.mo (T25.trans Mor.out)) (R5'.out.mo Mor.out)).mono ?_
        rintro e wT ⟨rfl, M6⟩
        have T1 : Mo w1 wT := T5.trans ((Mor.out : Mo w5 _).trans M6)
        have BY := ((Mor.out : Mo w5 _).trans M6).blk BY5
        clear EQ M6 T5 BY5 B5 R2' R5' T25 q0
        go_upto_region 11 with (fail)
        by_cases cf : 0 ≤ f ∧ f < N
        · obtain ⟨o, ho, ey, es⟩ := F2.out cf
          obtain ⟨g, rfl⟩ : ∃ g : Nat, f = g := ⟨f.toNat, by omega⟩
          rw [Int.toNat_natCast] at ho
          have HO := Lib.hid ho
          have d1 : decide ((g : Int) < 0) = false := decide_eq_false (by omega)
          have d2 : decide ((N : Int) ≤ g) = false := decide_eq_false (by omega)
          have wf : IntKind.i64.wrap ((N : Int) - g) = N - g := by rw [IntKind.wrap_i64]; omega
          have RA' := Lib.hid (fun w (M : Mo w1 w) => RA.out A1 c1 (N - g) w (R1'.out.mo M) (by omega))
          rw [show (((N - g : Nat)) : Int) = N - g by omega] at RA'
          clear F1 F2 ho
          subst es
          go_wp2_with fail
          refine (RA'.out _ (T1.trans Mor.out)).mono ?_
          rintro e w8 ⟨⟨o', ho', rfl⟩, M8⟩
          obtain rfl := isAgr_uniq HO.out ho'
          have T8 := T1.trans ((Mor.out : Mo wT _).trans M8)
          have BY8 := ((Mor.out : Mo wT _).trans M8).blk BY
          clear ho' RA' M8 BY T1
          cases o with
          | none =>
            simp only [ivO] at ey
            injection ey with ey1 ey2
            subst ey1 ey2
            have q0 := eqT_same (a := 0) (b := 0) ⟨by decide, by decide⟩ ⟨by decide, by decide⟩
            simp only [Option.isSome_none, ivO]
            go_wp2_with fail
            refine (HW.out _).mono ?_
            rintro e w9 ⟨rfl, M9⟩
            go_wp2_with fail
            go_ret
            exact ⟨rfl, M1.trans (T8.trans ((Mor.out : Mo w8 _).trans M9))⟩
          | some z =>
            obtain ⟨zl, zh⟩ := z
            have hz := agr_64 OK.out HO.out
            simp only [ivO] at ey
            injection ey with ey1 ey2
            subst ey1 ey2
            have q0 := eqR_same hz.1 hz.2
            simp only at q0
            simp only [Option.isSome_some, ivO]
            go_wp2_with fail
            refine (HW.out _).mono ?_
            rintro e w9 ⟨rfl, M9⟩
            go_wp2_with fail
            go_ret
            exact ⟨rfl, M1.trans (T8.trans ((Mor.out : Mo w8 _).trans M9))⟩
        · have es := F1.out cf
          subst es
          by_cases c1 : f < 0
          · have d1 : decide (f < 0) = true := decide_eq_true c1
            go_wp2_with fail
            refine (HW.out _).mono ?_
            rintro e w9 ⟨rfl, M9⟩
            go_wp2_with fail
            go_ret
            exact ⟨rfl, M1.trans (T1.trans ((Mor.out : Mo wT _).trans M9))⟩
          · have d1 : decide (f < 0) = false := decide_eq_false c1
            have d2 : decide ((N : Int) ≤ f) = true := decide_eq_true (by omega)
            go_wp2_with fail
            refine (HW.out _).mono ?_
            rintro e w9 ⟨rfl, M9⟩
            go_wp2_with fail
            go_ret
            exact ⟨rfl, M1.trans (T1.trans ((Mor.out : Mo wT _).trans M9))⟩
      · obtain ⟨hi, rfl⟩ := h
        have HI := Lib.hid hi
        clear hi H2
        go_wp2_with fail
        refine (AG.out _ (N2.trans Mor.out)).mono ?_
        intro e w3 h3
        have M3 := h3.1
        obtain ⟨yl, yh, isb, E3, f1, f2⟩ : ∃ yl yh isb, e = .returned (.tuple #[.agg #[.int .i64 yl, .int .i64 yh], .bool isb]) ∧ (¬ (0 ≤ f ∧ f < N) → isb = false) ∧ (0 ≤ f ∧ f < N → ∃ o, IsAgr l (N - f.toNat) o ∧ ivO o = ⟨yl, yh⟩ ∧ o.isSome = isb) := by
          rcases h3.2 with ⟨q1, q2, q3, q4, o, ho, q6⟩ | ⟨q1, q2⟩
          · rw [HN.out] at q2 ho
            exact ⟨(ivO o).lo, (ivO o).hi, o.isSome, q6, fun q => absurd ⟨q1, q2⟩ q, fun _ => ⟨o, ho, rfl, rfl⟩⟩
          · rw [HN.out] at q1
            exact ⟨0, 0, false, q2, fun _ => rfl, fun q => absurd ⟨q.1, q.2, my, by omega⟩ q1⟩
        subst E3
        have F1 := Lib.hid f1
        have F2 := Lib.hid f2
        have T3 : Mo w1 w3 := M2.trans ((Mor.out : Mo w2 _).trans M3)
        have B3 : Blk w3 w2.heap.size 30 (fdC 0 0 0 (.slice none 0 0)) := M3.blk inferInstance
        clear h3 f1 f2 AG
        go_wp2_with fail
        refine (RM.out _ _ _ (R1'.out.mo (T3.trans Mor.out))).mono ?_
        rintro e w4 ⟨⟨b, rfl, hb⟩, M4⟩
        obtain rfl : b = true := hb.2 my
        have T35a := (Mor.out : Mo w3 _).trans M4
        have T4 := T3.trans ((Mor.out : Mo w3 _).trans M4)
        have B4 : Blk w4 w2.heap.size 30 (fdC 0 0 0 (.slice none 0 0)) := M4.blk inferInstance
        have BY4 : Blk w4 w3.heap.size 27 #[.int .i64 yl, .int .i64 yh] := M4.blk inferInstance
        clear hb RM M4 B3
        go_wp2_with fail
        refine (RF.out _ _ _ (R1'.out.mo T4)).mono ?_
        intro e w5 h5
        have M5 := h5.1
        have H5 := Lib.hid h5.2
        have T5 := T4.trans M5
        have T35 := Lib.hid (T35a.trans M5)
        have B5 := M5.blk B4
        have BY5 := M5.blk BY4
        clear h5 RF M5 T4 B4 BY4
        have E5 : e = .returned (.tuple #[.agg #[.int .i64 0, .int .i64 0], .int .i64 0, .slice none 0 0, .bool false]) := by
          rcases H5.out with ⟨i', f', v', q1, q2, q3⟩ | ⟨_, q2⟩
          · have := isFind_uniq HI.out q1
            cases this
          · exact q2
        subst E5
        clear H5
        go_upto_region 9 with (fail)
        refine wp_name ?_
        intro wT hwT
        have T1 : Mo w1 wT := by rw [hwT]; exact T5.trans Mor.out
        have BY : Blk wT w3.heap.size 27 #[.int .i64 yl, .int .i64 yh] := by rw [hwT]; infer_instance
        have B6 : Blk wT w2.heap.size 30 (fdC 0 0 0 (.slice none 0 0)) := by rw [hwT]; infer_instance
        clear hwT T5 BY5 B5
        go_upto_region 11 with (fail)
        by_cases cf : 0 ≤ f ∧ f < N
        · obtain ⟨o, ho, ey, es⟩ := F2.out cf
          obtain ⟨g, rfl⟩ : ∃ g : Nat, f = g := ⟨f.toNat, by omega⟩
          rw [Int.toNat_natCast] at ho
          have HO := Lib.hid ho
          have d1 : decide ((g : Int) < 0) = false := decide_eq_false (by omega)
          have d2 : decide ((N : Int) ≤ g) = false := decide_eq_false (by omega)
          have wf : IntKind.i64.wrap ((N : Int) - g) = N - g := by rw [IntKind.wrap_i64]; omega
          have RA' := Lib.hid (fun w (M : Mo w1 w) => RA.out A1 c1 (N - g) w (R1'.out.mo M) (by omega))
          rw [show (((N - g : Nat)) : Int) = N - g by omega] at RA'
          clear F1 F2 ho
          subst es
          go_wp2_with fail
          refine (RA'.out _ (T1.trans Mor.out)).mono ?_
          rintro e w8 ⟨⟨o', ho', rfl⟩, M8⟩
          obtain rfl := isAgr_uniq HO.out ho'
          have T8 := T1.trans ((Mor.out : Mo wT _).trans M8)
          have BY8 := ((Mor.out : Mo wT _).trans M8).blk BY
          clear ho' RA' M8 BY T1
          cases o with
          | none =>
            simp only [ivO] at ey
            injection ey with ey1 ey2
            subst ey1 ey2
            have q0 := eqT_same (a := 0) (b := 0) ⟨by decide, by decide⟩ ⟨by decide, by decide⟩
            simp only [Option.isSome_none, ivO]
            go_wp2_with fail
            refine (HW.out _).mono ?_
            rintro e w9 ⟨rfl, M9⟩
            go_wp2_with fail
            go_ret
            exact ⟨rfl, M1.trans (T8.trans ((Mor.out : Mo w8 _).trans M9))⟩
          | some z =>
            obtain ⟨zl, zh⟩ := z
            have hz := agr_64 OK.out HO.out
            simp only [ivO] at ey
            injection ey with ey1 ey2
            subst ey1 ey2
            have q0 := eqR_same hz.1 hz.2
            simp only at q0
            simp only [Option.isSome_some, ivO]
            go_wp2_with fail
            refine (HW.out _).mono ?_
            rintro e w9 ⟨rfl, M9⟩
            go_wp2_with fail
            go_ret
            exact ⟨rfl, M1.trans (T8.trans ((Mor.out : Mo w8 _).trans M9))⟩
        · have es := F1.out cf
          subst es
          by_cases c1 : f < 0
          · have d1 : decide (f < 0) = true := decide_eq_true c1
            go_wp2_with fail
            refine (HW.out _).mono ?_
            rintro e w9 ⟨rfl, M9⟩
            go_wp2_with fail
            go_ret
            exact ⟨rfl, M1.trans (T1.trans ((Mor.out : Mo wT _).trans M9))⟩
          · have d1 : decide (f < 0) = false := decide_eq_false c1
            have d2 : decide ((N : Int) ≤ f) = true := decide_eq_true (by omega)
            go_wp2_with fail
            refine (HW.out _).mono ?_
            rintro e w9 ⟨rfl, M9⟩
            go_wp2_with fail
            go_ret
            exact ⟨rfl, M1.trans (T1.trans ((Mor.out : Mo wT _).trans M9))⟩
    · have E2 : e = .returned (.tuple #[.agg (fdC 0 0 0 (.slice none 0 0)), .int .i64 2]) := by
        rcases H2.out with h | h | h
        · have := HN.out; omega
        · exact h.2.2
        · exact absurd h.2.1 my
      subst e
      clear H2
      go_wp2_with fail
      refine (AG.out _ (N2.trans Mor.out)).mono ?_
      intro e w3 h3
      have M3 := h3.1
      have E3 : e = .returned (.tuple #[.agg #[.int .i64 0, .int .i64 0], .bool false]) := by
        rcases h3.2 with h | h
        · exact absurd h.2.2.1 my
        · exact h.2
      subst e
      have N3 := N2.trans ((Mor.out : Mo w2 _).trans M3)
      have B3 : Blk w3 w2.heap.size 30 (fdC 0 0 0 (.slice none 0 0)) := M3.blk inferInstance
      clear h3
      have R3 := Lib.hid ((R1'.out.mo M2).mo ((Mor.out : Mo w2 _).trans M3))
      go_wp2_with fail
      refine (RM.out _ _ _ (R3.out.mo Mor.out)).mono ?_
      rintro e w4 ⟨⟨b, rfl, hb⟩, M4⟩
      obtain rfl : b = false := by
        cases b with
        | true => exact absurd (hb.1 rfl) my
        | false => rfl
      have B4 : Blk w4 w2.heap.size 30 (fdC 0 0 0 (.slice none 0 0)) := M4.blk inferInstance
      have N4 := N3.trans ((Mor.out : Mo w3 _).trans M4)
      clear hb
      go_wp2_with fail
      refine (HW.out _).mono ?_
      rintro e w5 ⟨rfl, M5⟩
      go_wp2_with fail
      go_ret
      exact ⟨rfl, N4.trans ((Mor.out : Mo w4 _).trans M5)⟩
end Go.Proofs.Ytdppkbnjedehbaa
