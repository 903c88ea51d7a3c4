/- horologelaw33.works returns true; slices.Equal of ints. -/
import Derived.Test.YtdppkbnjedehbaaTruG
namespace Go.Proofs.Ytdppkbnjedehbaa
open Go.RowKit

/-- a slice of ints, as it is read -/
def IntRow (W : World) (A : Option Addr) (xs : List Int) : Prop := xs = [] ∨ ∃ g off, A = some ⟨g, off, none⟩ ∧ ∀ j (h : j < xs.length), W.cell? ⟨g, off + j, none⟩ = some (.int .i64 xs[j])
set_option maxRecDepth 20000 in
theorem IntRow.mo {W w : World} {A : Option Addr} {l : List Int} (h : IntRow W A l) (k : Mo W w) : IntRow w A l := by
  rcases h with h | ⟨g, off, rfl, hc⟩
  · exact .inl h
  · refine .inr ⟨g, off, rfl, fun j hj => ?_⟩
    have a := hc j hj
    have : LtW g W := LtW.of_cell a
    rw [k.cell, a]
def natI (xs : List Nat) : List Int := xs.map fun (k : Nat) => (k : Int)
set_option maxRecDepth 20000 in
theorem natL_eq (xs : List Nat) : natL xs = i64L (natI xs) := by
  unfold natL i64L natI
  rw [List.map_map]
  rfl
set_option maxRecDepth 20000 in
theorem natI_inj {xs ys : List Nat} (h : natI xs = natI ys) : xs = ys := by
  unfold natI at h
  exact List.map_inj_right (fun a b k => by have k' : (a : Int) = b := k; omega) |>.1 h
set_option maxRecDepth 20000 in
theorem natI_length (xs : List Nat) : (natI xs).length = xs.length := by unfold natI; simp
set_option maxRecDepth 20000 in
theorem own_ints {w : World} {base n : Nat} {T : TypeId} {v : Value} {xs : List Int} (h : w.ownsRow base T 1 v n (i64L xs)) (hn : xs.length = n) : ∃ A c, v = .slice A n c ∧ IntRow w A xs := by
  rcases h.2 with ⟨rfl, rfl⟩ | ⟨g, cap, cur, rfl, rest⟩
  · exact ⟨none, 0, rfl, .inl (List.eq_nil_of_length_eq_zero hn)⟩
  · refine ⟨_, _, rfl, .inr ⟨g, 0, rfl, fun j hj => ?_⟩⟩
    exact own_cell64 h j _ (i64_get hj)
attribute [local go_sem] blk_cell' blk_frozen'
set_option maxRecDepth 20000 in
set_option maxHeartbeats 4000000 in
theorem equalI_any (xs ys : List Int) (A B : Option Addr) (c d : Nat) (W : World) (hx : IntRow W A xs) (hy : IntRow W B ys) (lx : xs.length ≤ 65536) (ly : ys.length ≤ 65536) :
    Calls Try.prog 14 #[.slice A xs.length c, .slice B ys.length d] W fun e w' => e = .returned (.bool (decide (xs = ys))) ∧ Mo W w' := by
  have HX := Lib.hid hx
  have HY := Lib.hid hy
  clear hx hy
  obtain ⟨q, hq⟩ : ∃ q, decide (xs = ys) = q := ⟨_, rfl⟩
  rw [hq]
  have HQ := Lib.hid hq
  obtain ⟨N, hN⟩ : ∃ N, xs.length = N := ⟨_, rfl⟩
  obtain ⟨M, hM⟩ : ∃ N, ys.length = N := ⟨_, rfl⟩
  have HN := Lib.hid hN
  have HM := Lib.hid hM
  rw [hN] at lx ⊢
  rw [hM] at ly ⊢
  clear hN hM hq
  go_enter Try.func14, Try.ntmps14
  by_cases c0 : N = M
  · subst c0
    go_wp2_with fail
    go_loopw [13] (fun i wr => ∃ j : Nat, j ≤ N ∧ i = .int .i64 j ∧ (∀ k (h : k < xs.length) (h2 : k < ys.length), k < j → xs[k] = ys[k]) ∧ Mo W wr) (fun i _ => N - (intOf i).toNat)
    case atStart => exact ⟨0, by omega, rfl, fun k _ _ h => absurd h (by omega), Mo.refl _⟩
    case round =>
      obtain ⟨j, hj, rfl, hp, hM⟩ := hrel
      have HP := Lib.hid hp
      clear hp
      by_cases cj : j < N
      · have hjl : j < xs.length := by rw [HN.out]; exact cj
        have hjl2 : j < ys.length := by rw [HM.out]; exact cj
        obtain ⟨g, off, rfl, hc⟩ := (HX.out.mo hM).resolve_left (fun e => by rw [e] at hjl; simp at hjl)
        obtain ⟨g2, off2, rfl, hc2⟩ := (HY.out.mo hM).resolve_left (fun e => by rw [e] at hjl2; simp at hjl2)
        have y0 := hc j hjl
        have y1 := hc2 j hjl2
        have e0 : (0 : Int) ≤ j := by omega
        have e1 : (j : Int) < N := by omega
        have H1 : Hid (xs[j] ≠ ys[j] → q = false) := Lib.hid (fun h => by
          rw [← HQ.out, decide_eq_false_iff_not]
          rintro rfl
          exact h rfl)
        have H2 : Hid (xs[j] = ys[j] → ∀ k (h : k < xs.length) (h2 : k < ys.length), k < j + 1 → xs[k] = ys[k]) := Lib.hid (fun e k h h2 hk => by
          by_cases c : k = j
          · subst c; exact e
          · exact HP.out k h h2 (by omega))
        clear hc hc2
        obtain ⟨x, hx⟩ : ∃ x, xs[j] = x := ⟨_, rfl⟩
        obtain ⟨y, hy⟩ : ∃ x, ys[j] = x := ⟨_, rfl⟩
        rw [hx] at y0 H1 H2
        rw [hy] at y1 H1 H2
        clear hx hy hjl hjl2
        by_cases cc : x = y
        · have b1 : (x != y) = false := by simp [cc]
          have H2' := Lib.hid (H2.out cc)
          clear H1 H2 cc
          go_upto_region 6 with (fail)
          go_region
          go_wp2_with fail
          go_roundw
          case rel => exact ⟨j + 1, by omega, by go_num, H2'.out, hM.trans Mor.out⟩
          case measure => simp [intOf]; omega
        · have b1 : (x != y) = true := by simp [cc]
          have H1' := Lib.hid (H1.out cc)
          clear H1 H2 cc
          go_upto_region 6 with (fail)
          go_region
          go_wp2_with fail
          go_ret
          exact ⟨by rw [H1'.out]; rfl, hM.trans Mor.out⟩
      · obtain rfl : j = N := by omega
        have H : Hid (q = true) := Lib.hid (by
          rw [← HQ.out, decide_eq_true_eq]
          exact List.ext_getElem (by rw [HN.out, HM.out]) fun k h1 h2 => HP.out k h1 h2 (by rw [← HN.out]; exact h1))
        go_wp2_with fail
        go_ret
        exact ⟨by rw [H.out]; rfl, hM.trans Mor.out⟩
  · have b1 : ((N : Int) != (M : Int)) = true := by simp; omega
    have H : Hid (q = false) := Lib.hid (by
      rw [← HQ.out, decide_eq_false_iff_not]
      rintro rfl
      exact c0 (by rw [← HN.out, ← HM.out]))
    go_wp2_with fail
    go_ret
    exact ⟨by rw [H.out]; rfl, Mor.out⟩
set_option maxRecDepth 20000 in
theorem ex1 : IsFind [⟨0, 10⟩, ⟨5, 15⟩, ⟨8, 9⟩] (some (⟨8, 9⟩, 0)) ∧ trueL [⟨0, 10⟩, ⟨5, 15⟩, ⟨8, 9⟩] ⟨8, 9⟩ = [0, 1, 2] := by
  refine ⟨⟨by decide, ?_, fun f' h => by omega⟩, by decide⟩
  unfold IsAgr
  decide
set_option maxRecDepth 20000 in
theorem ex2 : IsFind [⟨0, 10⟩, ⟨5, 15⟩, ⟨20, 30⟩] (some (⟨5, 10⟩, 1)) ∧ trueL [⟨0, 10⟩, ⟨5, 15⟩, ⟨20, 30⟩] ⟨5, 10⟩ = [0, 1] := by
  refine ⟨⟨by decide, ?_, fun f' h => ?_⟩, by decide⟩
  · unfold IsAgr
    decide
  · obtain rfl : f' = 0 := by omega
    unfold IsAgr
    decide
set_option maxRecDepth 20000 in
theorem ex3 : IsFind [⟨0, 1⟩, ⟨2, 3⟩] none := by
  intro f hf
  obtain rfl : f = 0 := by simp at hf; omega
  unfold IsAgr
  decide
set_option maxRecDepth 20000 in
theorem may3 {a b c d e f : Int} (h1 : a ≤ b) (h2 : c ≤ d) (h3 : e ≤ f) : MayL [⟨a, b⟩, ⟨c, d⟩, ⟨e, f⟩] := by
  intro x hx
  simp at hx
  rcases hx with rfl | rfl | rfl <;> assumption
set_option maxRecDepth 20000 in
theorem iv_lit3 {w : World} {g : Nat} {t : TypeId} {a b c d e f : Int} (h : Blk w g t #[.int .i64 a, .int .i64 b, .int .i64 c, .int .i64 d, .int .i64 e, .int .i64 f]) : IvRow w (some ⟨g, 0, none⟩) [⟨a, b⟩, ⟨c, d⟩, ⟨e, f⟩] := by
  refine .inr ⟨g, 0, rfl, fun j hj => ?_⟩
  have : j = 0 ∨ j = 1 ∨ j = 2 := by simp at hj; omega
  rcases this with rfl | rfl | rfl <;> (rw [blk_cell h, blk_cell h]; exact ⟨rfl, rfl⟩)
set_option maxRecDepth 20000 in
theorem iv_lit2 {w : World} {g : Nat} {t : TypeId} {a b c d : Int} (h : Blk w g t #[.int .i64 a, .int .i64 b, .int .i64 c, .int .i64 d]) : IvRow w (some ⟨g, 0, none⟩) [⟨a, b⟩, ⟨c, d⟩] := by
  refine .inr ⟨g, 0, rfl, fun j hj => ?_⟩
  have : j = 0 ∨ j = 1 := by simp at hj; omega
  rcases this with rfl | rfl <;> (rw [blk_cell h, blk_cell h]; exact ⟨rfl, rfl⟩)
set_option maxRecDepth 20000 in
theorem find_ok {l : List Iv} {i : Iv} {f : Nat} {W w' : World} {e : Ending} (hl : l.length ≤ 512) (hy : MayL l) (hf : IsFind l (some (i, f))) (h : TFindRet l W e w') :
    Mo W w' ∧ ∃ v, e = .returned (.tuple #[.agg (fdC i.lo i.hi (f : Nat) v), .int .i64 0]) ∧ w'.ownsRow W.heap.size 3 1 v (trueL l i).length (natL (trueL l i)) := by
  refine ⟨h.1, ?_⟩
  rcases h.2 with h | h | h
  · omega
  · exact absurd hy h.2.1
  · rcases h.2.2 with ⟨i', f', v, h1, h2, h3⟩ | ⟨h1, _⟩
    · have := isFind_uniq hf h1
      injection this with this
      injection this with h4 h5
      subst h4 h5
      exact ⟨v, h2, h3⟩
    · have := isFind_uniq hf h1
      cases this
set_option maxRecDepth 20000 in
theorem find_no {l : List Iv} {W w' : World} {e : Ending} (hl : l.length ≤ 512) (hy : MayL l) (hf : IsFind l none) (h : TFindRet l W e w') :
    Mo W w' ∧ e = .returned (.tuple #[.agg (fdC 0 0 0 (.slice none 0 0)), .int .i64 4]) := by
  refine ⟨h.1, ?_⟩
  rcases h.2 with h | h | h
  · omega
  · exact absurd hy h.2.1
  · rcases h.2.2 with ⟨i', f', v, h1, h2, h3⟩ | ⟨_, h2⟩
    · have := isFind_uniq hf h1
      cases this
    · exact h2
set_option maxRecDepth 20000 in
theorem in3 {a b c d e f : Int} (h1 : -9223372036854775808 ≤ a) (h2 : b ≤ 9223372036854775807) (h3 : -9223372036854775808 ≤ c) (h4 : d ≤ 9223372036854775807) (h5 : -9223372036854775808 ≤ e) (h6 : f ≤ 9223372036854775807) : InIv [⟨a, b⟩, ⟨c, d⟩, ⟨e, f⟩] := by
  intro x hx
  simp at hx
  rcases hx with rfl | rfl | rfl <;> exact ⟨by assumption, by assumption⟩
set_option maxRecDepth 20000 in
theorem in2 {a b c d : Int} (h1 : -9223372036854775808 ≤ a) (h2 : b ≤ 9223372036854775807) (h3 : -9223372036854775808 ≤ c) (h4 : d ≤ 9223372036854775807) : InIv [⟨a, b⟩, ⟨c, d⟩] := by
  intro x hx
  simp at hx
  rcases hx with rfl | rfl <;> exact ⟨by assumption, by assumption⟩
set_option maxRecDepth 20000 in
theorem may2 {a b c d : Int} (h1 : a ≤ b) (h2 : c ≤ d) : MayL [⟨a, b⟩, ⟨c, d⟩] := by
  intro x hx
  simp at hx
  rcases hx with rfl | rfl <;> assumption
set_option maxRecDepth 20000 in
theorem ints3 {w : World} {g : Nat} {t : TypeId} {a b c : Int} (h : Blk w g t #[.int .i64 a, .int .i64 b, .int .i64 c]) : IntRow w (some ⟨g, 0, none⟩) [a, b, c] := by
  refine .inr ⟨g, 0, rfl, fun j hj => ?_⟩
  have : j = 0 ∨ j = 1 ∨ j = 2 := by simp at hj; omega
  rcases this with rfl | rfl | rfl <;> (rw [blk_cell h]; rfl)
set_option maxRecDepth 20000 in
theorem ints2 {w : World} {g : Nat} {t : TypeId} {a b : Int} (h : Blk w g t #[.int .i64 a, .int .i64 b]) : IntRow w (some ⟨g, 0, none⟩) [a, b] := by
  refine .inr ⟨g, 0, rfl, fun j hj => ?_⟩
  have : j = 0 ∨ j = 1 := by simp at hj; omega
  rcases this with rfl | rfl <;> (rw [blk_cell h]; rfl)
set_option maxRecDepth 20000 in
set_option maxHeartbeats 8000000 in
theorem works_any (W : World) : Calls Try.prog 8 #[] W fun e w' => e = .returned (.bool true) ∧ Mo W w' := by
  go_enter Try.func8, Try.ntmps8
  go_wp2_with fail
  refine (find_any [⟨0, 10⟩, ⟨5, 15⟩, ⟨8, 9⟩] _ 3 _ (iv_lit3 (t := 27) inferInstance) (by decide) (in3 (by decide) (by decide) (by decide) (by decide) (by decide) (by decide))).mono ?_
  intro e w1 h1
  obtain ⟨M1, v1, rfl, O1⟩ := find_ok (by decide) (may3 (by decide) (by decide) (by decide)) ex1.1 h1
  rw [ex1.2] at O1
  have N1 := (Mor.out : Mo W _).trans M1
  obtain ⟨A1, c1, rfl, R1⟩ := own_ints (xs := [0, 1, 2]) O1 rfl
  have R1' := Lib.hid R1
  clear h1 O1 M1 R1
  go_wp2_with fail
  refine (find_any [⟨0, 10⟩, ⟨5, 15⟩, ⟨20, 30⟩] _ 3 _ (iv_lit3 (t := 27) inferInstance) (by decide) (in3 (by decide) (by decide) (by decide) (by decide) (by decide) (by decide))).mono ?_
  intro e w2 h2
  obtain ⟨M2, v2, rfl, O2⟩ := find_ok (by decide) (may3 (by decide) (by decide) (by decide)) ex2.1 h2
  rw [ex2.2] at O2
  have M12 := (Mor.out : Mo w1 _).trans M2
  have B1 : Blk w2 w1.heap.size 30 (fdC 8 9 0 (.slice A1 3 c1)) := M2.blk inferInstance
  obtain ⟨A2, c2, rfl, R2⟩ := own_ints (xs := [0, 1]) O2 rfl
  have R2' := Lib.hid R2
  clear h2 O2 M2 R2
  go_wp2_with fail
  refine (find_any [⟨0, 1⟩, ⟨2, 3⟩] _ 2 _ (iv_lit2 (t := 27) inferInstance) (by decide) (in2 (by decide) (by decide) (by decide) (by decide))).mono ?_
  intro e w3 h3
  obtain ⟨M3, rfl⟩ := find_no (by decide) (may2 (by decide) (by decide)) ex3 h3
  have M23 := (Mor.out : Mo w2 _).trans M3
  have B1' : Blk w3 w1.heap.size 30 (fdC 8 9 0 (.slice A1 3 c1)) := M23.blk B1
  have B2 : Blk w3 w2.heap.size 30 (fdC 5 10 1 (.slice A2 2 c2)) := M3.blk inferInstance
  have N3 : Mo W w3 := (N1.trans M12).trans M23
  have R1 := Lib.hid ((R1'.out.mo M12).mo M23)
  have R2 := Lib.hid (R2'.out.mo M23)
  clear h3 R1' R2' M12 M23 M3 B1 N1
  go_wp2_with fail
  refine (equalI_any [0, 1, 2] [0, 1, 2] _ _ _ _ _ (R1.out.mo Mor.out) (ints3 (t := 3) inferInstance) (by decide) (by decide)).mono ?_
  rintro e w4 ⟨rfl, M4⟩
  have B2' : Blk w4 w2.heap.size 30 (fdC 5 10 1 (.slice A2 2 c2)) := M4.blk inferInstance
  have M34 := (Mor.out : Mo w3 _).trans M4
  rw [show decide ([0, 1, 2] = ([0, 1, 2] : List Int)) = true by decide]
  clear M4
  go_wp2_with fail
  refine (equalI_any [0, 1] [0, 1] _ _ _ _ _ ((R2.out.mo M34).mo Mor.out) (ints2 (t := 3) inferInstance) (by decide) (by decide)).mono ?_
  rintro e w5 ⟨rfl, M5⟩
  have M45 := (Mor.out : Mo w4 _).trans M5
  rw [show decide ([0, 1] = ([0, 1] : List Int)) = true by decide]
  clear M5
  go_wp2_with fail
  go_ret
  exact ⟨rfl, (N3.trans M34).trans M45⟩
end Go.Proofs.Ytdppkbnjedehbaa
