/- horologelaw33.TruthMoves: the walk. -/
import Derived.Test.YtdppkbnjedehbaaMovesA
namespace Go.Proofs.Ytdppkbnjedehbaa
open Go.RowKit

/-- what Find has found, or that there is no majority: in letters -/
def FoundIs (l : List Iv) (w : World) (a b f : Int) (A : Option Addr) (n : Nat) (e : Int) : Prop :=
  (e = 0 ∧ ∃ f0 : Nat, f = f0 ∧ IsFind l (some (⟨a, b⟩, f0)) ∧ n = (trueL l ⟨a, b⟩).length ∧ IntRow w A (natI (trueL l ⟨a, b⟩))) ∨ (e = 4 ∧ IsFind l none)
set_option maxRecDepth 20000 in
theorem found_is {l : List Iv} {W w : World} {e : Ending} (hl : l.length ≤ 512) (hy : MayL l) (h : TFindRet l W e w) : ∃ a b f A n c er, e = .returned (.tuple #[.agg (fdC a b f (.slice A n c)), .int .i64 er]) ∧ FoundIs l w a b f A n er := by
  rcases h.2 with h | h | h
  · omega
  · exact absurd hy h.2.1
  · rcases h.2.2 with ⟨⟨a, b⟩, f, v, h1, h2, h3⟩ | ⟨h1, h2⟩
    · rw [natL_eq] at h3
      obtain ⟨A, c, rfl, h4⟩ := own_ints h3 (natI_length _)
      exact ⟨a, b, f, A, _, c, 0, h2, .inl ⟨rfl, f, rfl, h1, rfl, h4⟩⟩
    · exact ⟨0, 0, 0, none, 0, 0, 4, h2, .inr ⟨rfl, h1⟩⟩
set_option maxRecDepth 20000 in
theorem FoundIs.mo {l : List Iv} {w w' : World} {a b f : Int} {A : Option Addr} {n : Nat} {e : Int} (h : FoundIs l w a b f A n e) (k : Mo w w') : FoundIs l w' a b f A n e := by
  rcases h with ⟨h1, f0, h2, h3, h4, h5⟩ | h
  · exact .inl ⟨h1, f0, h2, h3, h4, h5.mo k⟩
  · exact .inr h
set_option maxRecDepth 20000 in
theorem KpS.grown {S : Nat → Prop} {a b b' : World} {row : Option Nat} (h : KpS S a b) (g : b.grownBy b' row) (s : ∀ k, row = some k → a.heap.size ≤ k ∨ S k) : KpS S a b' :=
  ⟨g.os.trans h.os, g.tape.trans h.tape, g.output.trans h.output, Nat.le_trans h.size g.size, fun k hk n => (g.block k (Nat.lt_of_lt_of_le hk h.size) fun e => by
    rcases s k e.symm with q | q
    · omega
    · exact n q).trans (h.block k hk n)⟩
set_option maxRecDepth 20000 in
theorem owns_row {w w' : World} {base e n : Nat} {row : Option Nat} {u : Value} {xs : List Value} (h : w.ownsRow base e 1 u n xs) (g : w.grownBy w' row) (s : ∀ k, u.ownBlock = some k → row ≠ some k) : w'.ownsRow base e 1 u n xs := by
  refine ⟨h.1, ?_⟩
  rcases h.2 with q | ⟨g', cap, cur, rfl, hb, hg, rest⟩
  · exact .inl q
  · exact .inr ⟨g', cap, cur, rfl, hb, (g.block g' (Array.getElem?_eq_some_iff.1 hg).1 (fun e => s g' rfl e.symm)).trans hg, rest⟩
set_option maxRecDepth 20000 in
theorem ivS_at {l : List Iv} {g off i : Nat} {W w : World} (h : ∀ j (h : j < l.length), W.cell? ⟨g, off + j * 2, none⟩ = some (.int .i64 l[j].lo) ∧ W.cell? ⟨g, off + j * 2 + 1, none⟩ = some (.int .i64 l[j].hi)) (k : Mo W w) (hi : i < l.length) :
    w.cell? ⟨g, off + i * 2, none⟩ = some (.int .i64 l[i].lo) ∧ w.cell? ⟨g, off + i * 2 + 1, none⟩ = some (.int .i64 l[i].hi) := by
  obtain ⟨a, b⟩ := h i hi
  have : LtW g W := LtW.of_cell a
  exact ⟨by rw [k.cell, a], by rw [k.cell, b]⟩
set_option maxRecDepth 20000 in
theorem natI_get {L : List Nat} {i : Nat} (h : i < L.length) : (i64L (natI L))[i]? = some (.int .i64 (L[i] : Nat)) := by
  unfold i64L natI
  rw [List.map_map, List.getElem?_map, List.getElem?_eq_getElem h]
  rfl
set_option maxRecDepth 20000 in
theorem natI_cut (L : List Nat) (i : Nat) : (natI L).take i ++ (natI L).drop (i + 1) = natI (L.take i ++ L.drop (i + 1)) := by
  unfold natI
  rw [List.map_append, List.map_take, List.map_drop]
set_option maxRecDepth 20000 in
theorem natI_app (L M : List Nat) : i64L (natI (L ++ M)) = i64L (natI L) ++ i64L (natI M) := by
  unfold natI i64L
  rw [List.map_append, List.map_append]
set_option maxRecDepth 20000 in
theorem perm_step {O L : List Nat} {n i : Nat} (h : (O ++ L).Perm (List.range n)) (hi : i < L.length) : ((O ++ [L[i]]) ++ (L.take i ++ L.drop (i + 1))).Perm (List.range n) := by
  refine List.Perm.trans ?_ h
  rw [List.append_assoc]
  refine List.Perm.append_left O ?_
  have e : L = L.take i ++ L[i] :: L.drop (i + 1) := by rw [← List.drop_eq_getElem_cons hi, List.take_append_drop]
  conv => rhs; rw [e]
  show (L[i] :: (L.take i ++ L.drop (i + 1))).Perm _
  exact List.perm_middle.symm
def app28 (ats : Array TypeId) (ty : TypeId) (args : Array Value) : Sem Value := Builtin.append_ ats ty args
set_option maxRecDepth 20000 in
theorem app28_fold (ats : Array TypeId) (ty : TypeId) (args : Array Value) : Builtin.append_ ats ty args = app28 ats ty args := rfl
class GrC (a : outParam World) (b : World) : Prop where
  out : ∀ g cs, Blk a g 30 cs → Blk b g 30 cs
set_option maxRecDepth 20000 in
instance (priority := low) grc_blk (a b : World) (g : Nat) (cs : Array Value) [h : GrC a b] [k : Blk a g 30 cs] : Blk b g 30 cs := h.out g cs k
set_option maxRecDepth 20000 in
theorem blk_grown2 {w w' : World} {base e sz n k : Nat} {t : TypeId} {v : Value} {xs : List Value} {cs : Array Value} (h : Blk w k t cs) (o : w.ownsRow base e sz v n xs) (g : w.grownBy w' v.ownBlock) (ne : t ≠ e) : Blk w' k t cs := by
  refine ⟨(g.block k h.lt fun q => ?_).trans h.out⟩
  rcases o.2 with ⟨e0, _⟩ | ⟨g', cap, cur, e0, _, hg, _⟩
  · rw [e0] at q; simp [Value.ownBlock] at q
  · rw [e0] at q
    obtain rfl : k = g' := by simpa [Value.ownBlock] using q
    have := h.out.symm.trans hg
    simp at this
    exact ne this.2
set_option maxRecDepth 20000 in
theorem sizeIv (w : World) : (Go.sizeOf 27).run Try.prog w = .ok 2 w := rfl
set_option maxRecDepth 20000 in
theorem cloneIv_any (l : List Iv) (g off c : Nat) (W : World) (hl : l.length ≤ 65536) (hc : ∀ j (h : j < l.length), W.cell? ⟨g, off + j * 2, none⟩ = some (.int .i64 l[j].lo) ∧ W.cell? ⟨g, off + j * 2 + 1, none⟩ = some (.int .i64 l[j].hi)) :
    Calls Try.prog 21 #[.slice (some ⟨g, off, none⟩) l.length c] W fun e w' => ∃ g' c', e = .returned (.slice (some ⟨g', 0, none⟩) l.length c') ∧ w'.ownsRow W.heap.size 27 2 (.slice (some ⟨g', 0, none⟩) l.length c') l.length (ivL l) ∧ Mo W w' := by
  obtain ⟨i0, hi0, hz0, hz1, hz2⟩ := info_parts infoIv
  refine (AnyE.slices_Clone cloneIv i0 (.agg #[.int .i64 0, .int .i64 0]) 2 16 hi0 hz0 hz1 hz2 rfl (by decide) sizeIv g off l.length c (ivL l) W (ivL_length l) (by unfold maxLen; omega) (by omega) ?_ ?_).mono ?_
  · intro j u hu
    have hj := (List.getElem?_eq_some_iff.1 hu).1
    rw [ivL_length] at hj
    have hm : j / 2 < l.length := by omega
    obtain ⟨a1, a2⟩ := ivL_get l (j / 2) hm
    obtain ⟨b1, b2⟩ := hc (j / 2) hm
    rcases (show j % 2 = 0 ∨ j % 2 = 1 by omega) with e | e
    · rw [show j / 2 * 2 = j by omega] at a1 b1
      rw [b1, ← hu, a1]
    · rw [show j / 2 * 2 + 1 = j by omega] at a2
      rw [show off + j / 2 * 2 + 1 = off + j by omega] at b2
      rw [b2, ← hu, a2]
  · intro u hu
    unfold ivL at hu
    obtain ⟨x, _, hx⟩ := List.mem_flatMap.1 hu
    simp at hx
    rcases hx with rfl | rfl <;> rfl
  · rintro e w' ⟨v', rfl, h1, h2, h3⟩
    rcases h1.2 with ⟨e0, _⟩ | ⟨g', cap, cur, rfl, hb, _⟩
    · exact absurd e0 h2
    · exact ⟨g', cap, rfl, h1, Mo.of h3⟩
attribute [local go_sem ↓] eqR_fold neR_fold eqT_fold app28_fold
attribute [local go_sem] blk_cell' blk_frozen'
set_option maxRecDepth 20000 in
set_option maxHeartbeats 32000000 in
theorem moves33_any (l : List Iv) (A : Option Addr) (c : Nat) (ts : List Int) (B : Option Addr) (d : Nat) (by_ : Int) (W : World) (hS : IvS W A c l) (hT : U8S W B ts) (hb : -2147483648 ≤ by_ ∧ by_ ≤ 2147483647) :
    Calls Try.prog 5 #[.slice A l.length c, .slice B ts.length d, .int .i32 by_] W fun e w' => e = .returned (.bool true) ∧ Mo W w' := by
  have HW := Lib.hid (fun w => works_any w)
  have HS := Lib.hid hS
  have HT := Lib.hid hT
  clear hS hT
  obtain ⟨N, hN⟩ : ∃ N, l.length = N := ⟨_, rfl⟩
  obtain ⟨T, hT⟩ : ∃ N, ts.length = N := ⟨_, rfl⟩
  have HN := Lib.hid hN
  have HTT := Lib.hid hT
  rw [hN, hT]
  clear hN hT
  go_enter Try.func5, Try.ntmps5
  by_cases c0 : 60 < N
  · have d0 : decide ((60 : Int) < (N : Int)) = true := decide_eq_true (by omega)
    go_wp2_with fail
    refine (HW.out _).mono ?_
    rintro e w9 ⟨rfl, M9⟩
    go_wp2_with fail
    go_ret
    exact ⟨rfl, (Mor.out : Mo W _).trans M9⟩
  have d0 : decide ((60 : Int) < (N : Int)) = false := decide_eq_false (by omega)
  by_cases c1 : 100 < T
  · have d1 : decide ((100 : Int) < (T : Int)) = true := decide_eq_true (by omega)
    go_wp2_with fail
    refine (HW.out _).mono ?_
    rintro e w9 ⟨rfl, M9⟩
    go_wp2_with fail
    go_ret
    exact ⟨rfl, (Mor.out : Mo W _).trans M9⟩
  have d1 : decide ((100 : Int) < (T : Int)) = false := decide_eq_false (by omega)
  have hl : l.length ≤ 60 := by have := HN.out; omega
  have hN60 : N ≤ 60 := by omega
  have hT100 : T ≤ 100 := by omega
  have OF := Lib.hid (of_any l A c W HS.out.row HS.out.lim)
  have WI := Lib.hid (fun w (M : Mo W w) => within_any l A c 1152921504606846976 w (HS.out.row.mo M) (by omega) ⟨by decide, by decide⟩)
  have FI := Lib.hid (fun w (M : Mo W w) => find_any l A c w (HS.out.row.mo M) (by omega) HS.out.inIv)
  have RV := Lib.hid (fun w (M : Mo W w) => HS.out.row.mo M)
  rw [HN.out] at OF WI FI
  clear c0 c1
  go_wp2_with fail
  refine OF.out.mono ?_
  rintro e w1 ⟨v1, rfl, O1, M1⟩
  obtain ⟨A1, c1, rfl, R1⟩ := own_ivs O1 HN.out
  have RM := Lib.hid (rmay_any l A1 c1 w1 R1 (by omega))
  rw [HN.out] at RM
  clear O1 R1 OF
  go_wp2_with fail
  refine RM.out.mono ?_
  rintro e w2 ⟨⟨b, rfl, hb'⟩, M2⟩
  have N2 := M1.trans M2
  have HB := Lib.hid hb'
  clear hb' RM M2 M1
  cases b with
  | false =>
    go_wp2_with fail
    refine (HW.out _).mono ?_
    rintro e w9 ⟨rfl, M9⟩
    go_wp2_with fail
    go_ret
    exact ⟨rfl, N2.trans ((Mor.out : Mo w2 _).trans M9)⟩
  | true =>
  have MY := Lib.hid (HB.out.1 (by first | rfl | trivial))
  clear HB
  go_wp2_with fail
  refine (WI.out _ (N2.trans Mor.out)).mono ?_
  rintro e w3 ⟨⟨b, rfl, hb'⟩, M3⟩
  have N3 := N2.trans ((Mor.out : Mo w2 _).trans M3)
  have HB := Lib.hid hb'
  clear hb' WI M3 N2
  cases b with
  | false =>
    go_wp2_with fail
    refine (HW.out _).mono ?_
    rintro e w9 ⟨rfl, M9⟩
    go_wp2_with fail
    go_ret
    exact ⟨rfl, N3.trans ((Mor.out : Mo w3 _).trans M9)⟩
  | true =>
  have WH := Lib.hid (HB.out.1 (by first | rfl | trivial))
  clear HB
  go_wp2_with fail
  refine (FI.out _ (N3.trans Mor.out)).mono ?_
  intro e w4 h4
  obtain ⟨xa, xb, xf, xA, xn, xc, xe, rfl, fis⟩ := found_is (by omega) MY.out h4
  have N4 := N3.trans ((Mor.out : Mo w3 _).trans h4.1)
  have FX := Lib.hid fis
  clear fis h4 N3 FI
  have mk := make_ints N (by omega)
  go_upto_region 5 with (fail)
  refine wp_name ?_
  intro w5 hw5
  have B7 : Blk w5 w4.heap.size 30 (fdC xa xb xf (.slice xA xn xc)) := by rw [hw5]; infer_instance
  have BL : Blk w5 (w4.heap.size + 1) 3 (i64L (leftI N 0)).toArray := by rw [hw5]; infer_instance
  have M5 : Mo w4 w5 := by rw [hw5]; exact Mor.out
  clear hw5 mk
  obtain ⟨g7, hg7⟩ : ∃ g, w4.heap.size = g := ⟨_, rfl⟩
  rw [hg7] at B7 BL ⊢
  have HG7 := Lib.hid hg7
  clear hg7
  go_wp2_with fail
  go_loopw [56] (fun s w => ∃ j : Nat, j ≤ N ∧ s = .int .i64 j ∧ Blk w (g7 + 1) 3 (i64L (leftI N j)).toArray ∧ KpS (fun i => i = g7 + 1) w5 w) (fun s _ => N - (intOf s).toNat)
  case atStart => exact ⟨0, by omega, rfl, BL, KpS.refl _ _⟩
  case round =>
    clear BL
    obtain ⟨j, hj, rfl, BL, hK⟩ := hrel
    by_cases cj : j < N
    · as_aux_lemma =>
      have i1 : (0 : Int) ≤ j := by omega
      have i2 : (j : Int) < N := by omega
      have yl : ((i64L (leftI N j)).toArray : Array Value)[j]? = some (.int .i64 0) := by
        rw [List.getElem?_toArray, i64_get (by rw [leftI_length]; exact cj)]
        unfold leftI
        simp
      have SB := Lib.hid (blk_setCell BL j (.int .i64 (j : Int)))
      rw [leftI_set N j cj] at SB
      go_wp2_with fail
      go_roundw
      case rel => exact ⟨j + 1, by omega, by go_num, SB.out, hK.cell rfl j _⟩
      case measure => simp [intOf]; omega
    · obtain rfl : j = N := by omega
      have C7 : Blk wr g7 30 (fdC xa xb xf (.slice xA xn xc)) := hK.blk B7 (by omega)
      have ML : Mo w4 wr := hK.mo M5 (fun k _ q => by have := HG7.out; omega)
      rw [leftI_all] at BL
      have LO := blk_left BL (by rw [natI_length, List.length_range]) (by unfold maxLen; omega) (show g7 ≤ g7 + 1 by omega)
      have LL : g7 + 1 < wr.heap.size := BL.lt
      clear hK B7 M5 BL cj hj
      obtain ⟨wL, hwL⟩ : ∃ w, wr = w := ⟨_, rfl⟩
      rw [hwL] at C7 ML LO LL ⊢
      clear hwL wr
      obtain ⟨i0, hi0, hz0, hz1, hz2⟩ := info_parts infoInt
      go_wp2_with fail
      go_loopw [9, 11, 66] (fun s9 vO s w => ∃ (k n : Nat) (O L2 : List Nat), k ≤ T ∧ s = .int .i64 k ∧ s9 = .slice (some ⟨g7 + 1, 0, none⟩) n j ∧ L2.length = n ∧ (O ++ L2).Perm (List.range j) ∧ w.ownsRow wL.heap.size 3 1 vO O.length (i64L (natI O)) ∧
        w.ownsRow g7 3 1 (.slice (some ⟨g7 + 1, 0, none⟩) n j) n (i64L (natI L2)) ∧ KpS (fun i => i = g7 + 1) wL w) (fun _ _ s _ => T - (intOf s).toNat)
      case atStart => exact ⟨0, j, [], List.range j, by omega, rfl, rfl, by simp, by simp, ⟨rfl, .inl ⟨rfl, rfl⟩⟩, LO, KpS.refl _ _⟩
      case round =>
        clear LO
        obtain ⟨k, n, O, L2, hk, rfl, rfl, hn, hP, hO, hL, hK⟩ := hrel
        have hOL : O.length + n = j := by
          have := hP.length_eq
          rw [List.length_append, List.length_range, hn] at this
          exact this
        have MR : Mo w4 wr := hK.mo ML (fun k _ q => by have := HG7.out; omega)
        by_cases ck : k < T
        · as_aux_lemma =>
          have hkl : k < ts.length := by rw [HTT.out]; exact ck
          obtain ⟨gt, ot, rfl, hc⟩ := HT.out.row.resolve_left (fun e => by rw [e] at hkl; simp at hkl)
          have y0 : wr.cell? ⟨gt, ot + k, none⟩ = some (.int .u8 ts[k]) := by
            have h0 := hc k hkl
            have : LtW gt W := LtW.of_cell h0
            rw [(N4.trans MR).cell, h0]
          have z0 := LtW.of_cell y0
          have ht := HT.out.ok ts[k] (List.getElem_mem hkl)
          obtain ⟨t, et⟩ : ∃ t, ts[k] = t := ⟨_, rfl⟩
          rw [et] at y0 ht
          have i1 : (0 : Int) ≤ k := by omega
          have i2 : (k : Int) < T := by omega
          clear hc hkl et
          by_cases cn : 0 < n
          · have d2 : decide ((0 : Int) < n) = true := decide_eq_true (by omega)
            have wt : IntKind.i64.wrap t = t := by rw [IntKind.wrap_i64]; omega
            have r0 : 0 ≤ t % (n : Int) := Int.emod_nonneg _ (by omega)
            have r1 : t % (n : Int) < n := Int.emod_lt_of_pos _ (by omega)
            obtain ⟨i, hi⟩ : ∃ i : Nat, t % (n : Int) = i := ⟨(t % (n : Int)).toNat, by omega⟩
            have hin : i < n := by omega
            have nz : ¬ (n : Int) = 0 := by omega
            have nz' : ¬ n = 0 := by omega
            have tn : Int.tmod t n = i := by rw [Int.tmod_eq_emod_of_nonneg ht.1]; exact hi
            have hLi : i < L2.length := by omega
            have yL := own_cell64 hL i _ (natI_get hLi)
            rw [Nat.zero_add] at yL
            have zL := LtW.of_cell yL
            have PP := Lib.hid (perm_step hP hLi)
            obtain ⟨q, hq⟩ : ∃ q, L2[i] = q := ⟨_, rfl⟩
            rw [hq] at yL PP
            obtain ⟨va, wa, hrun, Oa, Ga, -, -⟩ := run_append_own_at (P := Try.prog) (wr.alloc (.cells #[.int .i64 (q : Int)] 3)) wL.heap.size 28 28 3 i0 (.int .i64 0) 1 8 Try.underlying28 hi0 hz0 hz1 hz2 rfl (by decide) _ _ _ (owns_mo hO (Mor.out : Mo wr (wr.alloc (.cells #[.int .i64 (q : Int)] 3)))) ⟨wr.heap.size, 0, none⟩ 1 1 [.int .i64 (q : Int)] rfl (news_of_blk (inferInstance : Blk (wr.alloc (.cells #[.int .i64 (q : Int)] 3)) wr.heap.size 3 #[.int .i64 (q : Int)]) _ rfl) (by simp [Value.oneCell']) (by unfold maxLen; omega) (by omega) (by have := hK.size; simp; omega)
            replace hrun : (app28 #[28, 28] 28 #[u11, .slice (some ⟨wr.heap.size, 0, none⟩) 1 1]).run Try.prog (wr.alloc (.cells #[.int .i64 (q : Int)] 3)) = .ok va wa := hrun
            have La := owns_sep (owns_mo hL (Mor.out : Mo wr (wr.alloc (.cells #[.int .i64 (q : Int)] 3)))) Ga (fun k e1 e2 => by
              have h1 := (hO.lt k e2).1
              have h2 : g7 + 1 = k := by simpa [Value.ownBlock] using e1
              omega)
            have HD := Lib.hid (delete_own g7 (g7 + 1) j n i (natI L2) wa (by rw [natI_length]; exact hn) hin La)
            rw [natI_cut] at HD
            have KA : KpS (fun i => i = g7 + 1) wL wa := KpS.grown (hK.trans (KpS.of_mo (Mor.out : Mo wr (wr.alloc (.cells #[.int .i64 (q : Int)] 3)))) fun _ _ q => q) Ga (fun k e => .inl (hO.lt k e).1)
            have OA' : Hid (wa.ownsRow wL.heap.size 3 1 va (O ++ [q]).length (i64L (natI (O ++ [q])))) := Lib.hid (by rw [List.length_append, natI_app]; exact Oa)
            have KK := Lib.hid KA
            have wi : IntKind.i64.wrap ((i : Int) + 1) = i + 1 := by rw [IntKind.wrap_i64]; omega
            have i3 : (0 : Int) ≤ i := by omega
            have i4 : (i : Int) < n := by omega
            have LN : Hid ((L2.take i ++ L2.drop (i + 1)).length = n - 1) := Lib.hid (by rw [List.length_append, List.length_take, List.length_drop]; omega)
            clear Ga La KA Oa hO hL hP hq r0 r1
            go_wp2_with fail
            refine HD.out.mono ?_
            rintro e w6 ⟨rfl, L6, G6⟩
            have O6 := owns_row OA'.out G6 (fun k e1 e2 => by
              have h1 := (OA'.out.lt k e1).1
              injection e2 with e2
              omega)
            have K6 := KpS.grown KK.out G6 (fun k e => .inr (by injection e with e; exact e.symm))
            have L6' := Lib.hid L6
            have O6' := Lib.hid O6
            clear L6 G6 O6 HD OA' KK
            go_wp2_with fail
            go_roundw
            case rel => exact ⟨k + 1, n - 1, O ++ [q], L2.take i ++ L2.drop (i + 1), by omega, by go_num, rfl, LN.out, PP.out, O6'.out, L6'.out, K6⟩
            case measure => simp [intOf]; omega
          · have d2 : decide ((0 : Int) < n) = false := decide_eq_false (by omega)
            go_wp2_with fail
            go_roundw
            case rel => exact ⟨k + 1, n, O, L2, by omega, by go_num, rfl, hn, hP, hO, hL, hK⟩
            case measure => simp [intOf]; omega
        · obtain rfl : k = T := by omega
          obtain ⟨O', hO'⟩ : ∃ X, O ++ L2 = X := ⟨_, rfl⟩
          rw [hO'] at hP
          obtain ⟨vb, wb, hrun, Ob, Gb, -, -⟩ := run_append_own_at (P := Try.prog) wr wL.heap.size 28 28 3 i0 (.int .i64 0) 1 8 Try.underlying28 hi0 hz0 hz1 hz2 rfl (by decide) _ _ _ hO ⟨g7 + 1, 0, none⟩ n j (i64L (natI L2)) (by rw [i64L_length, natI_length, hn, Nat.mul_one]) (fun x u hx => by rw [Go.WideShapes.add_plain]; exact own_cell64 hL x u hx) (i64L_one _) (by unfold maxLen; omega) (by omega) hK.size
          replace hrun : (app28 #[28, 28] 28 #[u11, .slice (some ⟨g7 + 1, 0, none⟩) n j]).run Try.prog wr = .ok vb wb := hrun
          rw [← natI_app, hO', hOL] at Ob
          have lO' : O'.length = j := by have := hP.length_eq; rwa [List.length_range] at this
          obtain ⟨AO, cO, rfl, RO⟩ := own_ints Ob (by rw [natI_length]; exact lO')
          have KB := KpS.grown hK Gb (fun k e => .inl (hO.lt k e).1)
          have MB : Mo w4 wb := KB.mo ML (fun k _ q => by have := HG7.out; omega)
          have D7 : Blk wb g7 30 (fdC xa xb xf (.slice xA xn xc)) := KB.blk C7 (by omega)
          have HP := Lib.hid hP
          have RO' := Lib.hid RO
          clear Ob Gb KB hO hL hK hP RO C7 ML LL MR hOL hn hO' ck hk
          go_upto_region 21 with (fail)
          clear hrun
          obtain ⟨iv0, hv0, vz0, vz1, vz2⟩ := info_parts infoIv
          have wby : IntKind.i64.wrap by_ = by_ := by rw [IntKind.wrap_i64]; omega
          go_wp2_with fail
          go_loopw [16, 96] (fun vM s w => ∃ m : Nat, m ≤ j ∧ s = .int .i64 m ∧ w.ownsRow wb.heap.size 27 2 vM m (ivL (movedL l by_ (O'.take m))) ∧ Mo wb w) (fun _ s _ => j - (intOf s).toNat)
          case atStart => exact ⟨0, by omega, rfl, ⟨rfl, .inl ⟨rfl, rfl⟩⟩, Mo.refl _⟩
          case round =>
            obtain ⟨m, hm, rfl, hV, hM⟩ := hrel
            by_cases cm : m < j
            · as_aux_lemma =>
              have hml : m < O'.length := by omega
              obtain ⟨go, oo, rfl, hc⟩ := (RO'.out.mo hM).resolve_left (fun e => by have := natI_length O'; rw [e] at this; simp at this; omega)
              have yo := hc m (by rw [natI_length]; exact hml)
              have ei : (natI O')[m]'(by rw [natI_length]; exact hml) = ((O'[m] : Nat) : Int) := by unfold natI; rw [List.getElem_map]
              rw [ei] at yo
              have zo := LtW.of_cell yo
              have hil : O'[m] < l.length := by have := List.mem_range.1 (HP.out.mem_iff.1 (List.getElem_mem hml)); rw [HN.out]; exact this
              have MV : Hid (movedL l by_ (O'.take (m + 1)) = movedL l by_ (O'.take m) ++ [⟨l[O'[m]].lo + by_, l[O'[m]].hi + by_⟩]) := Lib.hid (by
                unfold movedL
                rw [List.take_add_one, List.getElem?_eq_getElem hml, List.map_append]
                simp [shI, List.getD, List.getElem?_eq_getElem hil])
              have bd := WH.out l[O'[m]] (List.getElem_mem hil)
              have my := MY.out l[O'[m]] (List.getElem_mem hil)
              obtain ⟨g, off, rfl, hcl⟩ := HS.out.row.resolve_left (fun e => by rw [e] at hil; simp at hil)
              obtain ⟨y0, y1⟩ := ivS_at hcl ((N4.trans MB).trans hM) hil
              have z0 := LtW.of_cell y0
              obtain ⟨i, hi⟩ : ∃ i, O'[m] = i := ⟨_, rfl⟩
              have i1 : (0 : Int) ≤ m := by omega
              have i2 : (m : Int) < j := by omega
              have i3 : (0 : Int) ≤ i := by omega
              have i4 : (i : Int) < j := by have := HN.out; omega
              clear hc ei hcl
              obtain ⟨lo, elo⟩ : ∃ x, l[O'[m]].lo = x := ⟨_, rfl⟩
              obtain ⟨hi', ehi⟩ : ∃ x, l[O'[m]].hi = x := ⟨_, rfl⟩
              rw [elo] at y0 MV bd my
              rw [ehi] at y1 MV bd my
              rw [hi] at y0 y1 yo
              have wa : IntKind.i64.wrap (lo + by_) = lo + by_ := by rw [IntKind.wrap_i64]; omega
              have wc' : IntKind.i64.wrap (hi' + by_) = hi' + by_ := by rw [IntKind.wrap_i64]; omega
              clear elo ehi hi hil hml bd my
              obtain ⟨nl, hnl⟩ : ∃ x, lo + by_ = x := ⟨_, rfl⟩
              obtain ⟨nh, hnh⟩ : ∃ x, hi' + by_ = x := ⟨_, rfl⟩
              have hnl' := hnl
              have hnh' := hnh
              rw [hnl] at MV
              rw [hnh] at MV
              replace wa : IntKind.i64.wrap (lo + by_) = nl := wa.trans hnl
              replace wc' : IntKind.i64.wrap (hi' + by_) = nh := wc'.trans hnh
              clear hnl hnh hnl' hnh'
              have bO : wb.heap.size ≤ wr.heap.size := hM.size
              obtain ⟨vm, wm, hrun, Om, Gm, -, -⟩ := run_append_own_at (P := Try.prog) ((wr.alloc (.cells #[.int .i64 nl, .int .i64 nh] 27)).drew) wb.heap.size 22 22 27 iv0 (.agg #[.int .i64 0, .int .i64 0]) 2 16 Try.underlying22 hv0 vz0 vz1 vz2 rfl (by decide) _ _ _ (owns_mo hV (Mor.out : Mo wr ((wr.alloc (.cells #[.int .i64 nl, .int .i64 nh] 27)).drew))) ⟨wr.heap.size, 0, none⟩ 1 1 [.int .i64 nl, .int .i64 nh] rfl (news_of_blk (inferInstance : Blk ((wr.alloc (.cells #[.int .i64 nl, .int .i64 nh] 27)).drew) wr.heap.size 27 #[.int .i64 nl, .int .i64 nh]) _ rfl) (by simp [Value.oneCell']) (by unfold maxLen; omega) (by omega) (by simp; omega)
              replace hrun : (app28 #[22, 22] 22 #[u16, .slice (some ⟨wr.heap.size, 0, none⟩) 1 1]).run Try.prog ((wr.alloc (.cells #[.int .i64 nl, .int .i64 nh] 27)).drew) = .ok vm wm := hrun
              have MM : Mo wb wm := mo_grown (hM.trans (Mor.out : Mo wr ((wr.alloc (.cells #[.int .i64 nl, .int .i64 nh] 27)).drew))) Gm (fun k e => (hV.lt k e).1)
              have OM : Hid (wm.ownsRow wb.heap.size 27 2 vm (m + 1) (ivL (movedL l by_ (O'.take (m + 1))))) := Lib.hid (by rw [MV.out, ivL_snoc]; exact Om)
              clear Gm Om hV MV
              go_upto_region 25 with (fail)
              go_region
              go_wp2_with fail
              go_roundw
              case rel => exact ⟨m + 1, by omega, by go_num, OM.out, MM⟩
              case measure => simp [intOf]; omega
            · obtain rfl : m = j := by omega
              have eT : O'.take m = O' := List.take_of_length_le (by omega)
              rw [eT] at hV
              obtain ⟨ML', hML⟩ : ∃ X, movedL l by_ O' = X := ⟨_, rfl⟩
              have lM : ML'.length = m := by rw [← hML]; unfold movedL; rw [List.length_map]; exact lO'
              have hP2 : O'.Perm (List.range l.length) := by rw [HN.out]; exact HP.out
              have pM : ML'.Perm (l.map (shI by_)) := by rw [← hML]; exact moved_perm by_ hP2
              have myM : MayL ML' := may_perm pM.symm (may_sh by_ MY.out)
              have inM : InIv ML' := fun x hx => by
                obtain ⟨y, hy, rfl⟩ := List.mem_map.1 (pM.mem_iff.1 hx)
                have h1 := WH.out y hy
                have h2 := MY.out y hy
                show -9223372036854775808 ≤ y.lo + by_ ∧ y.hi + by_ ≤ 9223372036854775807
                omega
              rw [hML] at hV
              obtain ⟨AM, cM, rfl, RMv⟩ := own_ivs hV lM
              have FM := Lib.hid (fun w (M : Mo wr w) => find_any ML' AM cM w (RMv.mo M) (by omega) inM)
              rw [lM] at FM
              have MBR : Mo w4 wr := MB.trans hM
              have E7 := hM.blk D7
              have RO2 := Lib.hid (RO'.out.mo hM)
              clear hV RMv RO' D7 MB hM cm hm
              have MYM := Lib.hid myM
              have LM := Lib.hid lM
              have HML := Lib.hid hML
              have HP2 := Lib.hid hP2
              clear myM inM lM hML hP2 pM eT
              go_wp2_with fail
              refine (FM.out _ Mor.out).mono ?_
              intro e w5' h5
              obtain ⟨ya, yb, yf, yA, yn, yc, ye, rfl, fis⟩ := found_is (by have := LM.out; omega) MYM.out h5
              have M5' : Mo wr w5' := (Mor.out : Mo wr _).trans h5.1
              have FY := Lib.hid fis
              have F7 := M5'.blk E7
              have RO3 := Lib.hid (RO2.out.mo M5')
              have M45 := MBR.trans M5'
              clear fis h5 FM E7 RO2
              rcases FX.out with ⟨rfl, f0, rfl, hf, hxn, hxr⟩ | ⟨rfl, hf⟩
              · have FYY : ye = 0 ∧ ya = xa + by_ ∧ yb = xb + by_ ∧ yf = f0 ∧ yn = (trueL ML' ⟨xa + by_, xb + by_⟩).length ∧ IntRow w5' yA (natI (trueL ML' ⟨xa + by_, xb + by_⟩)) := by
                  have k1 : IsFind ML' (some (⟨xa + by_, xb + by_⟩, f0)) := by rw [← HML.out]; exact find_moved by_ HP2.out hf
                  rcases FY.out with ⟨q1, f1, q2, q3, q4, q5⟩ | ⟨q1, q2⟩
                  · have := isFind_uniq k1 q3
                    injection this with this
                    injection this with q6 q7
                    injection q6 with q8 q9
                    subst q8 q9 q7
                    exact ⟨q1, rfl, rfl, q2, q4, q5⟩
                  · have := isFind_uniq k1 q2
                    cases this
                obtain ⟨rfl, rfl, rfl, rfl, hyn, hyr⟩ := FYY
                have HF := Lib.hid hf
                have HYR := Lib.hid hyr
                have HXN := Lib.hid hxn
                have HYN := Lib.hid hyn
                clear FY hf hyr hxn hyn
                obtain ⟨YT, hYT⟩ : ∃ Y, trueL ML' ⟨xa + by_, xb + by_⟩ = Y := ⟨_, rfl⟩
                have HYT := Lib.hid hYT
                rw [hYT] at HYR HYN
                have YB : Hid (∀ q ∈ YT, q < m) := Lib.hid (fun q hq => by
                  rw [← hYT] at hq
                  unfold trueL at hq
                  have := List.mem_range.1 (List.mem_filter.1 hq).1
                  rwa [LM.out] at this)
                have hyn := HYN.out
                have hy60 : yn ≤ m := by
                  rw [hyn, ← hYT]
                  have h1 := trueT_len ML' ⟨xa + by_, xb + by_⟩ ML'.length
                  rw [LM.out] at h1
                  have h2 := trueT_all ML' ⟨xa + by_, xb + by_⟩
                  rw [LM.out] at h2
                  rw [← h2]
                  exact h1
                have SW := Lib.hid (sort_who by_ HP2.out ⟨xa, xb⟩)
                rw [HML.out] at SW
                replace SW : Hid (sortL (natI (whoL O' YT)) = natI (trueL l ⟨xa, xb⟩)) := Lib.hid (by rw [← hYT]; exact SW.out)
                have EXY : Hid (yn = xn) := Lib.hid (by
                  have := (who_perm by_ HP2.out ⟨xa, xb⟩).length_eq
                  rw [HML.out] at this
                  unfold whoL at this
                  rw [List.length_map] at this
                  rw [hyn, HXN.out, ← hYT]
                  exact this)
                clear hYT hyn
                go_upto_region 31 with (fail)
                refine wp_name ?_
                intro wY hwY
                have G19 : Blk wY w5'.heap.size 30 (fdC (xa + by_) (xb + by_) (f0 : Nat) (.slice yA yn yc)) := by rw [hwY]; infer_instance
                have G7 : Blk wY g7 30 (fdC xa xb (f0 : Nat) (.slice xA xn xc)) := by rw [hwY]; infer_instance
                have MY5 : Mo w5' wY := by rw [hwY]; exact Mor.out
                clear hwY F7
                obtain ⟨g19, hg19⟩ : ∃ g, w5'.heap.size = g := ⟨_, rfl⟩
                rw [hg19] at G19 ⊢
                clear hg19
                have RO4 := Lib.hid (RO3.out.mo MY5)
                have RY4 := Lib.hid (HYR.out.mo MY5)
                have MW : Hid (Mo W wY) := Lib.hid ((N4.trans M45).trans MY5)
                have RX4 := Lib.hid (hxr.mo (M45.trans MY5))
                clear RO3 HYR hxr M45 MY5 M5' MBR FX N4
                go_wp2_with fail
                go_loopw [21, 142] (fun vW s w => ∃ q : Nat, q ≤ yn ∧ s = .int .i64 q ∧ w.ownsRow wY.heap.size 3 1 vW q (i64L (natI (whoL O' (YT.take q)))) ∧ Mo wY w) (fun _ s _ => yn - (intOf s).toNat)
                case atStart => exact ⟨0, by omega, rfl, ⟨rfl, .inl ⟨rfl, rfl⟩⟩, Mo.refl _⟩
                case round =>
                  obtain ⟨q, hq, rfl, hV, hM⟩ := hrel
                  by_cases cq : q < yn
                  · as_aux_lemma =>
                    have hql : q < YT.length := by rw [← HYN.out]; exact cq
                    obtain ⟨gy, oy, rfl, hcy⟩ := (RY4.out.mo hM).resolve_left (fun e => by have := natI_length YT; rw [e] at this; simp at this; omega)
                    have yy := hcy q (by rw [natI_length]; exact hql)
                    have ey : (natI YT)[q]'(by rw [natI_length]; exact hql) = ((YT[q] : Nat) : Int) := by unfold natI; rw [List.getElem_map]
                    rw [ey] at yy
                    have hkm := YB.out _ (List.getElem_mem hql)
                    have hkO : YT[q] < O'.length := by omega
                    obtain ⟨go, oo, rfl, hco⟩ := (RO4.out.mo hM).resolve_left (fun e => by have := natI_length O'; rw [e] at this; simp at this; omega)
                    have yo := hco YT[q] (by rw [natI_length]; exact hkO)
                    have eo : (natI O')[YT[q]]'(by rw [natI_length]; exact hkO) = ((O'[YT[q]] : Nat) : Int) := by unfold natI; rw [List.getElem_map]
                    rw [eo] at yo
                    have zy := LtW.of_cell yy
                    have zo := LtW.of_cell yo
                    have WN : Hid (whoL O' (YT.take (q + 1)) = whoL O' (YT.take q) ++ [O'[YT[q]]]) := Lib.hid (by
                      unfold whoL
                      rw [List.take_add_one, List.getElem?_eq_getElem hql, List.map_append]
                      simp [List.getD, List.getElem?_eq_getElem hkO])
                    obtain ⟨r, hr⟩ : ∃ r, O'[YT[q]] = r := ⟨_, rfl⟩
                    rw [hr] at yo WN
                    obtain ⟨y, hy⟩ : ∃ y, YT[q] = y := ⟨_, rfl⟩
                    rw [hy] at yy yo hkm
                    have i1 : (0 : Int) ≤ q := by omega
                    have i2 : (q : Int) < yn := by omega
                    have i3 : (0 : Int) ≤ y := by omega
                    have i4 : (y : Int) < m := by omega
                    have d3 : decide ((y : Int) < 0) = false := decide_eq_false (by omega)
                    have d4 : decide ((m : Int) ≤ y) = false := decide_eq_false (by omega)
                    have HV := Lib.hid hV
                    clear hcy hco ey eo hr hy hql hkO hkm hV
                    go_wp2_with (at_builtin; refine wpList_append_own _ rfl _ _ 28 rfl wY.heap.size 3 i0 (.int .i64 0) 1 8 Try.underlying28 hi0 hz0 hz1 hz2 rfl (by decide) _ _ _ rfl (owns_mo HV.out Mor.out) ⟨wr.heap.size, 0, none⟩ 1 1 [.int .i64 r] rfl rfl ?c1 ?c2 ?c3 ?c4 ?c5 ?_)
                    case c1 => exact cell_one_new _ _ _
                    case c2 => simp [Value.oneCell']
                    case c3 => unfold maxLen; omega
                    case c4 => omega
                    case c5 => have := hM.size; simp; omega
                    intro v' w7 hown1 hgrow _
                    have OW1 := Lib.hid hown1
                    have hM1 : Mo wY w7 := mo_grown (hM.trans Mor.out) hgrow (fun k e => (HV.out.lt k e).1)
                    clear hown1 hgrow HV
                    go_wp2_with fail
                    go_roundw
                    case rel => exact ⟨q + 1, by omega, by go_num, by rw [WN.out, natI_app]; exact OW1.out, hM1⟩
                    case measure => simp [intOf]; omega
                  · obtain rfl : q = yn := by omega
                    have eT : YT.take q = YT := List.take_of_length_le (by have := HYN.out; omega)
                    rw [eT] at hV
                    have hpos : 0 < q := by
                      have h1 := (least_of HF.out).many
                      have h2 := HF.out.1
                      have h3 := EXY.out
                      have h4 := HXN.out
                      omega
                    obtain ⟨q', rfl⟩ : ∃ q', q = q' + 1 := ⟨q - 1, by omega⟩
                    obtain ⟨gw, cw, rfl⟩ := row_succ hV
                    have lW : (natI (whoL O' YT)).length = q' + 1 := by rw [natI_length]; unfold whoL; rw [List.length_map]; exact HYN.out.symm
                    have SO := Lib.hid (fun w (M : Mo wr w) => sortInt_own wY.heap.size gw cw (natI (whoL O' YT)) w (by rw [lW]; exact owns_mo hV M) (by rw [lW]; omega))
                    rw [lW, SW.out] at SO
                    have GG := Lib.hid (fun k (e : (some gw : Option Nat) = some k) => (hV.lt k (by injection e with e; rw [e]; rfl)).1)
                    clear hV lW eT cq hq
                    go_wp2_with fail
                    refine (SO.out _ Mor.out).mono ?_
                    rintro e w8 ⟨rfl, O8, G8⟩
                    have M8 : Mo wY w8 := mo_grown (hM.trans Mor.out) G8 (fun k e => GG.out k e)
                    have G7' := M8.blk G7
                    have G19' := M8.blk G19
                    obtain ⟨gx, ox, rfl, hcx⟩ := HS.out.row.resolve_left (fun e => by have := HF.out.1; rw [e] at this; simp at this)
                    have CL := Lib.hid (fun w (M : Mo w8 w) => cloneIv_any l gx ox c w (by omega) (fun jj hjj => ivS_at hcx ((MW.out.trans M8).trans M) hjj))
                    rw [HN.out] at CL
                    have bX := agr_64 HS.out.ok HF.out.2.1
                    have hX := find_le HF.out
                    have inX : InIv (l ++ [⟨xa, xb⟩]) := fun x hx => by
                      rcases List.mem_append.1 hx with h | h
                      · exact HS.out.inIv x h
                      · rw [List.mem_singleton.1 h]; exact ⟨bX.1.1, bX.2.2⟩
                    have myX : MayL (l ++ [⟨xa, xb⟩]) := fun x hx => by
                      rcases List.mem_append.1 hx with h | h
                      · exact MY.out x h
                      · rw [List.mem_singleton.1 h]; exact hX
                    have FM := Lib.hid (fun v c w (h : IvRow w v (l ++ [⟨xa, xb⟩])) => find_any (l ++ [⟨xa, xb⟩]) v c w h (by rw [List.length_append]; simp; omega) inX)
                    have FO := Lib.hid (fun w w' e (h : TFindRet (l ++ [⟨xa, xb⟩]) w e w') => find_ok (by rw [List.length_append]; simp; omega) myX (find_one HF.out) h)
                    have TO := true_one (l := l) (i := ⟨xa, xb⟩) hX
                    rw [← HXN.out] at TO
                    rw [List.length_append, HN.out, List.length_singleton] at FM
                    have T3 := Lib.hid TO
                    have BX64 := Lib.hid bX
                    have O8' := Lib.hid O8
                    have L7 : g7 < w8.heap.size := G7'.lt
                    have x0 : w8.cell? ⟨g7, 0, none⟩ = some (.int .i64 xa) := by rw [blk_cell G7']; rfl
                    have x1 : w8.cell? ⟨g7, 1, none⟩ = some (.int .i64 xb) := by rw [blk_cell G7']; rfl
                    clear TO inX myX hX bX O8 hcx G7 G19
                    go_upto_region 39 with (fail)
                    go_cut [24, 25] (fun s24 s25 wx => ∃ g24 A3 c3, s24 = .pointer (some ⟨g24, 0, none⟩) ∧ s25 = .int .i64 0 ∧ Blk wx g24 30 (fdC xa xb (f0 : Nat) (.slice A3 (xn + 1) c3)) ∧ Mo w8 wx)
                    case first =>
                      as_aux_lemma =>
                      have n80 : ¬ g7 = w8.heap.size := by omega
                      have n81 : ¬ g7 = w8.heap.size + 1 := by omega
                      go_region_held3 (fun w' => w'.cell? ⟨g7, 0, none⟩ = some (.int .i64 xa) ∧ w'.cell? ⟨g7, 1, none⟩ = some (.int .i64 xb)) (first | (simp [go_sem]; done) | (simp [go_sem, x0, x1]; done) | (simp [go_sem, n80]; done) | (simp [go_sem, n81]; done) | (simp [go_sem, n90]; done) | (simp [go_sem, n91]; done) | (simp [go_sem, np0]; done))
                        (first
                          | ((with_reducible refine (CL.out _ Mor.out).mono ?_)
                             rintro e w9 ⟨gc, cc, rfl, OC, M9⟩
                             have iM9 : MoC _ w9 := ⟨M9⟩
                             have M89 := (Mor.out : Mo w8 _).trans M9
                             have iG7 := M89.blk G7'
                             have OC8 := owns_base OC (Mo.size (Mor.out : Mo w8 _))
                             have sz9 := M89.size
                             have n90 : ¬ g7 = w9.heap.size := by omega
                             have n91 : ¬ g7 = w9.heap.size + 1 := by omega)
                          | (refine step_own2 (by rfl) (.tmp 166) (.tmp 169) 22 (by rfl) w8.heap.size 27 iv0 (.agg #[.int .i64 0, .int .i64 0]) 2 16 Try.underlying22 hv0 vz0 vz1 vz2 rfl (by decide) _ _ _ (by rfl) (owns_mo OC8 Mor.out) _ 1 1 [.int .i64 xa, .int .i64 xb] (by rfl) (by rfl) (news_of_blk inferInstance _ rfl) (by simp [Value.oneCell']) (by unfold maxLen; omega) (by omega) (by have := M89.size; simp; omega) ?_
                             intro vp wp OP GP QP
                             have iGP : GrC _ wp := ⟨fun g cs b => blk_grown2 b (owns_mo OC8 Mor.out) GP (by decide)⟩
                             have MP := mo_grown (M89.trans Mor.out) GP (fun k e => (OC8.lt k e).1)
                             obtain ⟨AP, cP, rfl, RP⟩ := own_ivs (l := l ++ [⟨xa, xb⟩]) (by rw [ivL_snoc]; exact OP) (by rw [List.length_append, HN.out]; rfl)
                             have szp := MP.size
                             have np0 : ¬ g7 = wp.heap.size := by omega)
                          | ((with_reducible refine (FM.out _ _ _ (RP.mo Mor.out)).mono ?_)
                             intro e wf hf
                             obtain ⟨MF, vf, rfl, OFf⟩ := FO.out _ _ _ hf
                             rw [natL_eq] at OFf
                             obtain ⟨A3, c3, rfl, R3⟩ := own_ints OFf (natI_length _)
                             rw [T3.out]
                             have iMF : MoC _ wf := ⟨MF⟩
                             have M8F := MP.trans ((Mor.out : Mo wp _).trans MF)))
                      all_goals (
                        go_wp2_with fail
                        go_meet
                        refine ⟨_, A3, c3, rfl, rfl, ?_, ?_⟩
                        · first
                            | infer_instance
                            | exact blk_set4 (inferInstance : Blk wf _ 30 (fdC 0 0 0 (.slice none 0 0))) _ _ _ _
                        · first
                            | exact M8F.trans Mor.out
                            | exact mo_set4 M8F _ _ _ _ (by omega))
                    as_aux_lemma =>
                    obtain ⟨g24, A3, c3, rfl, rfl, B24, MC⟩ := hcut
                    have C7 := MC.blk G7'
                    have C19 := MC.blk G19'
                    have lT : (natI (trueL l ⟨xa, xb⟩)).length = q' + 1 := by rw [natI_length, ← HXN.out]; exact EXY.out.symm
                    obtain ⟨Aw, cw2, ew, Rw⟩ := own_ints O8'.out lT
                    injection ew with ew1 ew2 ew3
                    subst ew1 ew3
                    have EQ := Lib.hid (fun w (M : Mo wc w) => equalI_any (natI (trueL l ⟨xa, xb⟩)) (natI (trueL l ⟨xa, xb⟩)) _ xA cw xc w ((Rw.mo MC).mo M) ((RX4.out.mo (M8.trans MC)).mo M) (by rw [lT]; omega) (by rw [lT]; omega))
                    rw [lT, decide_eq_true rfl] at EQ
                    have wfa : IntKind.i64.wrap (xa + by_) = xa + by_ := by
                      obtain ⟨⟨⟨x, hx, ex⟩, _⟩, _⟩ := HF.out.2.1
                      simp only at ex
                      have h1 := WH.out x hx
                      have h2 := MY.out x hx
                      rw [IntKind.wrap_i64]; omega
                    have wfb : IntKind.i64.wrap (xb + by_) = xb + by_ := by
                      obtain ⟨_, ⟨⟨x, hx, ex⟩, _⟩⟩ := HF.out.2.1
                      simp only at ex
                      have h1 := WH.out x hx
                      have h2 := MY.out x hx
                      rw [IntKind.wrap_i64]; omega
                    have q0 : ∀ w, (eqT (.agg #[.int .i64 xa, .int .i64 xb]) (.agg #[.int .i64 xa, .int .i64 xb])).run Try.prog w = .ok (.bool true) w := eqT_same BX64.out.1 BX64.out.2
                    have exn := EXY.out
                    subst exn
                    have wfc : IntKind.i64.wrap (((q' + 1 : Nat) : Int) + 1) = ((q' + 1 : Nat) : Int) + 1 := by rw [IntKind.wrap_i64]; omega
                    have wfd : IntKind.i64.wrap ((q' : Int) + 1 + 1) = (q' : Int) + 1 + 1 := by rw [IntKind.wrap_i64]; omega
                    clear lT Rw ew2
                    go_wp2_with fail
                    refine (EQ.out _ (Mo.refl _)).mono ?_
                    rintro e wd ⟨rfl, MD⟩
                    have D7 := MD.blk C7
                    have D19 := MD.blk C19
                    have D24 := MD.blk B24
                    clear C7 C19 B24 EQ
                    go_wp2_with fail
                    refine (HW.out _).mono ?_
                    rintro e w9 ⟨rfl, M9⟩
                    go_wp2_with fail
                    go_ret
                    exact ⟨rfl, MW.out.trans (M8.trans (MC.trans (MD.trans M9)))⟩
              · as_aux_lemma =>
                have FYY : ye = 4 := by
                  have k1 : IsFind ML' none := by rw [← HML.out]; exact find_moved by_ HP2.out hf
                  rcases FY.out with ⟨q1, f1, q2, q3, q4, q5⟩ | ⟨q1, q2⟩
                  · have := isFind_uniq k1 q3
                    cases this
                  · exact q1
                subst FYY
                clear FY
                go_wp2_with fail
                refine (HW.out _).mono ?_
                rintro e w9 ⟨rfl, M9⟩
                go_wp2_with fail
                go_ret
                exact ⟨rfl, (N4.trans M45).trans ((Mor.out : Mo w5' _).trans M9)⟩
end Go.Proofs.Ytdppkbnjedehbaa
