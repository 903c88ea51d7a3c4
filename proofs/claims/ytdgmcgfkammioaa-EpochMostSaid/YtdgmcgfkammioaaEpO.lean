/- horologelaw35.EpochMost: the walk. -/
import Derived.Test.YtdgmcgfkammioaaEpI
namespace Go.Proofs.Ytdgmcgfkammioaa
open Go.RowKit Go.Maps

set_option maxRecDepth 20000 in
theorem intT_at {w : World} {A : Option Addr} {xs : List Nat} (h : IntT w A (natI xs)) {q : Nat} (hq : q < xs.length) : ∃ g off, A = some ⟨g, off, none⟩ ∧ LtW g w ∧ ∀ j (hj : j < xs.length), w.cell? ⟨g, off + j, none⟩ = some (.int .i64 (xs[j] : Nat)) := by
  rcases h.row with e | ⟨g, off, e, hc⟩
  · have l0 := natI_length xs
    rw [e] at l0
    have : (0 : Nat) = xs.length := l0
    omega
  · have k : ∀ j (hj : j < xs.length), w.cell? ⟨g, off + j, none⟩ = some (.int .i64 (xs[j] : Nat)) := fun j hj => by
      have := hc j (by rw [natI_length]; exact hj)
      rwa [natI_get35 hj] at this
    exact ⟨g, off, e, LtW.of_cell (k q hq), k⟩
set_option maxRecDepth 20000 in
instance row_bits : RowT 69 16 := ⟨by kernel_rfl, by kernel_rfl⟩
attribute [local go_sem] blk_cell' blk_frozen'
attribute [local go_sem ↓] loadF_ep storeF_ep loadF_bits storeF_bits buildF_bits
attribute [local go_sem] run_loadF0 run_storeF0 run_build_bits0
set_option maxRecDepth 20000 in
set_option maxHeartbeats 16000000 in
theorem most35_any (A : Option Addr) (cap L : Nat) (l : List PtS) (W : World) (hL : l.length = L) (h : PutsS W A cap l) :
    Calls Try.prog 8 #[.slice A L cap] W fun e w' => e = .returned (.bool true) ∧ Mo W w' := by
  have WK := Lib.hid works35_any
  by_cases c : 100 < L
  · have d1 : decide ((100 : Int) < L) = true := decide_eq_true (by omega)
    have d1' : decide (100 < L) = true := decide_eq_true c
    clear h hL c
    go_enter Try.func8, Try.ntmps8
    go_wp2_with fail
    refine (WK.out _).mono ?_
    rintro e w1 ⟨rfl, M1⟩
    go_wp2_with fail
    go_ret
    exact ⟨rfl, (Mor.out : Mo W _).trans (M1.trans Mor.out)⟩
  have d1 : decide ((100 : Int) < L) = false := decide_eq_false (by omega)
  have d1' : decide (100 < L) = false := decide_eq_false c
  have GA := Lib.hid (fun w (m : Mo W w) => going_any A cap L l 0 0 w hL (h.mo m) (by omega) (by omega) (by omega))
  have HGD := Lib.hid (fun Es (t : TG (grpG (goS 0 0 l)) Es) => going_good t)
  have HLn := Lib.hid (fun Es (t : TG (grpG (goS 0 0 l)) Es) => t.1)
  have HDn := Lib.hid (goS_done 0 0 l L)
  have ETk : l.take L = l := List.take_of_length_le (by omega)
  rw [ETk] at HDn
  have L100 : Hid (L ≤ 100) := Lib.hid (by omega)
  clear h hL c ETk
  go_enter Try.func8, Try.ntmps8
  go_wp2_with fail
  refine (GA.out _ Mor.out).mono ?_
  rintro e w1 ⟨v, Es, CL, rfl, HA, HT, M1⟩
  have N1 : Mo W w1 := (Mor.out : Mo W _).trans M1
  have HGE := Lib.hid (HGD.out Es HT)
  obtain ⟨A9, c9, rfl⟩ := own_slE HA.row
  have HA' := Lib.hid HA
  obtain ⟨N, hN⟩ : ∃ N, Es.length = N := ⟨_, rfl⟩
  have HN := Lib.hid hN
  have N101 : N ≤ 101 := by
    have h1 := HLn.out Es HT
    have h2 := HDn.out
    have h3 : (grpG (goS 0 0 l)).length ≤ (goS 0 0 l).done.length + 1 := by
      unfold grpG
      split
      · exact Nat.le_succ _
      · rw [List.length_append]; exact Nat.le_refl _
    have h4 := L100.out
    omega
  clear HA HT GA HGD HLn HDn M1 d1 d1' L100
  rw [hN] at HA' ⊢
  clear hN
  go_wp2_with fail
  go_loopw [26] (fun i wr => ∃ j : Nat, j ≤ N ∧ i = .int .i64 j ∧ Mo w1 wr) (fun i _ => N - (intOf i).toNat)
  case atStart => exact ⟨0, by omega, rfl, Mor.out⟩
  case round =>
    obtain ⟨j, hj, rfl, hM⟩ := hrel
    by_cases cj : j < N
    · have hjl : j < Es.length := by rw [HN.out]; exact cj
      have GE := Lib.hid (HGE.out j hjl)
      obtain ⟨g, c2, A1, k1, A2, k2, ev, J1, J2, ld⟩ := HA'.out.get j hjl
      rw [HN.out] at ev
      injection ev with ev ev' ev''
      subst ev ev''
      generalize Es[j] = E at *
      have ld' : ∀ J d, (loadF 38 (.pointer (some ⟨g, j * 7, none⟩))).run Try.prog (more wr J d) = .ok (.agg (eC E A1 k1 A2 k2)) (more wr J d) := fun J d => ld _ (hM.trans Mor.out)
      have ld0 : (loadF 38 (.pointer (some ⟨g, j * 7, none⟩))).run Try.prog wr = .ok (.agg (eC E A1 k1 A2 k2)) wr := ld _ hM
      have e0 : (0 : Int) ≤ j := by omega
      have e1 : (j : Int) < N := by omega
      have hw : IntKind.i64.wrap ((j : Int) + 1) = j + 1 := by rw [IntKind.wrap_i64]; omega
      have H1 := Lib.hid J1
      have H2 := Lib.hid J2
      clear J1 J2 ld hjl
      go_upto_region 10 with (fail)
      refine wp_name ?_
      intro w2 hw2
      have b6 : Blk w2 wr.heap.size 38 (eC E A1 k1 A2 k2) := by rw [hw2]; infer_instance
      have b7' : Blk w2 (wr.heap.size + 1) 69 bits0 := by rw [hw2]; infer_instance
      have b7 : Blk w2 (wr.heap.size + 1) 69 (inC []) := by rw [inC_nil]; exact b7'
      have M2 : Mo w1 w2 := by rw [hw2]; exact hM.trans Mor.out
      have gw := hM.size
      have lt6 := b7.lt
      generalize wr.heap.size = g6 at *
      clear hw2 b7' ld0 ld' hM
      obtain ⟨n, hn⟩ : ∃ n, E.srv.length = n := ⟨_, rfl⟩
      obtain ⟨m, hm⟩ : ∃ m, E.tr.length = m := ⟨_, rfl⟩
      have Hn := Lib.hid hn
      have Hm := Lib.hid hm
      have n16 : n ≤ 16 := by have := GE.out.le; omega
      have m16 : m ≤ 16 := by have := GE.out.tl; omega
      unfold eC at b6
      rw [hn, hm] at b6
      obtain ⟨C6, hC6⟩ : ∃ C : Array Value, (#[.int .i64 E.num, .slice A1 n k1, .bool E.maj, .int .i64 E.lo, .int .i64 E.hi, .int .i64 (E.fl : Nat), .slice A2 m k2] : Array Value) = C := ⟨_, rfl⟩
      have HC6 := Lib.hid hC6
      rw [hC6] at b6
      have q1 : C6[1]? = some (.slice A1 n k1) := by rw [← hC6]; rfl
      have q2 : C6[2]? = some (.bool E.maj) := by rw [← hC6]; rfl
      have q3 : C6[3]? = some (.int .i64 E.lo) := by rw [← hC6]; rfl
      have q4 : C6[4]? = some (.int .i64 E.hi) := by rw [← hC6]; rfl
      have q5 : C6[5]? = some (.int .i64 (E.fl : Nat)) := by rw [← hC6]; rfl
      have q6 : C6[6]? = some (.slice A2 m k2) := by rw [← hC6]; rfl
      clear hn hm hC6
      go_wp2_with fail
      go_loopw [34] (fun i wr => ∃ q : Nat, q ≤ n ∧ i = .int .i64 q ∧ Mo w1 wr ∧ Blk wr g6 38 C6 ∧ Blk wr (g6 + 1) 69 (inC (E.srv.take q)) ∧ Mo w1 wr) (fun i _ => n - (intOf i).toNat)
      case atStart => exact ⟨0, by omega, rfl, M2.trans Mor.out, inferInstance, by rw [List.take_zero]; infer_instance, M2.trans Mor.out⟩
      case round =>
        obtain ⟨q, hq, rfl, -, x6, x7, MX⟩ := hrel
        by_cases cq : q < n
        · skip
          have hql : q < E.srv.length := by rw [Hn.out]; exact cq
          obtain ⟨gs, os, eA, z0, hc⟩ := intT_at (H1.out.mo MX) hql
          subst eA
          have y := hc q hql
          have PV : q = 0 ∨ ∃ m' p, q = m' + 1 ∧ p < E.srv[q] ∧ wr.cell? ⟨gs, os + m', none⟩ = some (.int .i64 (p : Nat)) := by
            cases q with
            | zero => exact .inl rfl
            | succ m' =>
              have hm' : m' < E.srv.length := Nat.lt_of_succ_lt hql
              have y' := hc m' hm'
              exact .inr ⟨m', E.srv[m'], rfl, List.pairwise_iff_getElem.1 GE.out.so m' (m' + 1) hm' hql (Nat.lt_succ_self _), y'⟩
          have s16 : E.srv[q] < 16 := GE.out.s _ (List.getElem_mem hql)
          have tk : E.srv.take (q + 1) = E.srv.take q ++ [E.srv[q]] := by rw [List.take_add_one, List.getElem?_eq_getElem hql]; rfl
          have CS := inC_set (E.srv.take q) E.srv[q]
          rw [← tk] at CS
          have HCS := Lib.hid CS
          have CG := inC_get (E.srv.take q) E.srv[q] s16
          obtain ⟨bb, hbb⟩ : ∃ bb, decide (E.srv[q] ∈ E.srv.take q) = bb := ⟨_, rfl⟩
          rw [hbb] at CG
          have zc : SzA (inC (E.srv.take q)) 16 := ⟨inC_size _⟩
          clear CS tk hbb hc
          generalize E.srv[q] = s at *
          generalize inC (E.srv.take q) = CC at *
          have e2 : (0 : Int) ≤ q := by omega
          have e3 : (q : Int) < n := by omega
          have e4 : (0 : Int) ≤ s := by omega
          have e5 : (s : Int) < 16 := by omega
          have f1 : decide ((s : Int) < 0) = false := decide_eq_false (by omega)
          have f2 : decide ((15 : Int) < s) = false := decide_eq_false (by omega)
          have f2' : decide (15 < s) = false := decide_eq_false (by omega)
          have hw1 : IntKind.i64.wrap ((q : Int) + 1) = q + 1 := by rw [IntKind.wrap_i64]; omega
          rcases PV with q0 | ⟨m', p, qm, ps, y'⟩
          · have f3 : decide ((0 : Int) < q) = false := decide_eq_false (by omega)
            have f3' : decide (0 < q) = false := decide_eq_false (by omega)
            clear q0 hql
            go_upto_region 16 with (fail)
            refine wp_name ?_
            intro w3 hw3
            have hw3' : w3 = wr.setCell ⟨g6 + 1, s, none⟩ (.bool true) := by rw [hw3]
            have c6 : Blk w3 g6 38 C6 := by rw [hw3']; exact blk_setCell_ne x6 (by omega) _ _
            have c7 : Blk w3 (g6 + 1) 69 (inC (E.srv.take (q + 1))) := by rw [hw3', ← HCS.out]; exact blk_setCell x7 _ _
            have M3 : Mo w1 w3 := by rw [hw3']; exact mo_setCell MX (by omega) _ _
            clear hw3 hw3' x6 x7 MX y z0
            go_wp2_with fail
            go_roundw
            case rel => exact ⟨q + 1, by omega, by go_num, M3.trans Mor.out, inferInstance, inferInstance, M3.trans Mor.out⟩
            case measure => simp [intOf]; omega
          · have f3 : decide ((0 : Int) < q) = true := decide_eq_true (by omega)
            have f3' : decide (0 < q) = true := decide_eq_true (by omega)
            have f4 : decide ((s : Int) ≤ p) = false := decide_eq_false (by omega)
            have f4' : decide (s ≤ p) = false := decide_eq_false (by omega)
            have hw2 : IntKind.i64.wrap ((q : Int) - 1) = (m' : Nat) := by rw [IntKind.wrap_i64]; omega
            have e6 : (0 : Int) ≤ m' := by omega
            have e7 : (m' : Int) < n := by omega
            clear qm ps hql
            go_upto_region 16 with (fail)
            refine wp_name ?_
            intro w3 hw3
            have hw3' : w3 = wr.setCell ⟨g6 + 1, s, none⟩ (.bool true) := by rw [hw3]
            have c6 : Blk w3 g6 38 C6 := by rw [hw3']; exact blk_setCell_ne x6 (by omega) _ _
            have c7 : Blk w3 (g6 + 1) 69 (inC (E.srv.take (q + 1))) := by rw [hw3', ← HCS.out]; exact blk_setCell x7 _ _
            have M3 : Mo w1 w3 := by rw [hw3']; exact mo_setCell MX (by omega) _ _
            clear hw3 hw3' x6 x7 MX y z0
            go_wp2_with fail
            go_roundw
            case rel => exact ⟨q + 1, by omega, by go_num, M3.trans Mor.out, inferInstance, inferInstance, M3.trans Mor.out⟩
            case measure => simp [intOf]; omega
        · obtain rfl : n = q := by omega
          have et : E.srv.take n = E.srv := List.take_of_length_le (by rw [Hn.out]; exact Nat.le_refl _)
          rw [et] at x7
          clear et
          go_wp2_with fail
          clear M2 b6 b7 lt6
          go_loopw [65] (fun i wr => ∃ q : Nat, q ≤ m ∧ i = .int .i64 q ∧ Blk wr g6 38 C6 ∧ Blk wr (g6 + 1) 69 (inC E.srv) ∧ Mo w1 wr) (fun i _ => m - (intOf i).toNat)
          case atStart => exact ⟨0, by omega, rfl, inferInstance, inferInstance, MX.trans Mor.out⟩
          case round =>
            clear MX x6 x7
            obtain ⟨q, hq, rfl, x6, x7, MX⟩ := hrel
            by_cases cq : q < m
            · have hql : q < E.tr.length := by rw [Hm.out]; exact cq
              obtain ⟨gs, os, eA, z0, hc⟩ := intT_at (H2.out.mo MX) hql
              subst eA
              have y := hc q hql
              have PV : q = 0 ∨ ∃ m' p, q = m' + 1 ∧ p < E.tr[q] ∧ wr.cell? ⟨gs, os + m', none⟩ = some (.int .i64 (p : Nat)) := by
                cases q with
                | zero => exact .inl rfl
                | succ m' =>
                  have hm' : m' < E.tr.length := Nat.lt_of_succ_lt hql
                  have y' := hc m' hm'
                  exact .inr ⟨m', E.tr[m'], rfl, List.pairwise_iff_getElem.1 GE.out.tso m' (m' + 1) hm' hql (Nat.lt_succ_self _), y'⟩
              have sin := GE.out.t _ (List.getElem_mem hql)
              have s16 : E.tr[q] < 16 := GE.out.s _ sin
              have CG := inC_get E.srv E.tr[q] s16
              rw [decide_eq_true sin] at CG
              have zc : SzA (inC E.srv) 16 := ⟨inC_size _⟩
              clear hc sin
              generalize E.tr[q] = s at *
              generalize inC E.srv = CC at *
              have e2 : (0 : Int) ≤ q := by omega
              have e3 : (q : Int) < m := by omega
              have e4 : (0 : Int) ≤ s := by omega
              have e5 : (s : Int) < 16 := by omega
              have f1 : decide ((s : Int) < 0) = false := decide_eq_false (by omega)
              have f2 : decide ((15 : Int) < s) = false := decide_eq_false (by omega)
              have f2' : decide (15 < s) = false := decide_eq_false (by omega)
              have hw1 : IntKind.i64.wrap ((q : Int) + 1) = q + 1 := by rw [IntKind.wrap_i64]; omega
              rcases PV with q0 | ⟨m', p, qm, ps, y'⟩
              · have f3 : decide ((0 : Int) < q) = false := decide_eq_false (by omega)
                have f3' : decide (0 < q) = false := decide_eq_false (by omega)
                clear q0 hql
                go_wp2_with fail
                go_roundw
                case rel => exact ⟨q + 1, by omega, by go_num, inferInstance, inferInstance, MX.trans Mor.out⟩
                case measure => simp [intOf]; omega
              · have f3 : decide ((0 : Int) < q) = true := decide_eq_true (by omega)
                have f3' : decide (0 < q) = true := decide_eq_true (by omega)
                have f4 : decide ((s : Int) ≤ p) = false := decide_eq_false (by omega)
                have f4' : decide (s ≤ p) = false := decide_eq_false (by omega)
                have hw2 : IntKind.i64.wrap ((q : Int) - 1) = (m' : Nat) := by rw [IntKind.wrap_i64]; omega
                have e6 : (0 : Int) ≤ m' := by omega
                have e7 : (m' : Int) < m := by omega
                clear qm ps hql
                go_wp2_with fail
                go_roundw
                case rel => exact ⟨q + 1, by omega, by go_num, inferInstance, inferInstance, MX.trans Mor.out⟩
                case measure => simp [intOf]; omega
            · obtain rfl : m = q := by omega
              have NE := GE.out.ne
              rw [Hn.out] at NE
              have g1 : ((n : Int) == 0) = false := by simp; omega
              have g2 : decide ((n : Int) = 0) = false := decide_eq_false (by omega)
              have g3 : decide (n = 0) = false := decide_eq_false (by omega)
              have g4 : (n == 0) = false := by simp; omega
              cases hmj : E.maj with
              | false =>
                obtain ⟨a1, a2, a3, a4, a5⟩ := GE.out.no hmj
                rw [Hn.out] at a5
                have a6 : m = 0 := by rw [← Hm.out, a4]; rfl
                rw [hmj] at q2
                rw [a1] at q3
                rw [a2] at q4
                replace q5 : C6[5]? = some (.int .i64 0) := by rw [q5, a3]; rfl
                replace q6 : C6[6]? = some (.slice A2 0 k2) := by rw [q6, a6]
                have h1 : ((n : Int) == 1) = false := by simp; omega
                have h2 : decide ((n : Int) = 1) = false := decide_eq_false (by omega)
                have h3 : decide (n = 1) = false := decide_eq_false (by omega)
                have h4 : (n == 1) = false := by simp; omega
                clear a1 a2 a3 a4 a5 a6 hmj cq hq NE
                go_wp2_with fail
                go_roundw
                case rel => exact ⟨j + 1, by omega, by go_num, MX.trans Mor.out⟩
                case measure => simp [intOf]; omega
              | true =>
                obtain ⟨a1, a2, a3, a4⟩ := GE.out.yes hmj
                rw [Hn.out] at a1 a2 a4
                rw [Hm.out] at a2 a4
                rw [hmj] at q2
                obtain ⟨z2, hz2⟩ : ∃ z : Int, 2 * (E.fl : Int) = z := ⟨_, rfl⟩
                obtain ⟨z3, hz3⟩ : ∃ z : Int, (n : Int) - (E.fl : Int) = z := ⟨_, rfl⟩
                have hw2 : IntKind.i64.wrap (2 * (E.fl : Int)) = z2 := by rw [IntKind.wrap_i64]; omega
                have hw3 : IntKind.i64.wrap ((n : Int) - (E.fl : Int)) = z3 := by rw [IntKind.wrap_i64]; omega
                have h1 : decide ((n : Int) ≤ z2) = false := decide_eq_false (by omega)
                have h2 : decide ((E.fl : Int) < 0) = false := decide_eq_false (by omega)
                have h3 : decide ((m : Int) < z3) = false := decide_eq_false (by omega)
                have h4 : decide (E.hi < E.lo) = false := decide_eq_false (by omega)
                clear hz2 hz3 a1 a2 a3
                by_cases n1 : n = 1
                · obtain ⟨a5, a6⟩ := a4 n1
                  have h5 : ((n : Int) == 1) = true := by simp; omega
                  have h6 : decide ((n : Int) = 1) = true := decide_eq_true (by omega)
                  have h7 : ((m : Int) != 1) = false := by simp; omega
                  have h8 : ((E.fl : Int) != 0) = false := by simp; omega
                  have h7' : (m != 1) = false := by simp; omega
                  have h8' : (E.fl != 0) = false := by simp; omega
                  generalize E.fl = fl at *
                  clear a4 a5 a6 n1 hmj cq hq NE
                  go_wp2_with fail
                  go_roundw
                  case rel => exact ⟨j + 1, by omega, by go_num, MX.trans Mor.out⟩
                  case measure => simp [intOf]; omega
                · have h5 : ((n : Int) == 1) = false := by simp; omega
                  have h6 : decide ((n : Int) = 1) = false := decide_eq_false (by omega)
                  have h5' : (n == 1) = false := by simp; omega
                  clear a4 hmj cq hq NE
                  generalize E.fl = fl at *
                  clear n1
                  go_wp2_with fail
                  go_roundw
                  case rel => exact ⟨j + 1, by omega, by go_num, MX.trans Mor.out⟩
                  case measure => simp [intOf]; omega
    · obtain rfl : j = N := by omega
      go_wp2_with fail
      refine (WK.out _).mono ?_
      rintro e w5 ⟨rfl, M5⟩
      go_wp2_with fail
      go_ret
      exact ⟨rfl, N1.trans (hM.trans (M5.trans Mor.out))⟩
end Go.Proofs.Ytdgmcgfkammioaa
