/- horologelaw29.others: the walk. -/
import Derived.Test.YtlbkcjpnlnlmiaaPendQ
namespace Go.Proofs.Ytlbkcjpnlnlmiaa
open Go.RowKit Go.Maps

set_option maxRecDepth 20000 in
theorem eqlF_key3 (x y : Value) : binOp .eql 38 x y = eqlF 38 x y := rfl
set_option maxRecDepth 20000 in
theorem neqF_key3 (x y : Value) : binOp .neq 38 x y = neqF 38 x y := rfl
set_option maxRecDepth 20000 in
theorem othK_low (l : List Do) (xk : Array Value) (m : Nat) : ∀ n, n ≤ m + 1 → othK l xk m n = []
  | 0, _ => rfl
  | n + 1, h => by
    have ih := othK_low l xk m n (by omega)
    unfold othK
    rw [ih]
    cases l[n]? with
    | none => rfl
    | some y => simp only; rw [if_neg (fun h => by have := h.1; omega)]
open Classical in
set_option maxRecDepth 20000 in
theorem othK_succ (l : List Do) (xk : Array Value) (m n : Nat) (h : n < l.length) : othK l xk m (n + 1) = if m < n ∧ l[n].kd = 0 ∧ l[n].k ≠ xk ∧ ¬ l[n].k ∈ othK l xk m n then othK l xk m n ++ [l[n].k] else othK l xk m n := by
  rw [othK, List.getElem?_eq_getElem h]
set_option maxRecDepth 20000 in
theorem othK_ok (l : List Do) (ok : ∀ d ∈ l, DoOk d) (xk : Array Value) (m : Nat) : ∀ n, n ≤ l.length → (∀ k ∈ othK l xk m n, KeyP k) ∧ (othK l xk m n).length ≤ n
  | 0, _ => ⟨fun k hk => (by cases hk), Nat.le_refl _⟩
  | n + 1, h => by
    obtain ⟨h1, h2⟩ := othK_ok l ok xk m n (by omega)
    rw [othK_succ l xk m n (by omega)]
    split
    · refine ⟨fun k hk => ?_, by simp; omega⟩
      rcases List.mem_append.1 hk with q | q
      · exact h1 k q
      · rw [List.mem_singleton] at q; rw [q]; exact (ok _ (List.getElem_mem _)).k
    · exact ⟨h1, by omega⟩
attribute [local go_sem] blk_cell' blk_frozen' do_kd do_key do_at
attribute [local go_sem ↓] loadF_key loadF_do storeF_do neqF_key3
attribute [local go_sem] run_loadFo run_loadFz run_loadF0 run_storeF0
set_option maxRecDepth 20000 in
set_option maxHeartbeats 8000000 in
theorem others_any (A : Option Addr) (cap L m n : Nat) (l : List Do) (x : Do) (W : World) (hL : l.length = L) (h : DoS W A cap l) (hm : m < n) (hn : n ≤ L) (hx : l[m]? = some x) :
    Calls Try.prog 9 #[.slice A L cap, .int .i64 m, .int .i64 n] W fun e w' => e = .returned (.int .i64 (othK l x.k m n).length) ∧ Mo W w' := by
  have hlim := h.lim
  have hle := h.le
  rw [hL] at hlim hle
  have hxm : l[m]'(by omega) = x := (List.getElem?_eq_some_iff.1 hx).2
  obtain ⟨A', hP, hs⟩ := h.part (m + 1) n (by omega) (by omega)
  rw [hL] at hs
  replace hs : ∀ w : World, (Instr.sliceAt 22 (.slice A L cap) (some (.int .i64 ((m : Int) + 1))) (some (.int .i64 (n : Int))) none).run Try.prog w = .ok (.slice A' (n - (m + 1)) (cap - (m + 1))) w := hs
  have mk : ∀ w : World, (Instr.makeMap 76 none).run Try.prog w = .ok (.map (some w.heap.size)) (w.alloc (.map #[] 0)) := run_makeMap _
  have hb : ∀ w : World, (Instr.build 77 #[]).run Try.prog w = .ok (.agg #[]) w := fun w => run_build w _ _ _ (by kernel_rfl)
  have HP := Lib.hid hP
  have H0 := Lib.hid h
  have HL := Lib.hid hL
  have w1 : IntKind.i64.wrap ((m : Int) + 1) = m + 1 := by rw [IntKind.wrap_i64]; omega
  have LM : Hid (∀ w, Mo W w → ∃ g off, A = some ⟨g, off, none⟩ ∧ (loadF 38 (.pointer (some ⟨g, off + m * 40 + 1, none⟩))).run Try.prog w = .ok (.agg x.k) w) := Lib.hid (fun w k => by
    obtain ⟨g, off, e, -, h2, -⟩ := (h.mo k).get m (by omega)
    exact ⟨g, off, e, by rw [← hxm]; exact h2⟩)
  have XOK := Lib.hid (h.ok x (by rw [← hxm]; exact List.getElem_mem _))
  obtain ⟨xd, xk, xa⟩ := x
  simp only at LM
  clear hP h hL hx hxm
  have M0 : Mo W (W.alloc (.map #[] 0)) := Mo.of ((Below.refl _ _).alloc (Nat.le_refl _) _)
  have S0 := SetIs.made W
  rw [← othK_low l xk m (m + 1) (Nat.le_refl _)] at S0
  have HM0 := Lib.hid M0
  have HS0 := Lib.hid S0
  clear M0 S0
  obtain ⟨q, hq⟩ : ∃ q, n - (m + 1) = q := ⟨_, rfl⟩
  rw [hq] at hs
  have HQ := Lib.hid hq
  have hqn : m + 1 + q = n := by omega
  clear hq
  go_enter Try.func9, Try.ntmps9
  go_wp2_with fail
  go_loopw [17] (fun i wr => ∃ j : Nat, j ≤ q ∧ i = .int .i64 j ∧ Mo W wr ∧ SetIs wr W.heap.size (othK l xk m (m + 1 + j))) (fun i _ => q - (intOf i).toNat)
  case atStart => exact ⟨0, by omega, rfl, HM0.out, HS0.out⟩
  case round =>
    obtain ⟨j, hj, rfl, hM, hS⟩ := hrel
    have HS := Lib.hid hS
    clear hS
    by_cases cj : j < q
    · have hjl : m + 1 + j < l.length := by rw [HL.out]; omega
      have hjp : j < ((l.drop (m + 1)).take (n - (m + 1))).length := by rw [List.length_take, List.length_drop, HQ.out, HL.out]; omega
      obtain ⟨g', off', rfl, ld, -, -⟩ := (HP.out.mo hM).get j hjp
      rw [List.getElem_take, List.getElem_drop] at ld
      have hok := H0.out.ok _ (List.getElem_mem hjl)
      have OS := othK_succ l xk m (m + 1 + j) hjl
      generalize l[m + 1 + j] = y at *
      obtain ⟨yd, yk, ya⟩ := y
      have zk := key_sz hok.k
      have za := at_sz hok.a
      have ok1 := one_of_fits hok.k
      have oa1 := one_of_fits hok.a
      simp only at zk za ok1 oa1 OS
      have YOK := Lib.hid hok
      have HOS := Lib.hid OS
      have i0 : (0 : Int) ≤ j := by omega
      have i1 : (j : Int) < q := by omega
      clear hok OS hjp hjl
      go_upto_region 5 with (fail)
      refine wp_name ?_
      intro w2 hw2
      have y2 : Blk w2 wr.heap.size 42 (doC ⟨yd, yk, ya⟩) := by rw [hw2]; infer_instance
      have M2 : Mo W w2 := by rw [hw2]; exact hM.trans Mor.out
      have S2 : Hid (SetIs w2 W.heap.size (othK l xk m (m + 1 + j))) := Lib.hid (by rw [hw2]; exact HS.out.keep (Below.heap_alloc _ _ _ HS.out.lt))
      obtain ⟨g, off, rfl, lm⟩ := LM.out w2.drew (mo_drew M2)
      have KP := Lib.hid (othK_ok l H0.out.ok xk m (m + 1 + j) (by rw [HL.out]; omega))
      clear hw2 ld
      by_cases c0 : yd = 0
      · have d0 : (yd == 0) = true := by simp [c0]
        have nq := run_neq_flat fl_key w2.drew YOK.out.k XOK.out.k
        rw [neqF_key3] at nq
        by_cases ck : yk = xk
        · have dk : eqA yk xk = true := eqA_iff.2 ck
          rw [dk] at nq
          have ES : Hid (othK l xk m (m + 1 + (j + 1)) = othK l xk m (m + 1 + j)) := Lib.hid (by
            rw [← Nat.add_assoc, HOS.out, if_neg (fun h => h.2.2.1 ck)])
          clear ck c0
          go_region
          go_wp2_with fail
          go_roundw
          case rel => exact ⟨j + 1, by omega, by go_num, mo_drew M2, by rw [ES.out]; exact S2.out.keep rfl⟩
          case measure => simp [intOf]; omega
        · have dk : eqA yk xk = false := by rw [Bool.eq_false_iff]; exact fun c => ck (eqA_iff.1 c)
          rw [dk] at nq
          obtain ⟨w3, f1, f2, f3⟩ := (S2.out.keep (w' := w2.drew) rfl).put (by have := KP.out.2; unfold maxLen; omega) KP.out.1 YOK.out.k
          have ES : Hid (SetIs w3 W.heap.size (othK l xk m (m + 1 + (j + 1)))) := Lib.hid (by
            rw [← Nat.add_assoc, HOS.out]
            by_cases q : yk ∈ othK l xk m (m + 1 + j)
            · rw [if_neg (fun h => h.2.2.2 q)]
              rw [if_pos q] at f2
              exact f2
            · rw [if_pos ⟨by omega, c0, ck, q⟩]
              rw [if_neg q] at f2
              exact f2)
          have M3 : Mo W w3 := mo_grown (mo_drew M2) f3.grown fun k e => by injection e with e; omega
          clear ck c0 f2 f3
          go_region
          go_wp2_with fail
          go_roundw
          case rel => exact ⟨j + 1, by omega, by go_num, M3, ES.out⟩
          case measure => simp [intOf]; omega
      · have d0 : (yd == 0) = false := by simp [c0]
        have ES : Hid (othK l xk m (m + 1 + (j + 1)) = othK l xk m (m + 1 + j)) := Lib.hid (by
          rw [← Nat.add_assoc, HOS.out, if_neg (fun h => c0 h.2.1)])
        clear c0
        go_region
        go_wp2_with fail
        go_roundw
        case rel => exact ⟨j + 1, by omega, by go_num, mo_drew M2, by rw [ES.out]; exact S2.out.keep rfl⟩
        case measure => simp [intOf]; omega
    · obtain rfl : j = q := by omega
      have hl := HS.out.len 3
      go_wp2_with fail
      go_ret
      exact ⟨rfl, hM⟩
end Go.Proofs.Ytlbkcjpnlnlmiaa
