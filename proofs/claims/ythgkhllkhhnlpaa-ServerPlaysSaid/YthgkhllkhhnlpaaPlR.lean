/- horologeref36: of, Number, Servers, best, far. -/
import Derived.Test.YthgkhllkhhnlpaaPlP
import Derived.Test.YthgkhllkhhnlpaaSvU2
namespace Go.Proofs.Ythgkhllkhhnlpaa
open Go.RowKit Go.Maps

attribute [local go_sem] blk_cell' blk_frozen'
attribute [local go_sem ↓] loadF_addr storeF_addr loadF_do storeF_do loadF_smp storeF_smp
attribute [local go_sem] run_loadF0 run_storeF0
set_option maxRecDepth 20000 in
set_option maxHeartbeats 8000000 in
theorem rof36_any (d : Deed) (ok : DeedOk d) (W : World) :
    Calls Try.prog 34 #[.agg (ddC d)] W fun e w' => e = .returned (.agg (whoD d)) ∧ Mo W w' := by
  have iz : SzA (ddC d) 67 := ⟨dd_size ok⟩
  have y0 := dd_0 ok
  have l1 : ∀ (w : World) (g : Nat) [Blk w g 47 (ddC d)], (loadF 35 (.pointer (some ⟨g, 1, none⟩))).run Try.prog w = .ok (.agg d.a) w := fun w g _ => by
    have := run_loadFo 35 17 w g 1 47 (ddC d) 67 (by omega) (by omega)
    rwa [dd_a ok] at this
  have l2 : ∀ (w : World) (g : Nat) [Blk w g 47 (ddC d)], (loadF 35 (.pointer (some ⟨g, 37, none⟩))).run Try.prog w = .ok (.agg (smpA d.S)) w := fun w g _ => by
    have := run_loadFo 35 17 w g 37 47 (ddC d) 67 (by omega) (by omega)
    rwa [dd_w ok] at this
  have aok := whoD_ok ok
  have i1 : SzA (whoD d) 17 := ⟨aok.z⟩
  have i2 : OneA (whoD d) := one_of_fits aok.p
  have HW : Hid ((d.put = true → whoD d = smpA d.S) ∧ (d.put = false → whoD d = d.a)) := Lib.hid ⟨fun c => by unfold whoD; rw [if_pos c], fun c => by unfold whoD; rw [if_neg (by simp [c])]⟩
  obtain ⟨a, ha⟩ : ∃ a, whoD d = a := ⟨_, rfl⟩
  rw [ha] at HW i1 i2 ⊢
  obtain ⟨pb, hpb⟩ : ∃ b, d.put = b := ⟨_, rfl⟩
  rw [hpb] at y0 HW
  cases pb with
  | true =>
    rw [← HW.out.1 rfl] at l2
    clear ok aok HW ha hpb l1
    generalize ddC d = X at *
    go_enter Try.func34, Try.ntmps34
    go_upto_region 1 with (fail)
    refine wp_name ?_
    intro w1 hw1
    have b1 : Blk w1 W.heap.size 47 X := by rw [hw1]; infer_instance
    have b2 : Blk w1 (W.heap.size + 1) 35 adr0 := by
      rw [hw1]
      have : Blk ((W.alloc (.cells X 47)).alloc (.cells adr0 35)) (W.alloc (.cells X 47)).heap.size 35 adr0 := inferInstance
      simpa using this
    have M1 : Mo W w1 := by rw [hw1]; exact Mor.out
    generalize hg : W.heap.size = g1 at *
    have l2' := l2 w1 g1
    clear hw1 l2
    go_wp2_with fail
    refine ret_cS rfl (g1 + 1) a rfl rfl (blk_setRow (cs' := a) b2) ?_
    exact ⟨rfl, mo_setRow M1 (by omega) _⟩
  | false =>
    rw [← HW.out.2 rfl] at l1
    clear ok aok HW ha hpb l2
    generalize ddC d = X at *
    go_enter Try.func34, Try.ntmps34
    go_upto_region 1 with (fail)
    refine wp_name ?_
    intro w1 hw1
    have b1 : Blk w1 W.heap.size 47 X := by rw [hw1]; infer_instance
    have b2 : Blk w1 (W.heap.size + 1) 35 adr0 := by
      rw [hw1]
      have : Blk ((W.alloc (.cells X 47)).alloc (.cells adr0 35)) (W.alloc (.cells X 47)).heap.size 35 adr0 := inferInstance
      simpa using this
    have M1 : Mo W w1 := by rw [hw1]; exact Mor.out
    generalize hg : W.heap.size = g1 at *
    have l1' := l1 w1 g1
    clear hw1 l1
    go_wp2_with fail
    refine ret_cS rfl (g1 + 1) a rfl rfl (blk_setRow (cs' := a) b2) ?_
    exact ⟨rfl, mo_setRow M1 (by omega) _⟩
/-! ### rows of structs -/
set_option maxRecDepth 20000 in
theorem flat_getP {α : Type} (f : α → Array Value) (n : Nat) : ∀ (l : List α) (i k : Nat) (hi : i < l.length), (∀ x ∈ l, (f x).size = n) → k < n → (l.flatMap fun x => (f x).toList)[i * n + k]? = (f l[i])[k]?
  | [], i, k, hi, _, _ => by cases hi
  | x :: l, 0, k, hi, hm, hk => by
    rw [List.flatMap_cons, Nat.zero_mul, Nat.zero_add, List.getElem?_append_left (by have := hm x (by simp); simp; omega)]
    simp
  | x :: l, i + 1, k, hi, hm, hk => by
    have z := hm x (by simp)
    have e : (i + 1) * n + k - (f x).toList.length = i * n + k := by
      rw [Nat.add_mul, Array.length_toList, z, Nat.one_mul]
      omega
    rw [List.flatMap_cons, List.getElem?_append_right (by rw [Array.length_toList, z, Nat.add_mul]; omega), e, flat_getP f n l i k (by simpa using hi) (fun y hy => hm y (by simp [hy])) hk]
    rfl
set_option maxRecDepth 20000 in
theorem flat_lenP {α : Type} (f : α → Array Value) (n : Nat) : ∀ (l : List α), (∀ x ∈ l, (f x).size = n) → (l.flatMap fun x => (f x).toList).length = l.length * n
  | [], _ => by simp
  | x :: l, h => by
    rw [List.flatMap_cons, List.length_append, flat_lenP f n l fun y hy => h y (by simp [hy]), Array.length_toList, h x (by simp), List.length_cons, Nat.add_mul]
    omega
/-- addresses in a row of their own -/
structure AdsIs (b : Nat) (w : World) (v : Value) (ns : List (Array Value)) : Prop where
  row : w.ownsRow b 35 17 v ns.length (ns.flatMap fun a => a.toList)
  ok : ∀ a ∈ ns, AdrS a
set_option maxRecDepth 20000 in
theorem AdsIs.mo {b : Nat} {w w' : World} {v : Value} {ns : List (Array Value)} (h : AdsIs b w v ns) (m : Mo w w') : AdsIs b w' v ns := ⟨owns_mo h.row m, h.ok⟩
set_option maxRecDepth 20000 in
theorem AdsIs.get {b : Nat} {w : World} {A : Option Addr} {n c : Nat} {ns : List (Array Value)} (h : AdsIs b w (.slice A n c) ns) (i : Nat) (hi : i < ns.length) : ∃ g, A = some ⟨g, 0, none⟩ ∧ LtW g w ∧ ∀ w', Mo w w' → (loadF 35 (.pointer (some ⟨g, i * 17, none⟩))).run Try.prog w' = .ok (.agg ns[i]) w' := by
  have hr := h.row
  obtain rfl : n = ns.length := by
    rcases hr.2 with ⟨e, e0⟩ | ⟨g, cap, cur, e, _⟩
    · injection e with _ e1 _
      omega
    · injection e with _ e1 _
  obtain ⟨g, rfl⟩ := own_adrE hr (by omega)
  have z := (h.ok _ (List.getElem_mem hi)).z
  have R := own_row hr
  have all : ∀ x ∈ ns, x.size = 17 := fun x hx => (h.ok x hx).z
  have first := R (i * 17 + 0) _ ((flat_getP (fun a => a) 17 ns i 0 hi all (by omega)).trans (Array.getElem?_eq_getElem (by omega)))
  have zg : LtW g w := LtW.of_cell first
  refine ⟨g, rfl, zg, fun w' m => run_loadMid 35 17 w' g (i * 17) ns[i] z fun j y hy => ?_⟩
  rw [m.cell]
  rw [Array.getElem?_toList] at hy
  have hj : j < 17 := by have := (Array.getElem?_eq_some_iff.1 hy).1; omega
  exact R _ _ ((flat_getP (fun a => a) 17 ns i j hi all hj).trans hy)
set_option maxRecDepth 20000 in
theorem AdsIs.len {b : Nat} {w : World} {v : Value} {ns : List (Array Value)} (h : AdsIs b w v ns) : ∃ A c, v = .slice A ns.length c := own_slS h.row
set_option maxRecDepth 20000 in
theorem eqlF_adrP (x y : Value) : binOp .eql 35 x y = eqlF 35 x y := rfl
set_option maxRecDepth 20000 in
theorem run_eql_adrP (w : World) {a b : Array Value} (h : AdrS a) (h' : AdrS b) : (eqlF 35 (.agg a) (.agg b)).run Try.prog w = .ok (.bool (eqA a b)) w := run_eql_flat fl_addr w h.p h'.p
set_option maxRecDepth 20000 in
theorem eqA_ne {a b : Array Value} (h : a ≠ b) : eqA a b = false := by
  rw [Bool.eq_false_iff]
  exact fun q => h (eqA_iff.1 q)
attribute [local go_sem ↓] eqlF_adrP
set_option maxRecDepth 20000 in
set_option maxHeartbeats 8000000 in
theorem rnumber36_any {b : Nat} {W : World} {v : Value} {ns : List (Array Value)} (h : AdsIs b W v ns) {a : Array Value} (ha : AdrS a) (hn : ns.length ≤ 1000) :
    Calls Try.prog 14 #[v, .agg a] W fun e w' => e = .returned (.int .i64 (numI ns a)) ∧ Mo W w' := by
  obtain ⟨A, c, rfl⟩ := h.len
  have HN := Lib.hid h
  obtain ⟨n, hnl⟩ : ∃ n, ns.length = n := ⟨_, rfl⟩
  have HL := Lib.hid hnl
  rw [hnl] at hn ⊢
  rw [hnl] at HN
  have iz : SzA a 17 := ⟨ha.z⟩
  have io : OneA a := one_of_fits ha.p
  have HA := Lib.hid ha
  obtain ⟨PO, hPO⟩ : ∃ P, (fun (e : Ending) (w' : World) => e = .returned (.int .i64 (numI ns a)) ∧ Mo W w') = P := ⟨_, rfl⟩
  rw [hPO]
  have RR := Lib.hid hPO
  clear h hnl ha hPO
  go_enter Try.func14, Try.ntmps14
  --@@ loop
  go_wp2_with fail
  go_loopw [5] (fun i wr => ∃ j : Nat, j ≤ n ∧ i = .int .i64 j ∧ a ∉ ns.take j ∧ Blk wr W.heap.size 35 a ∧ Mo W wr) (fun i _ => n - (intOf i).toNat)
  case atStart => exact ⟨0, by omega, rfl, by simp, inferInstance, Mor.out⟩
  case round =>
    obtain ⟨j, hj, rfl, hno, hB, hM⟩ := hrel
    by_cases cj : j < n
    · have hjl : j < ns.length := by rw [HL.out]; exact cj
      obtain ⟨g, rfl, zg, ldm⟩ := (HN.out.mo hM).get j hjl
      have ld := fun J d => ldm (more wr J d) Mor.out
      clear ldm
      have i0 : (0 : Int) ≤ j := by omega
      have i2 : (j : Int) < n := by omega
      have hw : IntKind.i64.wrap ((j : Int) + 1) = j + 1 := by rw [IntKind.wrap_i64]; omega
      have okj := HN.out.ok _ (List.getElem_mem hjl)
      have HJ : Hid (ns[j]? = some ns[j]) := Lib.hid (List.getElem?_eq_getElem hjl)
      have HX : Hid (ns.take (j + 1) = ns.take j ++ [ns[j]]) := Lib.hid (by rw [List.take_add_one, List.getElem?_eq_getElem hjl]; rfl)
      have HNO := Lib.hid hno
      generalize ns[j] = x at *
      have eq0 := fun w => run_eql_adrP w okj HA.out
      by_cases ce : x = a
      · rw [show eqA x a = true from eqA_iff.2 ce] at eq0
        have HR : Hid (numI ns a = j) := Lib.hid (numI_at hno (by rw [HJ.out, ce]))
        clear hno hjl okj ce HX
        go_upto_region 4 with (fail)
        first | (refine wp_region_mo (by kernel_rfl) (by kernel_rfl) ?_) | (refine wp_region_mo' (by kernel_rfl) (by kernel_rfl) ?_)
        repeat (go_big_quiet_step (fail))
        refine wpQuiet_nil ?_
        intro _ hw'
        obtain ⟨⟨J9, d9⟩, hw''⟩ := hw'
        subst hw''
        go_wp2_with fail
        first | go_ret | skip
        rw [← RR.out]
        exact ⟨by rw [HR.out]; rfl, hM.trans Mor.out⟩
      · rw [eqA_ne ce] at eq0
        have HS : Hid (a ∉ ns.take (j + 1)) := Lib.hid (by
          rw [HX.out, List.mem_append, List.mem_singleton]
          rintro (q | q)
          · exact hno q
          · exact ce q.symm)
        clear hno hjl okj ce HX
        go_upto_region 4 with (fail)
        first | (refine wp_region_mo (by kernel_rfl) (by kernel_rfl) ?_) | (refine wp_region_mo' (by kernel_rfl) (by kernel_rfl) ?_)
        repeat (go_big_quiet_step (fail))
        refine wpQuiet_nil ?_
        intro _ hw'
        obtain ⟨⟨J9, d9⟩, hw''⟩ := hw'
        subst hw''
        go_wp2_with fail
        go_roundw
        case rel => exact ⟨j + 1, by omega, by go_num, HS.out, Mo.blk Mor.out hB, hM.trans Mor.out⟩
        case measure => simp [intOf]; omega
    · obtain rfl : j = n := by omega
      have HR : Hid (numI ns a = -1) := Lib.hid (numI_no (by rwa [List.take_of_length_le (by rw [HL.out]; exact Nat.le_refl _)] at hno))
      clear hno
      go_wp2_with fail
      first | go_ret | skip
      rw [← RR.out]
      exact ⟨by rw [HR.out]; rfl, hM.trans Mor.out⟩
set_option maxRecDepth 20000 in
set_option maxHeartbeats 4000000 in
theorem rfar36_any (a b : Int) (W : World) (ha : Is64S a) (hb : Is64S b) :
    Calls Try.prog 42 #[.int .i64 a, .int .i64 b] W fun e w' => e = .returned (.int .u64 (farI a b)) ∧ Mo W w' := by
  unfold farI
  by_cases c : b < a
  · have wd := wrapU_diff ha hb (by omega)
    rw [if_pos c]
    go_enter Try.func42, Try.ntmps42
    go_wp2_with fail
    go_ret
    exact ⟨rfl, Mor.out⟩
  · have wd := wrapU_diff hb ha (by omega)
    rw [if_neg c]
    go_enter Try.func42, Try.ntmps42
    go_wp2_with fail
    go_ret
    exact ⟨rfl, Mor.out⟩
end Go.Proofs.Ythgkhllkhhnlpaa
