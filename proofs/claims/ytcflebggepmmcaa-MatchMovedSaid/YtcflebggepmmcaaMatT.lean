/- horologeref30: asked, Keys. -/
import Derived.Test.YtcflebggepmmcaaMatP
import Derived.Test.YtcflebggepmmcaaMatR
import Derived.Test.YtcflebggepmmcaaMatS
namespace Go.Proofs.Ytcflebggepmmcaa
open Go.RowKit

set_option maxRecDepth 20000 in
theorem rowS_cons (a : Array Value) (O : List (Array Value)) : rowS (a :: O) = a.toList ++ rowS O := by unfold rowS; rw [List.flatMap_cons]
set_option maxRecDepth 20000 in
theorem rowS_len {s : Nat} : ∀ {O : List (Array Value)}, (∀ a ∈ O, a.size = s) → (rowS O).length = O.length * s
  | [], _ => by simp [rowS]
  | a :: O, h => by
    have ih := rowS_len (O := O) (fun x hx => h x (List.mem_cons_of_mem _ hx))
    have := h a List.mem_cons_self
    rw [rowS_cons, List.length_append, ih, Array.length_toList, this, List.length_cons, Nat.succ_mul, Nat.add_comm]
set_option maxRecDepth 20000 in
theorem rowS_get {s : Nat} : ∀ {O : List (Array Value)}, (∀ a ∈ O, a.size = s) → ∀ q (hq : q < O.length) j, j < s → (rowS O)[q * s + j]? = O[q].toList[j]?
  | [], _, q, hq, _, _ => by cases hq
  | a :: O, h, 0, _, j, hj => by
    have := h a List.mem_cons_self
    rw [rowS_cons, Nat.zero_mul, Nat.zero_add, List.getElem?_append_left (by rw [Array.length_toList]; omega)]
    rfl
  | a :: O, h, q + 1, hq, j, hj => by
    have := h a List.mem_cons_self
    have ih := rowS_get (O := O) (fun x hx => h x (List.mem_cons_of_mem _ hx)) q (by simpa using hq) j hj
    rw [rowS_cons, List.getElem?_append_right (by rw [Array.length_toList, this, Nat.succ_mul]; omega), Array.length_toList, this, show (q + 1) * s + j - s = q * s + j by rw [Nat.succ_mul]; omega, ih]
    rfl
set_option maxRecDepth 20000 in
theorem own_cellsS {w : World} {b : Nat} {t : TypeId} {s : Nat} {v : Value} {N : Nat} {O : List (Array Value)} (h : w.ownsRow b t s v N (rowS O)) (hs : ∀ a ∈ O, a.size = s) (hN : 0 < N) :
    ∃ g c2, v = .slice (some ⟨g, 0, none⟩) N c2 ∧ b ≤ g ∧ ∀ (q : Nat) (hq : q < O.length) j u, O[q].toList[j]? = some u → w.cell? ⟨g, q * s + j, none⟩ = some u := by
  rcases h.2 with ⟨_, h0⟩ | ⟨g, cap, cur, hv, hb, hg, h3, h4, h5, h6⟩
  · omega
  · refine ⟨g, cap, hv, hb, fun q hq j u hj => ?_⟩
    have hjs : j < s := by
      have := (List.getElem?_eq_some_iff.1 hj).1
      rwa [Array.length_toList, hs _ (List.getElem_mem hq)] at this
    have h1 := h.1
    rw [rowS_len hs] at h1
    have e1 := rowS_get hs q hq j hjs
    have lt : q * s + j < O.length * s := Nat.lt_of_lt_of_le (by rw [Nat.succ_mul]; omega) (Nat.mul_le_mul_right s (show q + 1 ≤ O.length from hq))
    rw [hj, ← h6] at e1
    rw [blk_cell (⟨hg⟩ : Blk w g _ cur), ← Array.getElem?_toList, ← e1, List.getElem?_take_of_lt (by omega)]
set_option maxRecDepth 20000 in
theorem row_slS {w : World} {b n s : Nat} {T : TypeId} {v : Value} {xs : List Value} (h : w.ownsRow b T s v n xs) : ∃ A c, v = .slice A n c := by
  rcases h.2 with ⟨rfl, rfl⟩ | ⟨g, cap, cur, rfl, _⟩
  · exact ⟨_, _, rfl⟩
  · exact ⟨_, _, rfl⟩
def buildKM (n : Nat) (l : Array (Nat × Value)) : Sem Value := Instr.buildSlice 68 n l
set_option maxRecDepth 20000 in
theorem buildKM_fold (n : Nat) (l : Array (Nat × Value)) : Instr.buildSlice 68 n l = buildKM n l := rfl
set_option maxRecDepth 20000 in
theorem infoKy : (Try.prog.info? 72).map (fun i => (i.zero, i.size, i.bytes)) = some (some (.agg key0), 37, 48) := by kernel_rfl
set_option maxRecDepth 20000 in
theorem run_buildKM (c : Array Value) [hc : SzA c 37] (w : World) : (buildKM 1 #[(0, .agg c)]).run Try.prog w = .ok (.slice (some ⟨w.heap.size, 0, none⟩) 1 1) (w.alloc (.cells c 72)) := by
  obtain ⟨i0, hi, hz0, hz1, hz2⟩ := info_parts infoKy
  have h0 := hc.out
  refine run_buildSlice w _ _ 1 _ _ i0 (.agg key0) Try.underlying68 hi hz0 (by rw [hz1]; decide) (by rw [hz1]; decide) ?_
  rw [hz1]
  show Instr.fill (fun i => some (i * 37, 37)) _ [(0, .agg c)] = _
  unfold Instr.fill
  have e1 : (Value.agg c).cells = c := rfl
  simp only [e1]
  rw [if_neg (by simp [h0])]
  unfold Instr.fill
  congr 1
  apply Array.toList_inj.1
  rw [← Array.foldl_toList, Array.toList_zipIdx, foldl_splice1 (0 * 37) c.toList 0 _ (by simp [h0])]
  unfold spliceL
  simp [h0]
set_option maxRecDepth 20000 in
theorem eqlF_keyT (x y : Value) : binOp .eql 72 x y = eqlF 72 x y := rfl
attribute [local go_sem] blk_cell' blk_frozen' dg_at dg_b dg_src dg_dst
attribute [local go_sem ↓] loadF_dg loadF_pk storeAt_pk loadF_keyH storeF_key buildKM_fold eqlF_keyT
attribute [local go_sem] run_loadF0 run_storePk run_storeF0 run_loadFo run_loadFz run_buildKM
set_option maxRecDepth 20000 in
set_option maxHeartbeats 16000000 in
theorem asked_any (A : Option Addr) (cap L n : Nat) (l : List Dg) (k : Array Value) (room : Int) (W : World) (hL : l.length = L) (h : DgsS W A cap l) (hb : ∀ d ∈ l, d.bs.length ≤ 200000) (hn : n ≤ L) (hm : L ≤ 1000) (hk : KeyP k) (r1 : 1 ≤ room) :
    Calls Try.prog 33 #[.slice A L cap, .int .i64 n, .agg k, .int .i64 room] W fun e w' => e = .returned (.int .i64 (askedM room l n k)) ∧ Mo W w' := by
  obtain ⟨i0, hi, hz0, hz1, hz2⟩ := info_parts infoKy
  have HD := Lib.hid h
  have HL := Lib.hid hL
  have HB := Lib.hid hb
  have HK := Lib.hid hk
  have zk := key_sz hk
  have ok1 := one_of_fits hk
  have HX : Hid ((∀ (j : Nat) (O : List (Array Value)) d, l[j]? = some d → Behind (l.map doM) (j + 1) n O → j < n → (classP d.bs).2 = 1 → keyC d (classP d.bs).1.h = k → ¬ k ∈ O → (O.length : Int) < room → askedM room l n k = j) ∧
      (∀ (j : Nat) (O : List (Array Value)), Behind (l.map doM) j n O → ¬ k ∈ O → room ≤ (O.length : Int) → askedM room l n k = -1) ∧ (∀ O, Behind (l.map doM) 0 n O → ¬ k ∈ O → askedM room l n k = -1)) := Lib.hid ⟨fun j O d hd h1 h2 h3 h4 h5 h6 => by
        have := asked_found (y := doM d) r1 (by rw [List.length_map]; omega) h1 h2 (by rw [List.getElem?_map, hd]; rfl) (doM_0.2 h3) (by show ¬ keyC d _ ∈ O; rw [h4]; exact h5) h6
        rw [show (doM d).k = k from h4] at this
        exact this, fun j O h1 h2 h3 => asked_full r1 (by rw [List.length_map]; omega) h1 h2 h3, fun O h1 h2 => asked_none (by rw [List.length_map]; omega) h1 h2⟩
  obtain ⟨res, hres⟩ : ∃ r, askedM room l n k = r := ⟨_, rfl⟩
  rw [hres] at HX ⊢
  clear h hL hb hk hres
  go_enter Try.func33, Try.ntmps33
  go_wp2_with fail
  obtain ⟨w1, hw1⟩ : ∃ w, W.alloc (.cells k 72) = w := ⟨_, rfl⟩
  have k1 : Blk w1 W.heap.size 72 k := by rw [← hw1]; infer_instance
  have M1 : Mo W w1 := by rw [← hw1]; exact Mor.out
  rw [hw1]
  clear hw1
  go_loopw [9, 10] (fun v i wr => ∃ (j : Nat) (z : Int) (O : List (Array Value)), j ≤ n ∧ z = (j : Int) - 1 ∧ i = .int .i64 z ∧ Mo w1 wr ∧ wr.ownsRow w1.heap.size 72 37 v O.length (rowS O) ∧ Behind (l.map doM) j n O ∧ ¬ k ∈ O ∧ (O.length : Int) < room ∧ (∀ a ∈ O, KeyP a) ∧ O.length ≤ n - j) (fun _ i _ => (intOf i + 1).toNat)
  case atStart => exact ⟨n, (n : Int) - 1, [], Nat.le_refl _, rfl, by first | rfl | go_num, Mor.out, World.ownsRow_nil _ _ _ _, Behind.nil _ _, by simp, by simp; omega, fun a ha => (by cases ha), by simp⟩
  case round =>
    obtain ⟨j, z, O, hj, hz, rfl, hM, hO, hB, hkO, hOl, hOk, hOn⟩ := hrel
    have HO := Lib.hid hO
    have HBe := Lib.hid hB
    have HkO := Lib.hid hkO
    have HOk := Lib.hid hOk
    clear hO hB hkO hOk
    obtain ⟨A9, c9, rfl⟩ := row_slS HO.out
    rcases Nat.eq_zero_or_pos j with rfl | cj
    · have d0 : decide (0 ≤ z) = false := decide_eq_false (by omega)
      have e1 := Lib.hid (HX.out.2.2 O HBe.out HkO.out)
      go_wp2_with fail
      go_ret
      exact ⟨by rw [e1.out]; rfl, M1.trans hM⟩
    · obtain ⟨p, rfl⟩ : ∃ p, j = p + 1 := ⟨j - 1, by omega⟩
      obtain rfl : z = (p : Int) := by omega
      have hjl : p < l.length := by rw [HL.out]; omega
      obtain ⟨g, off, B1, bc, rfl, ld, hb⟩ := (HD.out.mo (M1.trans hM)).get p hjl
      have XO := HD.out.ok _ (List.getElem_mem hjl)
      have KD := Lib.hid (fun w (m : Mo wr w) => kind_any l[p] _ w ⟨B1, bc, rfl, hb.mo m⟩ XO (HB.out _ (List.getElem_mem hjl)))
      have hd : l[p]? = some l[p] := List.getElem?_eq_getElem hjl
      have YO : KeyP (keyC l[p] (classP l[p].bs).1.h) := fits_key XO (by rw [classP_fst]; exact takeP_ok _ hb.byte)
      have S1 : Hid ((classP l[p].bs).2 ≠ 1 → Behind (l.map doM) p n O) := Lib.hid fun c => HBe.out.skip (y := doM l[p]) (by rw [List.getElem?_map, hd]; rfl) (fun h => c (doM_0.1 h))
      have S2 : Hid (keyC l[p] (classP l[p].bs).1.h ∈ O → Behind (l.map doM) p n O) := Lib.hid fun m => HBe.out.same (y := doM l[p]) (by rw [List.getElem?_map, hd]; rfl) m
      have S3 : Hid ((classP l[p].bs).2 = 1 → ¬ keyC l[p] (classP l[p].bs).1.h ∈ O → Behind (l.map doM) p n (O ++ [keyC l[p] (classP l[p].bs).1.h])) := Lib.hid fun c m => HBe.out.more (y := doM l[p]) (by omega) (by rw [List.getElem?_map, hd]; rfl) (doM_0.2 c) m
      have S4 : Hid ((classP l[p].bs).2 = 1 → keyC l[p] (classP l[p].bs).1.h = k → res = p) := Lib.hid fun c m => HX.out.1 p O l[p] hd HBe.out (by omega) c m HkO.out hOl
      have za := sz_wide XO.at_
      have zs := sz_ends XO.src
      have zt := sz_ends XO.dst
      have oa := one_of_fits XO.at_
      have os := one_of_fits XO.src
      have ot := one_of_fits XO.dst
      have zy := key_sz YO
      have oy := one_of_fits YO
      generalize keyC l[p] (classP l[p].bs).1.h = y at *
      generalize (classP l[p].bs).2 = q at *
      generalize (classP l[p].bs).1.h = ph at *
      generalize (classP l[p].bs).1.e.length = pe at *
      generalize (classP l[p].bs).1.m.length = pm at *
      generalize l[p].at_ = da at *
      generalize l[p].src = ds at *
      generalize l[p].dst = dd at *
      generalize l[p].bs.length = nb at *
      have HYO := Lib.hid YO
      have j0 : (0 : Int) ≤ p := by omega
      have j1 : (p : Int) < L := by omega
      have hw : IntKind.i64.wrap ((p : Int) - 1) = p - 1 := by rw [IntKind.wrap_i64]; omega
      have d0 : decide (0 ≤ (p : Int)) = true := decide_eq_true (by omega)
      have k2 := hM.blk k1
      have NW : Mo w1 wr := hM
      clear hjl XO hb hd YO hM hz cj
      go_wp2_with fail
      refine (KD.out _ Mor.out).mono ?_
      rintro e w3 ⟨u, rfl, ⟨a1, c1, a2, c2, rfl⟩, M3⟩
      have N3 : Mo wr w3 := Mo.trans Mor.out M3
      have k3 := N3.blk k2
      clear M3 KD ld k2
      go_upto_region 6 with (fail)
      refine wp_name ?_
      intro w4 hw4
      have y4 : Blk w4 (w3.heap.size + 1) 72 y := by rw [hw4]; infer_instance
      have k4 : Blk w4 W.heap.size 72 k := by rw [hw4]; infer_instance
      have N4 : Mo wr w4 := by rw [hw4]; exact N3.trans Mor.out
      clear hw4 k3 N3
      have O4 := Lib.hid (owns_mo HO.out N4)
      have M4 : Mo w1 w4 := NW.trans N4
      obtain ⟨gy, hgy⟩ : ∃ x, w3.heap.size + 1 = x := ⟨_, rfl⟩
      rw [hgy] at y4 ⊢
      clear hgy HO NW N4
      by_cases cq : q = 1
      · subst cq
        have eq := fun w => run_eql_flat fl_key w HYO.out HK.out
        simp only [eqlF_keyT] at eq
        by_cases ck : y = k
        · have dk : eqA y k = true := eqA_iff.2 ck
          rw [dk] at eq
          have e4 := Lib.hid (S4.out rfl ck)
          clear ck dk S1 S2 S3 S4
          go_wp2_with fail
          go_ret
          exact ⟨by rw [e4.out]; rfl, M1.trans (M4.trans Mor.out)⟩
        · have dk : eqA y k = false := by rw [Bool.eq_false_iff]; exact fun c => ck (eqA_iff.1 c)
          rw [dk] at eq
          have HNE := Lib.hid ck
          obtain ⟨N, hN⟩ : ∃ N, O.length = N := ⟨_, rfl⟩
          have HN := Lib.hid hN
          rw [hN] at hOl hOn ⊢
          have S3' := Lib.hid (S3.out rfl)
          clear ck dk S1 S3 S4 hN
          go_wp2_with fail
          go_loopw [14, 15] (fun b i wx => ∃ (m : Nat) (bb : Bool), m ≤ N ∧ i = .int .i64 m ∧ b = .bool bb ∧ (bb = true ↔ y ∈ O.take m) ∧ Mo w4 wx) (fun _ i _ => N - (intOf i).toNat)
          case atStart => exact ⟨0, false, by omega, rfl, rfl, by simp, Mor.out⟩
          case round =>
            obtain ⟨m, bb, hm1, rfl, rfl, hbb, hM5⟩ := hrel
            have HBB := Lib.hid hbb
            have y5 := hM5.blk y4
            have k5 := hM5.blk k4
            clear hbb
            by_cases cm : m < N
            · have hmO : m < O.length := by rw [HN.out]; exact cm
              obtain ⟨g9, c9', e9, -, hcell⟩ := own_cellsS (O4.out) (fun a ha => (key_sz (HOk.out a ha)).out) (by omega)
              have hc := hcell m hmO
              have KX := HOk.out _ (List.getElem_mem hmO)
              have zx := key_sz KX
              have ld9 : ∀ w, Mo w4 w → (loadF 72 (.pointer (some ⟨g9, m * 37, none⟩))).run Try.prog w = .ok (.agg O[m]) w := fun w mw => run_loadC _ 37 w g9 (m * 37) _ zx.out (fun j v hv => by
                have h1 := hc j v hv
                have : LtW g9 w4 := LtW.of_cell h1
                rw [mw.cell, h1])
              have ex := fun w => run_eql_flat fl_key w KX HYO.out
              simp only [eqlF_keyT] at ex
              have HT : Hid (∀ b, eqA O[m] y = b → (bb = true ∨ b = true ↔ y ∈ O.take (m + 1))) := Lib.hid fun b hb => by
                rw [List.take_add_one, List.getElem?_eq_getElem hmO, List.mem_append, ← HBB.out]
                refine or_congr Iff.rfl ?_
                simp only [Option.toList_some, List.mem_singleton]
                rw [← hb, eqA_iff]
                exact eq_comm
              have ld5 := ld9 _ (hM5.trans (mo_drew (Mo.refl _)))
              injection e9 with e9 e9' e9''
              subst e9 e9''
              have m0 : (0 : Int) ≤ m := by omega
              have m1 : (m : Int) < N := by omega
              have hwm : IntKind.i64.wrap ((m : Int) + 1) = m + 1 := by rw [IntKind.wrap_i64]; omega
              have oneX := one_of_fits KX
              generalize eqA O[m] y = r at *
              generalize O[m] = xm at *
              have HT' := Lib.hid (HT.out r rfl)
              clear hcell hc HT hmO KX cm
              cases bb with
              | true =>
                have HT2 : Hid (true = true ↔ y ∈ O.take (m + 1)) := Lib.hid ⟨fun _ => HT'.out.1 (.inl rfl), fun _ => rfl⟩
                clear ld5 ld9 ex HT' zx oneX
                go_upto_region 13 with (fail)
                go_region
                go_wp2_with fail
                go_roundw
                case rel => exact ⟨m + 1, true, by omega, by go_num, rfl, HT2.out, hM5.trans (mo_drew (Mo.refl _))⟩
                case measure => simp [intOf]; omega
              | false =>
                have HT2 : Hid (r = true ↔ y ∈ O.take (m + 1)) := Lib.hid ⟨fun h => HT'.out.1 (.inr h), fun h => by rcases HT'.out.2 h with h | h; cases h; exact h⟩
                clear HT'
                go_upto_region 13 with (fail)
                go_region
                go_wp2_with fail
                go_roundw
                case rel => exact ⟨m + 1, r, by omega, by go_num, rfl, HT2.out, hM5.trans (mo_drew (Mo.refl _))⟩
                case measure => simp [intOf]; omega
            · obtain rfl : m = N := by omega
              have HB2 : Hid (bb = true ↔ y ∈ O) := Lib.hid (by
                have := HBB.out
                rwa [List.take_of_length_le (by rw [HN.out]; exact Nat.le_refl _)] at this)
              have N5 : Mo w1 wr := M4.trans hM5
              have O5 : Hid (wr.ownsRow w1.heap.size 72 37 (.slice A9 m c9) m (rowS O)) := Lib.hid (by
                have := owns_mo O4.out hM5
                rwa [HN.out] at this)
              clear HBB O4 k4 y4 hM5
              cases bb with
              | true =>
                have HN2 := Lib.hid (S2.out (HB2.out.1 rfl))
                have dl : decide (room ≤ (m : Int)) = false := decide_eq_false (by omega)
                clear S2 S3' HB2
                go_wp2_with fail
                go_roundw
                case rel => exact ⟨p, (p : Int) - 1, O, by omega, rfl, by go_num, N5.trans Mor.out, by rw [HN.out]; exact owns_mo O5.out Mor.out, HN2.out, HkO.out, by rw [HN.out]; exact hOl, HOk.out, by rw [HN.out]; omega⟩
                case measure => simp [intOf]
              | false =>
                have HnO : Hid (¬ y ∈ O) := Lib.hid fun h => by have := HB2.out.2 h; cases this
                have HN2 := Lib.hid (S3'.out HnO.out)
                have HkO2 : Hid (¬ k ∈ O ++ [y]) := Lib.hid fun h => by
                  rcases List.mem_append.1 h with h | h
                  · exact HkO.out h
                  · rw [List.mem_singleton] at h; exact HNE.out h.symm
                have HOk2 : Hid (∀ a ∈ O ++ [y], KeyP a) := Lib.hid fun a ha => by
                  rcases List.mem_append.1 ha with h | h
                  · exact HOk.out a h
                  · rw [List.mem_singleton] at h; rw [h]; exact HYO.out
                have hm1000 : m ≤ 1000 := by omega
                clear S2 S3' HB2
                go_wp2_with (at_builtin; refine wpList_append_own _ rfl _ _ 68 rfl w1.heap.size 72 i0 (.agg key0) 37 48 Try.underlying68 hi hz0 hz1 hz2 (by kernel_rfl) (by decide) _ _ _ rfl (owns_mo O5.out (Mor.out : Mo wr _)) ⟨wr.heap.size, 0, none⟩ 1 1 y.toList rfl ?c1 ?c2 ?c3 ?c4 ?c5 ?c6 ?_)
                case c1 => rw [Array.length_toList, zy.out]
                case c2 =>
                  intro jj u hu
                  have ea : (⟨wr.heap.size, 0, none⟩ : Addr).add jj = ⟨wr.heap.size, jj, none⟩ := by
                    unfold Addr.add
                    split
                    · rename_i e; rw [e]
                    · rw [Nat.zero_add]
                  rw [ea, blk_cell (inferInstance : Blk _ wr.heap.size 72 y), ← Array.getElem?_toList]
                  exact hu
                case c3 => exact fun u hu => one_list (cs := y) inferInstance u hu
                case c4 => unfold maxLen; omega
                case c5 => omega
                case c6 => exact Nat.le_trans N5.size (Mo.size Mor.out)
                intro v' w7 hown1 hgrow hq7
                have hX : Mo w1 (wr.alloc (.cells y 72)) := N5.trans Mor.out
                have M7 : Mo w1 w7 := mo_grown hX hgrow (fun k e => (O5.out.lt k e).1)
                obtain ⟨m', hm'⟩ : ∃ x, m + 1 = x := ⟨_, rfl⟩
                rw [hm'] at hown1
                have HM' := Lib.hid hm'
                obtain ⟨A10, c10, rfl⟩ := row_slS hown1
                have HO7 : Hid (w7.ownsRow w1.heap.size 72 37 (.slice A10 m' c10) (O ++ [y]).length (rowS (O ++ [y]))) := Lib.hid (by
                  rw [List.length_append, HN.out, List.length_singleton, rowS_append, rowS_one, HM'.out]
                  exact hown1)
                have LL : Hid ((O ++ [y]).length = m') := Lib.hid (by rw [List.length_append, HN.out, List.length_singleton, HM'.out])
                have hm1' : m' ≤ m + 1 := by omega
                clear hown1 hgrow hq7 hX O5 hm'
                by_cases full : room ≤ (m' : Int)
                · have dl : decide (room ≤ (m' : Int)) = true := decide_eq_true full
                  have e5 := Lib.hid (HX.out.2.1 p (O ++ [y]) HN2.out HkO2.out (by rw [LL.out]; exact full))
                  clear full
                  go_wp2_with fail
                  go_ret
                  exact ⟨by rw [e5.out]; rfl, M1.trans (M7.trans Mor.out)⟩
                · have dl : decide (room ≤ (m' : Int)) = false := decide_eq_false full
                  have full' : (m' : Int) < room := by omega
                  clear full
                  go_wp2_with fail
                  go_roundw
                  case rel => exact ⟨p, (p : Int) - 1, O ++ [y], by omega, rfl, by go_num, M7.trans Mor.out, owns_mo HO7.out Mor.out, HN2.out, HkO2.out, by rw [LL.out]; exact full', HOk2.out, by rw [LL.out]; omega⟩
                  case measure => simp [intOf]
      · have dq : (q != 1) = true := by simp [cq]
        have HN := Lib.hid (S1.out cq)
        clear cq S1 S2 S3 S4
        go_wp2_with fail
        go_roundw
        case rel => exact ⟨p, (p : Int) - 1, O, by omega, rfl, by go_num, M4, O4.out, HN.out, HkO.out, hOl, HOk.out, by omega⟩
        case measure => simp [intOf]
set_option maxRecDepth 20000 in
set_option maxHeartbeats 16000000 in
theorem keys_any (A : Option Addr) (cap L n : Nat) (l : List Dg) (room : Int) (W : World) (hL : l.length = L) (h : DgsS W A cap l) (hb : ∀ d ∈ l, d.bs.length ≤ 200000) (hn : n ≤ L) (hm : L ≤ 1000) (r1 : 1 ≤ room) :
    Calls Try.prog 16 #[.slice A L cap, .int .i64 n, .int .i64 room] W fun e w' => e = .returned (.int .i64 (playM room l n).length) ∧ Mo W w' := by
  obtain ⟨i0, hi, hz0, hz1, hz2⟩ := info_parts infoKy
  have HD := Lib.hid h
  have HL := Lib.hid hL
  have HB := Lib.hid hb
  have HX : Hid ((∀ (j : Nat) (O : List (Array Value)), Behind (l.map doM) j n O → (O.length : Int) = room → ((playM room l n).length : Int) = O.length) ∧ (∀ O, Behind (l.map doM) 0 n O → (O.length : Int) ≤ room → ((playM room l n).length : Int) = O.length)) := Lib.hid ⟨fun j O h1 h2 => by
    rw [playM_eq]; exact keys_full r1 (by rw [List.length_map]; omega) h1 h2, fun O h1 h2 => by
    rw [playM_eq]; exact keys_all r1 (by rw [List.length_map]; omega) h1 h2⟩
  generalize ((playM room l n).length : Int) = res at *
  clear h hL hb
  go_enter Try.func16, Try.ntmps16
  go_wp2_with fail
  obtain ⟨w1, hw1⟩ : ∃ w, W = w := ⟨_, rfl⟩
  have M1 : Mo W w1 := by rw [← hw1]; exact Mo.refl _
  rw [hw1]
  clear hw1
  go_loopw [7, 8] (fun v i wr => ∃ (j : Nat) (z : Int) (O : List (Array Value)), j ≤ n ∧ z = (j : Int) - 1 ∧ i = .int .i64 z ∧ Mo w1 wr ∧ wr.ownsRow w1.heap.size 72 37 v O.length (rowS O) ∧ Behind (l.map doM) j n O ∧ (O.length : Int) ≤ room ∧ (∀ a ∈ O, KeyP a) ∧ O.length ≤ n - j) (fun _ i _ => (intOf i + 1).toNat)
  case atStart => exact ⟨n, (n : Int) - 1, [], Nat.le_refl _, rfl, by first | rfl | go_num, Mo.refl _, World.ownsRow_nil _ _ _ _, Behind.nil _ _, by simp; omega, fun a ha => (by cases ha), by simp⟩
  case round =>
    obtain ⟨j, z, O, hj, hz, rfl, hM, hO, hB, hOl, hOk, hOn⟩ := hrel
    have HO := Lib.hid hO
    have HBe := Lib.hid hB
    have HOk := Lib.hid hOk
    clear hO hB hOk
    obtain ⟨A9, c9, rfl⟩ := row_slS HO.out
    rcases Nat.eq_zero_or_pos j with rfl | cj
    · have d0 : decide (0 ≤ z) = false := decide_eq_false (by omega)
      have e1 := Lib.hid (HX.out.2 O HBe.out hOl)
      go_wp2_with fail
      go_ret
      exact ⟨by rw [e1.out]; rfl, M1.trans hM⟩
    · obtain ⟨p, rfl⟩ : ∃ p, j = p + 1 := ⟨j - 1, by omega⟩
      obtain rfl : z = (p : Int) := by omega
      have d0 : decide (0 ≤ (p : Int)) = true := decide_eq_true (by omega)
      by_cases full : (O.length : Int) < room
      case neg =>
        have d1 : decide ((O.length : Int) < room) = false := decide_eq_false full
        have e1 := Lib.hid (HX.out.1 (p + 1) O HBe.out (by omega))
        clear hz cj
        go_wp2_with fail
        go_ret
        exact ⟨by rw [e1.out]; rfl, M1.trans hM⟩
      have d1 : decide ((O.length : Int) < room) = true := decide_eq_true full
      have hjl : p < l.length := by rw [HL.out]; omega
      obtain ⟨g, off, B1, bc, rfl, ld, hb⟩ := (HD.out.mo (M1.trans hM)).get p hjl
      have XO := HD.out.ok _ (List.getElem_mem hjl)
      have KD := Lib.hid (fun w (m : Mo wr w) => kind_any l[p] _ w ⟨B1, bc, rfl, hb.mo m⟩ XO (HB.out _ (List.getElem_mem hjl)))
      have hd : l[p]? = some l[p] := List.getElem?_eq_getElem hjl
      have YO : KeyP (keyC l[p] (classP l[p].bs).1.h) := fits_key XO (by rw [classP_fst]; exact takeP_ok _ hb.byte)
      have S1 : Hid ((classP l[p].bs).2 ≠ 1 → Behind (l.map doM) p n O) := Lib.hid fun c => HBe.out.skip (y := doM l[p]) (by rw [List.getElem?_map, hd]; rfl) (fun h => c (doM_0.1 h))
      have S2 : Hid (keyC l[p] (classP l[p].bs).1.h ∈ O → Behind (l.map doM) p n O) := Lib.hid fun m => HBe.out.same (y := doM l[p]) (by rw [List.getElem?_map, hd]; rfl) m
      have S3 : Hid ((classP l[p].bs).2 = 1 → ¬ keyC l[p] (classP l[p].bs).1.h ∈ O → Behind (l.map doM) p n (O ++ [keyC l[p] (classP l[p].bs).1.h])) := Lib.hid fun c m => HBe.out.more (y := doM l[p]) (by omega) (by rw [List.getElem?_map, hd]; rfl) (doM_0.2 c) m
      have za := sz_wide XO.at_
      have zs := sz_ends XO.src
      have zt := sz_ends XO.dst
      have oa := one_of_fits XO.at_
      have os := one_of_fits XO.src
      have ot := one_of_fits XO.dst
      have zy := key_sz YO
      have oy := one_of_fits YO
      generalize keyC l[p] (classP l[p].bs).1.h = y at *
      generalize (classP l[p].bs).2 = q at *
      generalize (classP l[p].bs).1.h = ph at *
      generalize (classP l[p].bs).1.e.length = pe at *
      generalize (classP l[p].bs).1.m.length = pm at *
      generalize l[p].at_ = da at *
      generalize l[p].src = ds at *
      generalize l[p].dst = dd at *
      generalize l[p].bs.length = nb at *
      have HYO := Lib.hid YO
      have j0 : (0 : Int) ≤ p := by omega
      have j1 : (p : Int) < L := by omega
      have hw : IntKind.i64.wrap ((p : Int) - 1) = p - 1 := by rw [IntKind.wrap_i64]; omega
      have NW : Mo w1 wr := hM
      clear hjl XO hb hd YO hM hz cj
      go_wp2_with fail
      refine (KD.out _ Mor.out).mono ?_
      rintro e w3 ⟨u, rfl, ⟨a1, c1, a2, c2, rfl⟩, M3⟩
      have N3 : Mo wr w3 := Mo.trans Mor.out M3
      clear M3 KD ld
      go_upto_region 6 with (fail)
      refine wp_name ?_
      intro w4 hw4
      have y4 : Blk w4 (w3.heap.size + 1) 72 y := by rw [hw4]; infer_instance
      have N4 : Mo wr w4 := by rw [hw4]; exact N3.trans Mor.out
      clear hw4 N3
      have O4 := Lib.hid (owns_mo HO.out N4)
      have M4 : Mo w1 w4 := NW.trans N4
      obtain ⟨gy, hgy⟩ : ∃ x, w3.heap.size + 1 = x := ⟨_, rfl⟩
      rw [hgy] at y4 ⊢
      clear hgy HO NW N4
      obtain ⟨N, hN⟩ : ∃ N, O.length = N := ⟨_, rfl⟩
      have HN := Lib.hid hN
      rw [hN] at hOl hOn full ⊢
      have dqq : Hid ((q != 1) = true ↔ q ≠ 1) := Lib.hid (by simp)
      clear hN d0 d1
      go_wp2_with fail
      go_loopw [12, 13] (fun b i wx => ∃ (m : Nat) (bb : Bool), m ≤ N ∧ i = .int .i64 m ∧ b = .bool bb ∧ (bb = true ↔ q ≠ 1 ∨ y ∈ O.take m) ∧ Mo w4 wx) (fun _ i _ => N - (intOf i).toNat)
      case atStart => exact ⟨0, (q != 1), by omega, rfl, rfl, by simp, Mor.out⟩
      case round =>
        obtain ⟨m, bb, hm1, rfl, rfl, hbb, hM5⟩ := hrel
        have HBB := Lib.hid hbb
        have y5 := hM5.blk y4
        clear hbb
        by_cases cm : m < N
        · have hmO : m < O.length := by rw [HN.out]; exact cm
          obtain ⟨g9, c9', e9, -, hcell⟩ := own_cellsS (O4.out) (fun a ha => (key_sz (HOk.out a ha)).out) (by omega)
          have hc := hcell m hmO
          have KX := HOk.out _ (List.getElem_mem hmO)
          have zx := key_sz KX
          have ld9 : ∀ w, Mo w4 w → (loadF 72 (.pointer (some ⟨g9, m * 37, none⟩))).run Try.prog w = .ok (.agg O[m]) w := fun w mw => run_loadC _ 37 w g9 (m * 37) _ zx.out (fun j v hv => by
            have h1 := hc j v hv
            have : LtW g9 w4 := LtW.of_cell h1
            rw [mw.cell, h1])
          have ex := fun w => run_eql_flat fl_key w KX HYO.out
          simp only [eqlF_keyT] at ex
          have HT : Hid (∀ b, eqA O[m] y = b → (bb = true ∨ b = true ↔ q ≠ 1 ∨ y ∈ O.take (m + 1))) := Lib.hid fun b hb => by
            rw [List.take_add_one, List.getElem?_eq_getElem hmO, List.mem_append, ← or_assoc, ← HBB.out]
            refine or_congr Iff.rfl ?_
            simp only [Option.toList_some, List.mem_singleton]
            rw [← hb, eqA_iff]
            exact eq_comm
          have ld5 := ld9 _ (hM5.trans (mo_drew (Mo.refl _)))
          injection e9 with e9 e9' e9''
          subst e9 e9''
          have m0 : (0 : Int) ≤ m := by omega
          have m1 : (m : Int) < N := by omega
          have hwm : IntKind.i64.wrap ((m : Int) + 1) = m + 1 := by rw [IntKind.wrap_i64]; omega
          have oneX := one_of_fits KX
          generalize eqA O[m] y = r at *
          generalize O[m] = xm at *
          have HT' := Lib.hid (HT.out r rfl)
          clear hcell hc HT hmO KX cm
          cases bb with
          | true =>
            have HT2 : Hid (true = true ↔ q ≠ 1 ∨ y ∈ O.take (m + 1)) := Lib.hid ⟨fun _ => HT'.out.1 (.inl rfl), fun _ => rfl⟩
            clear ld5 ld9 ex HT' zx oneX
            go_upto_region 10 with (fail)
            go_region
            go_wp2_with fail
            go_roundw
            case rel => exact ⟨m + 1, true, by omega, by go_num, rfl, HT2.out, hM5.trans (mo_drew (Mo.refl _))⟩
            case measure => simp [intOf]; omega
          | false =>
            have HT2 : Hid (r = true ↔ q ≠ 1 ∨ y ∈ O.take (m + 1)) := Lib.hid ⟨fun h => HT'.out.1 (.inr h), fun h => by rcases HT'.out.2 h with h | h; cases h; exact h⟩
            clear HT'
            go_upto_region 10 with (fail)
            go_region
            go_wp2_with fail
            go_roundw
            case rel => exact ⟨m + 1, r, by omega, by go_num, rfl, HT2.out, hM5.trans (mo_drew (Mo.refl _))⟩
            case measure => simp [intOf]; omega
        · obtain rfl : m = N := by omega
          have HB2 : Hid (bb = true ↔ q ≠ 1 ∨ y ∈ O) := Lib.hid (by
            have := HBB.out
            rwa [List.take_of_length_le (by rw [HN.out]; exact Nat.le_refl _)] at this)
          have N5 : Mo w1 wr := M4.trans hM5
          have O5 : Hid (wr.ownsRow w1.heap.size 72 37 (.slice A9 m c9) m (rowS O)) := Lib.hid (by
            have := owns_mo O4.out hM5
            rwa [HN.out] at this)
          clear HBB O4 y4 hM5
          cases bb with
          | true =>
            have HN2 : Hid (Behind (l.map doM) p n O) := Lib.hid (by
              rcases Int.decEq q 1 with c | c
              · exact S1.out c
              · rcases HB2.out.1 rfl with h | h
                · exact absurd c h
                · exact S2.out h)
            clear S1 S2 S3 HB2
            go_wp2_with fail
            go_roundw
            case rel => exact ⟨p, (p : Int) - 1, O, by omega, rfl, by go_num, N5.trans Mor.out, by rw [HN.out]; exact owns_mo O5.out Mor.out, HN2.out, by rw [HN.out]; exact hOl, HOk.out, by rw [HN.out]; omega⟩
            case measure => simp [intOf]
          | false =>
            have HnO : Hid (¬ y ∈ O ∧ q = 1) := Lib.hid ⟨fun h => (by have := HB2.out.2 (.inr h); cases this), by
              rcases Int.decEq q 1 with c | c
              · have := HB2.out.2 (.inl c); cases this
              · exact c⟩
            have HN2 := Lib.hid (S3.out HnO.out.2 HnO.out.1)
            have HOk2 : Hid (∀ a ∈ O ++ [y], KeyP a) := Lib.hid fun a ha => by
              rcases List.mem_append.1 ha with h | h
              · exact HOk.out a h
              · rw [List.mem_singleton] at h; rw [h]; exact HYO.out
            have hm1000 : m ≤ 1000 := by omega
            clear S1 S2 S3 HB2
            go_wp2_with (at_builtin; refine wpList_append_own _ rfl _ _ 68 rfl w1.heap.size 72 i0 (.agg key0) 37 48 Try.underlying68 hi hz0 hz1 hz2 (by kernel_rfl) (by decide) _ _ _ rfl (owns_mo O5.out (Mor.out : Mo wr _)) ⟨wr.heap.size, 0, none⟩ 1 1 y.toList rfl ?c1 ?c2 ?c3 ?c4 ?c5 ?c6 ?_)
            case c1 => rw [Array.length_toList, zy.out]
            case c2 =>
              intro jj u hu
              have ea : (⟨wr.heap.size, 0, none⟩ : Addr).add jj = ⟨wr.heap.size, jj, none⟩ := by
                unfold Addr.add
                split
                · rename_i e; rw [e]
                · rw [Nat.zero_add]
              rw [ea, blk_cell (inferInstance : Blk _ wr.heap.size 72 y), ← Array.getElem?_toList]
              exact hu
            case c3 => exact fun u hu => one_list (cs := y) inferInstance u hu
            case c4 => unfold maxLen; omega
            case c5 => omega
            case c6 => exact Nat.le_trans N5.size (Mo.size Mor.out)
            intro v' w7 hown1 hgrow hq7
            have hX : Mo w1 (wr.alloc (.cells y 72)) := N5.trans Mor.out
            have M7 : Mo w1 w7 := mo_grown hX hgrow (fun k e => (O5.out.lt k e).1)
            obtain ⟨m', hm'⟩ : ∃ x, m + 1 = x := ⟨_, rfl⟩
            rw [hm'] at hown1
            have HM' := Lib.hid hm'
            obtain ⟨A10, c10, rfl⟩ := row_slS hown1
            have HO7 : Hid (w7.ownsRow w1.heap.size 72 37 (.slice A10 m' c10) (O ++ [y]).length (rowS (O ++ [y]))) := Lib.hid (by
              rw [List.length_append, HN.out, List.length_singleton, rowS_append, rowS_one, HM'.out]
              exact hown1)
            have LL : Hid ((O ++ [y]).length = m') := Lib.hid (by rw [List.length_append, HN.out, List.length_singleton, HM'.out])
            have hm1' : m' ≤ m + 1 := by omega
            clear hown1 hgrow hq7 hX O5 hm'
            have full' : (m' : Int) ≤ room := by omega
            go_wp2_with fail
            go_roundw
            case rel => exact ⟨p, (p : Int) - 1, O ++ [y], by omega, rfl, by go_num, M7.trans Mor.out, owns_mo HO7.out Mor.out, HN2.out, by rw [LL.out]; exact full', HOk2.out, by rw [LL.out]; omega⟩
            case measure => simp [intOf]
end Go.Proofs.Ytcflebggepmmcaa
