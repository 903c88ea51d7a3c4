/- horologelaw29.PendRule: the walk (printed by gen/genrule29.py). -/
import Derived.Test.YtlbkcjpnlnlmiaaPendR
namespace Go.Proofs.Ytlbkcjpnlnlmiaa
open Go.RowKit Go.Maps

set_option maxRecDepth 20000 in
theorem neqF_wide3 (x y : Value) : binOp .neq 40 x y = neqF 40 x y := rfl
set_option maxRecDepth 20000 in
theorem en_at (k a : Array Value) (d : Bool) [hk : SzA k 37] [ha : SzA a 2] : (enC k a d).extract 37 39 = a := ext_mid k a #[.bool d] 37 39 hk.out (by rw [ha.out])
set_option maxRecDepth 20000 in
theorem ask_fst (room : Int) (E : List En) (k a : Array Value) : (askE room E k a).1 = hasE E k := by
  unfold askE
  split <;> rfl
set_option maxRecDepth 20000 in
theorem ask_ok {room : Int} {E : List En} {k a : Array Value} {e : En} (h : ∀ e ∈ E, EnOk e) (n : EnOk ⟨k, a, false⟩) (he : (askE room E k a).2.1 = some e) : EnOk e := by
  unfold askE at he
  split at he
  · cases he
  · have hm := List.mem_of_mem_head? he
    rcases List.mem_append.1 hm with q | q
    · exact h e (strike_mem.1 q).1
    · rw [List.mem_singleton] at q; rw [q]; exact n
set_option maxRecDepth 20000 in
theorem out_form (o : Option En) (h : ∀ e, o = some e → EnOk e) : ∃ cs, outV o = .agg cs ∧ SzA cs 40 ∧ OneA cs := by
  cases o with
  | none => exact ⟨_, rfl, inferInstance, inferInstance⟩
  | some e =>
    have ok := h e rfl
    have z1 := key_sz ok.k
    have z2 := at_sz ok.a
    have y1 := one_of_fits ok.k
    have y2 := one_of_fits ok.a
    exact ⟨_, rfl, inferInstance, inferInstance⟩
open Classical in
set_option maxRecDepth 20000 in
theorem scan_succ (l : List Do) (xk : Array Value) (n : Nat) (h : n < l.length) : scanN l xk (n + 1) = if l[n].k = xk then (if l[n].kd = 0 then ((n : Int), false) else if l[n].kd = 1 then ((scanN l xk n).1, true) else scanN l xk n) else scanN l xk n := by
  rw [scanN, List.getElem?_eq_getElem h]
set_option maxRecDepth 20000 in
theorem scan_bd (l : List Do) (xk : Array Value) : ∀ n, n ≤ l.length → -1 ≤ (scanN l xk n).1 ∧ (scanN l xk n).1 < (n : Int) + 1
  | 0, _ => ⟨by simp [scanN], by simp [scanN]⟩
  | n + 1, h => by
    have ih := scan_bd l xk n (by omega)
    rw [scan_succ l xk n (by omega)]
    split
    · split
      · simp only; omega
      · split
        · simp only; omega
        · omega
    · omega
set_option maxRecDepth 20000 in
theorem DoS.upto {W : World} {A : Option Addr} {cap : Nat} {l : List Do} (h : DoS W A cap l) (b : Nat) (hb : b ≤ l.length) :
    ∃ A', DoS W A' cap (l.take b) ∧ ∀ w : World, (Instr.sliceAt 22 (.slice A l.length cap) none (some (.int .i64 (b : Int))) none).run Try.prog w = .ok (.slice A' b cap) w := by
  have hle := h.le
  have hlim := h.lim
  have h1 : ∀ w : World, (Instr.slice 22 (.slice A l.length cap) none (some (.int .i64 (b : Int))) none).run Try.prog w = .ok (sliced A 0 b cap 40) w := fun w => by
    rw [run_slice_h w 22 A l.length cap Try.underlying22 .i64 b (by omega) (by omega), sizeDo]
    rfl
  have h2 : ∀ w : World, (Instr.sliceAt 22 (.slice A l.length cap) none (some (.int .i64 (b : Int))) none).run Try.prog w = .ok (sliced A 0 b cap 40) w := fun w => by
    rw [run_sliceAt_slice w 22 _ _ _ _ Try.underlying22]
    exact h1 w
  unfold sliced at h2
  refine ⟨_, ⟨by rw [List.length_take]; omega, by rw [List.length_take]; omega, fun d hd => h.ok d (List.mem_of_mem_take hd), ?_, ?_⟩, h2⟩
  · intro e
    by_cases c : cap = 0
    · exact c
    · rw [if_neg c] at e
      cases A with
      | none => exact h.nil rfl
      | some x => cases e
  · by_cases z : b = 0
    · exact .inl (by rw [z, List.take_zero])
    · rcases h.at_ with e | ⟨g, off, rfl, hc⟩
      · rw [e] at hb; simp at hb; omega
      · rw [if_neg (show ¬ cap = 0 by omega)]
        refine .inr ⟨g, off, ?_, fun i hi j v hv => ?_⟩
        · show some ((⟨g, off, none⟩ : Addr).add (0 * 40)) = _
          rw [Go.WideShapes.add_plain, Nat.zero_mul, Nat.add_zero]
        · rw [List.length_take] at hi
          rw [List.getElem_take] at hv
          exact hc i (by omega) j v hv
attribute [local go_sem] blk_cell' blk_frozen' do_kd do_key do_at en_at
attribute [local go_sem ↓] loadF_key loadF_do storeF_do neqF_key3 loadF_entry storeF_entry loadF_wide' neqF_wide3
attribute [local go_sem] run_loadFo run_loadFz run_loadF0 run_storeF0
set_option maxRecDepth 20000 in
set_option maxHeartbeats 40000000 in
theorem rule29_any (room : Int) (A : Option Addr) (cap L : Nat) (l : List Do) (W : World) (hr : -9223372036854775808 ≤ room ∧ room ≤ 9223372036854775807) (hL : l.length = L) (h : DoS W A cap l) :
    Calls Try.prog 3 #[.int .i64 room, .slice A L cap] W fun e w' => e = .returned (.bool true) ∧ Mo W w' := by
  have WK := Lib.hid works29_any
  have HD := Lib.hid h
  have hlim := h.lim
  rw [hL] at hlim
  have HL := Lib.hid hL
  clear h hL
  by_cases c0 : 200 < L
  · have d0 : decide (200 < (L : Int)) = true := decide_eq_true (by omega)
    go_enter Try.func3, Try.ntmps3
    go_wp2_with fail
    refine (WK.out _).mono ?_
    rintro e w1 ⟨rfl, M1⟩
    go_wp2_with fail
    go_ret
    exact ⟨rfl, Mo.trans Mor.out M1⟩
  have d0 : decide (200 < (L : Int)) = false := decide_eq_false (by omega)
  go_enter Try.func3, Try.ntmps3
  go_wp2_with fail
  refine (WK.out _).mono ?_
  rintro e w1 ⟨rfl, M1⟩
  have M1' := (Mor.out : Mo W _).trans M1
  clear M1
  go_wp2_with fail
  by_cases cr : 1 ≤ room ∧ room ≤ 65536
  · refine (new_in room cr _).mono ?_
    rintro e w2 ⟨T, B, rfl, T2, M2⟩
    have M2' := M1'.trans (Mo.trans (Mor.out : Mo w1 _) M2)
    replace T2 := Lib.hid (T2.weak (Q := fun i => W.heap.size ≤ i) fun i _ h => Nat.le_trans (M1'.trans (Mor.out : Mo w1 _)).size h)
    clear M2 M1'
    go_wp2_with fail
    go_loopw [45] (fun i wr => ∃ j : Nat, j ≤ L ∧ i = .int .i64 j ∧ Mo W wr ∧ TabE wr T B room (playE room l j) (fun i => W.heap.size ≤ i)) (fun i _ => L - (intOf i).toNat)
    case atStart => exact ⟨0, by omega, rfl, M2', T2.out⟩
    case round =>
      obtain ⟨j, hj, rfl, hM, hT⟩ := hrel
      have HT := Lib.hid hT
      clear hT
      by_cases cj : j < L
      · have hjl : j < l.length := by rw [HL.out]; exact cj
        obtain ⟨g, off, rfl, ld, -, -⟩ := (HD.out.mo hM).get j hjl
        have PE : Hid (playE room l (j + 1) = stepE room (playE room l j) l[j]) := Lib.hid (by rw [playE, List.getElem?_eq_getElem hjl])
        have RL := rule_law cr.1 l l[j].k j (by omega)
        have XO := HD.out.ok _ (List.getElem_mem hjl)
        have EL0 := playE_len cr.1 l j
        obtain ⟨A', hU, hs⟩ := HD.out.upto j (by omega)
        rw [HL.out] at hs
        have HU := Lib.hid hU
        have i0 : (0 : Int) ≤ j := by omega
        have i1 : (j : Int) < L := by omega
        generalize l[j] = x at *
        obtain ⟨xd, xk, xa⟩ := x
        have zk := key_sz XO.k
        have za := at_sz XO.a
        have ok1 := one_of_fits XO.k
        have oa1 := one_of_fits XO.a
        simp only at zk za ok1 oa1 RL
        have XOK := Lib.hid XO
        have HRL := Lib.hid RL
        clear hU XO RL hjl
        go_upto_region 11 with (fail)
        refine wp_name ?_
        intro w3 hw3
        have b3 : Blk w3 wr.heap.size 42 (doC ⟨xd, xk, xa⟩) := by rw [hw3]; infer_instance
        have M3 : Mo W w3 := by rw [hw3]; exact hM.trans Mor.out
        have T3 : Hid (TabE w3 T B room (playE room l j) (fun i => W.heap.size ≤ i ∧ i < wr.heap.size)) := Lib.hid (by rw [hw3]; exact (HT.out.weak (Q := fun i => W.heap.size ≤ i ∧ i < wr.heap.size) fun i h1 h2 => ⟨h2, by omega⟩).mo Mor.out)
        clear hw3 ld HT hM
        generalize wr.heap.size = b8 at *
        obtain ⟨P, hP⟩ : ∃ P : Nat → Prop, P = fun i => W.heap.size ≤ i ∧ i < b8 := ⟨_, rfl⟩
        rw [← hP] at T3
        have PW : Hid (∀ i, P i → W.heap.size ≤ i) := Lib.hid fun i h => by rw [hP] at h; exact h.1
        have EL : Hid ((playE room l j).length ≤ 65536) := Lib.hid (by have := cr.2; omega)
        clear hP EL0
        obtain ⟨E, hE⟩ : ∃ E, playE room l j = E := ⟨_, rfl⟩
        rw [hE] at T3 EL HRL PE
        clear hE
        go_wp2_with fail
        go_loopw [9, 10, 54] (fun la an i w => ∃ m : Nat, m ≤ j ∧ la = .int .i64 (scanN l xk m).1 ∧ an = .bool (scanN l xk m).2 ∧ i = .int .i64 m ∧ Mo w3 w) (fun _ _ i _ => j - (intOf i).toNat)
        case atStart => exact ⟨0, by omega, rfl, rfl, rfl, Mor.out⟩
        case round =>
          obtain ⟨m, hm, rfl, rfl, rfl, Mi2⟩ := hrel
          by_cases cm : m < j
          · have hml : m < (l.take j).length := by rw [List.length_take, HL.out]; omega
            obtain ⟨g', off', rfl, ld, -, -⟩ := (HU.out.mo (M3.trans Mi2)).get m hml
            rw [List.getElem_take] at ld
            have hml' : m < l.length := by rw [HL.out]; omega
            have SS := scan_succ l xk m hml'
            have YO := HD.out.ok _ (List.getElem_mem hml')
            generalize l[m] = y at *
            obtain ⟨yd, yk, ya⟩ := y
            have yzk := key_sz YO.k
            have yza := at_sz YO.a
            have yok1 := one_of_fits YO.k
            have yoa1 := one_of_fits YO.a
            simp only at yzk yza yok1 yoa1 SS
            have YOK := Lib.hid YO
            have i2 : (0 : Int) ≤ m := by omega
            have i3 : (m : Int) < j := by omega
            have bi : Blk _ b8 42 (doC ⟨xd, xk, xa⟩) := Mi2.blk b3
            clear YO hml hml'
            have nq := fun w => run_neq_flat fl_key w YOK.out.k XOK.out.k
            rw [neqF_key3] at nq
            by_cases ck : yk = xk
            · have dk : eqA yk xk = true := eqA_iff.2 ck
              rw [dk] at nq
              rw [if_pos ck] at SS
              clear ck
              by_cases k0 : yd = 0
              · have dk0 : (yd == 0) = true := by simp [k0]
                rw [if_pos k0] at SS
                clear k0
                have HSS := Lib.hid SS
                clear SS
                go_wp2_with fail
                go_roundw
                case rel => exact ⟨m + 1, by omega, by rw [HSS.out], by rw [HSS.out], by go_num, Mi2.trans Mor.out⟩
                case measure => simp [intOf]; omega
              · have dk0 : (yd == 0) = false := by simp [k0]
                rw [if_neg k0] at SS
                clear k0
                by_cases k1 : yd = 1
                · have dk1 : (yd == 1) = true := by simp [k1]
                  rw [if_pos k1] at SS
                  clear k1
                  have HSS := Lib.hid SS
                  clear SS
                  go_wp2_with fail
                  go_roundw
                  case rel => exact ⟨m + 1, by omega, by rw [HSS.out], by rw [HSS.out], by go_num, Mi2.trans Mor.out⟩
                  case measure => simp [intOf]; omega
                · have dk1 : (yd == 1) = false := by simp [k1]
                  rw [if_neg k1] at SS
                  clear k1
                  have HSS := Lib.hid SS
                  clear SS
                  go_wp2_with fail
                  go_roundw
                  case rel => exact ⟨m + 1, by omega, by rw [HSS.out], by rw [HSS.out], by go_num, Mi2.trans Mor.out⟩
                  case measure => simp [intOf]; omega
            · have dk : eqA yk xk = false := by rw [Bool.eq_false_iff]; exact fun c => ck (eqA_iff.1 c)
              rw [dk] at nq
              rw [if_neg ck] at SS
              clear ck
              have HSS := Lib.hid SS
              clear SS
              go_wp2_with fail
              go_roundw
              case rel => exact ⟨m + 1, by omega, by rw [HSS.out], by rw [HSS.out], by go_num, Mi2.trans Mor.out⟩
              case measure => simp [intOf]; omega
          · obtain rfl : j = m := by omega
            have b4 : Blk wr b8 42 (doC ⟨xd, xk, xa⟩) := Mi2.blk b3
            have T4 := Lib.hid (T3.out.mo Mi2)
            have M4 := M3.trans Mi2
            have R := HRL.out
            clear hm cm b3 T3 M3 HRL Mi2 HU hs
            generalize scanN l xk j = sc at *
            obtain ⟨sl, sa⟩ := sc
            simp only at R
            rcases R with ⟨rfl, fe⟩ | ⟨m, ⟨yd, yk, ya⟩, rfl, hm, hy, hyk, R⟩
            · have FE := Lib.hid fe
              clear fe
              go_upto_region 27 with (fail)
              refine wp_name ?_
              intro w4n hw
              have b4n : Blk w4n b8 42 (doC ⟨xd, xk, xa⟩) := by rw [hw]; infer_instance
              have T4n : Hid (TabE w4n T B room E P) := Lib.hid (by rw [hw]; exact T4.out.mo Mor.out)
              have M4n : Mo W w4n := by rw [hw]; exact M4.trans Mor.out
              clear hw b4 T4 M4
              have f1 : outV (findE E xk) = .agg (enC key0 wdz false) := by rw [FE.out]; rfl
              have f2 : hasE E xk = false := by rw [hasE_find, FE.out]; rfl
              go_wp2_with fail
              refine (find_e T B room E P xk _ (T4n.out.mo Mor.out) XOK.out.k).mono ?_
              rintro e wf ⟨rfl, Mf⟩
              rw [f1, f2]
              have Nf := (Mor.out : Mo w4n _).trans Mf
              have bf : Blk wf b8 42 (doC ⟨xd, xk, xa⟩) := Nf.blk b4n
              have Tf := Lib.hid (T4n.out.mo Nf)
              have MF := M4n.trans Nf
              clear Mf Nf b4n T4n M4n
              go_upto_region 28 with (fail)
              refine wp_name ?_
              intro wg hwg
              have bg : Blk wg b8 42 (doC ⟨xd, xk, xa⟩) := by rw [hwg]; infer_instance
              have Tg : Hid (TabE wg T B room E P) := Lib.hid (by rw [hwg]; exact Tf.out.mo Mor.out)
              have Mg : Mo W wg := by rw [hwg]; exact MF.trans Mor.out
              clear hwg bf Tf MF
              by_cases k0 : xd = 0
              · have dk0 : (xd == 0) = true := by simp [k0]
                have SE : Hid (playE room l (j + 1) = (askE room E xk xa).2.2) := Lib.hid (by rw [PE.out, stepE, if_pos k0])
                clear k0
                go_wp2_with fail
                refine (ask_e T B room E P xk xa _ (Tg.out.mo Mor.out) XOK.out.k XOK.out.a EL.out).mono ?_
                rintro e wh ⟨r, hr, rfl, Th, Kh⟩
                have h1 : r.1 = false := by rw [← hr, ask_fst, f2]
                obtain ⟨cs, e1, s1, s2⟩ := out_form r.2.1 (fun e he => ask_ok (Tg.out.ok) ⟨XOK.out.k, XOK.out.a⟩ (by rw [hr]; exact he))
                rw [h1, e1]
                generalize r.2.1.isSome = gone
                have Mh : Mo W wh := Kh.mo (Mg.trans Mor.out) (fun i _ h => PW.out i h)
                have Th' := Lib.hid (Th.weak (Q := fun i => W.heap.size ≤ i) fun i _ h => by rcases h with h | h; exact PW.out i h; exact Nat.le_trans (Mg.trans (Mor.out : Mo wg _)).size h)
                rw [← hr, ← SE.out] at Th'
                clear Kh Th bg Tg Mg h1 e1 hr
                go_wp2_with fail
                go_roundw
                case rel => exact ⟨j + 1, by omega, by go_num, Mh.trans Mor.out, Th'.out.mo Mor.out⟩
                case measure => simp [intOf]; omega
              · have dk0 : (xd == 0) = false := by simp [k0]
                by_cases k1 : xd = 1
                · have dk1 : (xd == 1) = true := by simp [k1]
                  have SE : Hid (playE room l (j + 1) = ansE E xk) := Lib.hid (by rw [PE.out, stepE, if_neg k0, if_pos k1])
                  have AV : ansV E xk = (.agg (enC xk wdz false), 7) := by unfold ansV; rw [FE.out]
                  clear k0 k1
                  go_wp2_with fail
                  refine (answer_e T B room E P xk _ (Tg.out.mo Mor.out) XOK.out.k).mono ?_
                  rintro e wh ⟨r, hr, rfl, Th, Kh⟩
                  rw [AV] at hr
                  subst hr
                  have Mh : Mo W wh := Kh.mo (Mg.trans Mor.out) (fun i _ h => PW.out i h)
                  have Th' := Lib.hid (Th.weak (Q := fun i => W.heap.size ≤ i) fun i _ h => PW.out i h)
                  rw [← SE.out] at Th'
                  clear Kh Th bg Tg Mg AV
                  go_upto_region 37 with (fail)
                  refine wp_name ?_
                  intro wi hwi
                  have ri : Blk wi wh.heap.size 45 (enC xk wdz false) := by rw [hwi]; infer_instance
                  have Mi : Mo W wi := by rw [hwi]; exact Mh.trans Mor.out
                  have Ti : Hid (TabE wi T B room (playE room l (j + 1)) fun i => W.heap.size ≤ i) := Lib.hid (by rw [hwi]; exact Th'.out.mo Mor.out)
                  clear hwi Th' Mh
                  go_region
                  go_wp2_with fail
                  go_roundw
                  case rel => exact ⟨j + 1, by omega, by go_num, mo_drew Mi, Ti.out.mo (mo_drew (Mo.refl _))⟩
                  case measure => simp [intOf]; omega
                · have dk1 : (xd == 1) = false := by simp [k1]
                  have SE : Hid (playE room l (j + 1) = E) := Lib.hid (by rw [PE.out, stepE, if_neg k0, if_neg k1])
                  clear k0 k1
                  go_wp2_with fail
                  go_roundw
                  case rel => exact ⟨j + 1, by omega, by go_num, Mg.trans Mor.out, (SE.out ▸ (Tg.out.weak fun i _ h => PW.out i h : TabE wg T B room E fun i => W.heap.size ≤ i)).mo Mor.out⟩
                  case measure => simp [intOf]; omega
            · simp only at hyk
              obtain rfl : xk = yk := hyk.symm
              have hmL : m < l.length := by rw [HL.out]; omega
              have ly : l[m] = (⟨yd, xk, ya⟩ : Do) := (List.getElem?_eq_some_iff.1 hy).2
              have YOK0 := HD.out.ok _ (List.getElem_mem hmL)
              rw [ly] at YOK0
              have YA := Lib.hid YOK0.a
              have LA : Hid (∀ w, Mo W w → (loadF 40 (.pointer (some ⟨g, off + m * 40 + 38, none⟩))).run Try.prog w = .ok (.agg ya) w) := Lib.hid (fun w k => by
                obtain ⟨g', off', e, -, -, h2⟩ := (HD.out.mo k).get m hmL
                injection e with e
                injection e with e e'
                subst e e'
                rw [ly] at h2
                exact h2)
              have yza := at_sz YOK0.a
              have yoa1 := one_of_fits YOK0.a
              have i4 : (0 : Int) ≤ m := by omega
              have i5 : (m : Int) < L := by omega
              have OT := Lib.hid (fun w (k : Mo W w) => others_any (some ⟨g, off, none⟩) cap L m j l ⟨yd, xk, ya⟩ w HL.out (HD.out.mo k) hm hj hy)
              simp only at OT
              clear hmL ly YOK0 hy hm
              generalize (othK l xk m j).length = no at *
              go_wp2_with fail
              refine (OT.out _ (M4.trans Mor.out)).mono ?_
              rintro e w5 ⟨rfl, M5⟩
              have N5 := (Mor.out : Mo wr _).trans M5
              have b5 : Blk w5 b8 42 (doC ⟨xd, xk, xa⟩) := N5.blk b4
              have T5 := Lib.hid (T4.out.mo N5)
              have M5' := M4.trans N5
              clear M5 N5 b4 T4 M4 OT
              replace M5 := M5'
              rcases R with ⟨c, fe⟩ | ⟨c, fe⟩
              · have dc : decide ((no : Int) < room) = true := decide_eq_true c
                cases sa with
                | true =>
                  have FE := Lib.hid fe
                  clear fe c
                  go_upto_region 27 with (fail)
                  refine wp_name ?_
                  intro w5n hw
                  have b5n : Blk w5n b8 42 (doC ⟨xd, xk, xa⟩) := by rw [hw]; infer_instance
                  have T5n : Hid (TabE w5n T B room E P) := Lib.hid (by rw [hw]; exact T5.out.mo Mor.out)
                  have M5n : Mo W w5n := by rw [hw]; exact M5.trans Mor.out
                  clear hw b5 T5 M5
                  have f1 : outV (findE E xk) = .agg (enC xk ya true) := by rw [FE.out]; rfl
                  have f2 : hasE E xk = true := by rw [hasE_find, FE.out]; rfl
                  go_wp2_with fail
                  refine (find_e T B room E P xk _ (T5n.out.mo Mor.out) XOK.out.k).mono ?_
                  rintro e wf ⟨rfl, Mf⟩
                  rw [f1, f2]
                  have Nf := (Mor.out : Mo w5n _).trans Mf
                  have bf : Blk wf b8 42 (doC ⟨xd, xk, xa⟩) := Nf.blk b5n
                  have Tf := Lib.hid (T5n.out.mo Nf)
                  have MF := M5n.trans Nf
                  clear Mf Nf b5n T5n M5n
                  go_upto_region 28 with (fail)
                  refine wp_name ?_
                  intro wg hwg
                  have bg : Blk wg b8 42 (doC ⟨xd, xk, xa⟩) := by rw [hwg]; infer_instance
                  have Tg : Hid (TabE wg T B room E P) := Lib.hid (by rw [hwg]; exact Tf.out.mo Mor.out)
                  have Mg : Mo W wg := by rw [hwg]; exact MF.trans Mor.out
                  clear hwg bf Tf MF
                  by_cases k0 : xd = 0
                  · have dk0 : (xd == 0) = true := by simp [k0]
                    have SE : Hid (playE room l (j + 1) = (askE room E xk xa).2.2) := Lib.hid (by rw [PE.out, stepE, if_pos k0])
                    clear k0
                    go_wp2_with fail
                    refine (ask_e T B room E P xk xa _ (Tg.out.mo Mor.out) XOK.out.k XOK.out.a EL.out).mono ?_
                    rintro e wh ⟨r, hr, rfl, Th, Kh⟩
                    have h1 : r.1 = true := by rw [← hr, ask_fst, f2]
                    obtain ⟨cs, e1, s1, s2⟩ := out_form r.2.1 (fun e he => ask_ok (Tg.out.ok) ⟨XOK.out.k, XOK.out.a⟩ (by rw [hr]; exact he))
                    rw [h1, e1]
                    generalize r.2.1.isSome = gone
                    have Mh : Mo W wh := Kh.mo (Mg.trans Mor.out) (fun i _ h => PW.out i h)
                    have Th' := Lib.hid (Th.weak (Q := fun i => W.heap.size ≤ i) fun i _ h => by rcases h with h | h; exact PW.out i h; exact Nat.le_trans (Mg.trans (Mor.out : Mo wg _)).size h)
                    rw [← hr, ← SE.out] at Th'
                    clear Kh Th bg Tg Mg h1 e1 hr
                    go_wp2_with fail
                    go_roundw
                    case rel => exact ⟨j + 1, by omega, by go_num, Mh.trans Mor.out, Th'.out.mo Mor.out⟩
                    case measure => simp [intOf]; omega
                  · have dk0 : (xd == 0) = false := by simp [k0]
                    by_cases k1 : xd = 1
                    · have dk1 : (xd == 1) = true := by simp [k1]
                      have SE : Hid (playE room l (j + 1) = ansE E xk) := Lib.hid (by rw [PE.out, stepE, if_neg k0, if_pos k1])
                      have AV : ansV E xk = (.agg (enC xk ya true), 6) := by unfold ansV; rw [FE.out]; rfl
                      clear k0 k1
                      go_wp2_with fail
                      refine (answer_e T B room E P xk _ (Tg.out.mo Mor.out) XOK.out.k).mono ?_
                      rintro e wh ⟨r, hr, rfl, Th, Kh⟩
                      rw [AV] at hr
                      subst hr
                      have Mh : Mo W wh := Kh.mo (Mg.trans Mor.out) (fun i _ h => PW.out i h)
                      have Th' := Lib.hid (Th.weak (Q := fun i => W.heap.size ≤ i) fun i _ h => PW.out i h)
                      rw [← SE.out] at Th'
                      clear Kh Th bg Tg Mg AV
                      go_upto_region 37 with (fail)
                      refine wp_name ?_
                      intro wi hwi
                      have ri : Blk wi wh.heap.size 45 (enC xk ya true) := by rw [hwi]; infer_instance
                      have Mi : Mo W wi := by rw [hwi]; exact Mh.trans Mor.out
                      have Ti : Hid (TabE wi T B room (playE room l (j + 1)) fun i => W.heap.size ≤ i) := Lib.hid (by rw [hwi]; exact Th'.out.mo Mor.out)
                      clear hwi Th' Mh
                      have la := LA.out wi.drew (mo_drew Mi)
                      have nw := run_neq_flat fl_wide wi.drew YA.out YA.out
                      rw [neqF_wide3, eqA_self] at nw
                      go_region
                      go_wp2_with fail
                      go_roundw
                      case rel => exact ⟨j + 1, by omega, by go_num, mo_drew Mi, Ti.out.mo (mo_drew (Mo.refl _))⟩
                      case measure => simp [intOf]; omega
                    · have dk1 : (xd == 1) = false := by simp [k1]
                      have SE : Hid (playE room l (j + 1) = E) := Lib.hid (by rw [PE.out, stepE, if_neg k0, if_neg k1])
                      clear k0 k1
                      go_wp2_with fail
                      go_roundw
                      case rel => exact ⟨j + 1, by omega, by go_num, Mg.trans Mor.out, (SE.out ▸ (Tg.out.weak fun i _ h => PW.out i h : TabE wg T B room E fun i => W.heap.size ≤ i)).mo Mor.out⟩
                      case measure => simp [intOf]; omega
                | false =>
                  have FE := Lib.hid fe
                  clear fe c
                  go_upto_region 27 with (fail)
                  refine wp_name ?_
                  intro w5n hw
                  have b5n : Blk w5n b8 42 (doC ⟨xd, xk, xa⟩) := by rw [hw]; infer_instance
                  have T5n : Hid (TabE w5n T B room E P) := Lib.hid (by rw [hw]; exact T5.out.mo Mor.out)
                  have M5n : Mo W w5n := by rw [hw]; exact M5.trans Mor.out
                  clear hw b5 T5 M5
                  have f1 : outV (findE E xk) = .agg (enC xk ya false) := by rw [FE.out]; rfl
                  have f2 : hasE E xk = true := by rw [hasE_find, FE.out]; rfl
                  go_wp2_with fail
                  refine (find_e T B room E P xk _ (T5n.out.mo Mor.out) XOK.out.k).mono ?_
                  rintro e wf ⟨rfl, Mf⟩
                  rw [f1, f2]
                  have Nf := (Mor.out : Mo w5n _).trans Mf
                  have bf : Blk wf b8 42 (doC ⟨xd, xk, xa⟩) := Nf.blk b5n
                  have Tf := Lib.hid (T5n.out.mo Nf)
                  have MF := M5n.trans Nf
                  clear Mf Nf b5n T5n M5n
                  go_upto_region 28 with (fail)
                  refine wp_name ?_
                  intro wg hwg
                  have bg : Blk wg b8 42 (doC ⟨xd, xk, xa⟩) := by rw [hwg]; infer_instance
                  have Tg : Hid (TabE wg T B room E P) := Lib.hid (by rw [hwg]; exact Tf.out.mo Mor.out)
                  have Mg : Mo W wg := by rw [hwg]; exact MF.trans Mor.out
                  clear hwg bf Tf MF
                  by_cases k0 : xd = 0
                  · have dk0 : (xd == 0) = true := by simp [k0]
                    have SE : Hid (playE room l (j + 1) = (askE room E xk xa).2.2) := Lib.hid (by rw [PE.out, stepE, if_pos k0])
                    clear k0
                    go_wp2_with fail
                    refine (ask_e T B room E P xk xa _ (Tg.out.mo Mor.out) XOK.out.k XOK.out.a EL.out).mono ?_
                    rintro e wh ⟨r, hr, rfl, Th, Kh⟩
                    have h1 : r.1 = true := by rw [← hr, ask_fst, f2]
                    obtain ⟨cs, e1, s1, s2⟩ := out_form r.2.1 (fun e he => ask_ok (Tg.out.ok) ⟨XOK.out.k, XOK.out.a⟩ (by rw [hr]; exact he))
                    rw [h1, e1]
                    generalize r.2.1.isSome = gone
                    have Mh : Mo W wh := Kh.mo (Mg.trans Mor.out) (fun i _ h => PW.out i h)
                    have Th' := Lib.hid (Th.weak (Q := fun i => W.heap.size ≤ i) fun i _ h => by rcases h with h | h; exact PW.out i h; exact Nat.le_trans (Mg.trans (Mor.out : Mo wg _)).size h)
                    rw [← hr, ← SE.out] at Th'
                    clear Kh Th bg Tg Mg h1 e1 hr
                    go_wp2_with fail
                    go_roundw
                    case rel => exact ⟨j + 1, by omega, by go_num, Mh.trans Mor.out, Th'.out.mo Mor.out⟩
                    case measure => simp [intOf]; omega
                  · have dk0 : (xd == 0) = false := by simp [k0]
                    by_cases k1 : xd = 1
                    · have dk1 : (xd == 1) = true := by simp [k1]
                      have SE : Hid (playE room l (j + 1) = ansE E xk) := Lib.hid (by rw [PE.out, stepE, if_neg k0, if_pos k1])
                      have AV : ansV E xk = (.agg (enC xk ya false), 4) := by unfold ansV; rw [FE.out]; rfl
                      clear k0 k1
                      go_wp2_with fail
                      refine (answer_e T B room E P xk _ (Tg.out.mo Mor.out) XOK.out.k).mono ?_
                      rintro e wh ⟨r, hr, rfl, Th, Kh⟩
                      rw [AV] at hr
                      subst hr
                      have Mh : Mo W wh := Kh.mo (Mg.trans Mor.out) (fun i _ h => PW.out i h)
                      have Th' := Lib.hid (Th.weak (Q := fun i => W.heap.size ≤ i) fun i _ h => PW.out i h)
                      rw [← SE.out] at Th'
                      clear Kh Th bg Tg Mg AV
                      go_upto_region 37 with (fail)
                      refine wp_name ?_
                      intro wi hwi
                      have ri : Blk wi wh.heap.size 45 (enC xk ya false) := by rw [hwi]; infer_instance
                      have Mi : Mo W wi := by rw [hwi]; exact Mh.trans Mor.out
                      have Ti : Hid (TabE wi T B room (playE room l (j + 1)) fun i => W.heap.size ≤ i) := Lib.hid (by rw [hwi]; exact Th'.out.mo Mor.out)
                      clear hwi Th' Mh
                      have la := LA.out wi.drew (mo_drew Mi)
                      have nw := run_neq_flat fl_wide wi.drew YA.out YA.out
                      rw [neqF_wide3, eqA_self] at nw
                      go_region
                      go_wp2_with fail
                      go_roundw
                      case rel => exact ⟨j + 1, by omega, by go_num, mo_drew Mi, Ti.out.mo (mo_drew (Mo.refl _))⟩
                      case measure => simp [intOf]; omega
                    · have dk1 : (xd == 1) = false := by simp [k1]
                      have SE : Hid (playE room l (j + 1) = E) := Lib.hid (by rw [PE.out, stepE, if_neg k0, if_neg k1])
                      clear k0 k1
                      go_wp2_with fail
                      go_roundw
                      case rel => exact ⟨j + 1, by omega, by go_num, Mg.trans Mor.out, (SE.out ▸ (Tg.out.weak fun i _ h => PW.out i h : TabE wg T B room E fun i => W.heap.size ≤ i)).mo Mor.out⟩
                      case measure => simp [intOf]; omega
              · have dc : decide ((no : Int) < room) = false := decide_eq_false (by omega)
                have FE := Lib.hid fe
                clear fe c
                go_upto_region 27 with (fail)
                refine wp_name ?_
                intro w5n hw
                have b5n : Blk w5n b8 42 (doC ⟨xd, xk, xa⟩) := by rw [hw]; infer_instance
                have T5n : Hid (TabE w5n T B room E P) := Lib.hid (by rw [hw]; exact T5.out.mo Mor.out)
                have M5n : Mo W w5n := by rw [hw]; exact M5.trans Mor.out
                clear hw b5 T5 M5
                have f1 : outV (findE E xk) = .agg (enC key0 wdz false) := by rw [FE.out]; rfl
                have f2 : hasE E xk = false := by rw [hasE_find, FE.out]; rfl
                go_wp2_with fail
                refine (find_e T B room E P xk _ (T5n.out.mo Mor.out) XOK.out.k).mono ?_
                rintro e wf ⟨rfl, Mf⟩
                rw [f1, f2]
                have Nf := (Mor.out : Mo w5n _).trans Mf
                have bf : Blk wf b8 42 (doC ⟨xd, xk, xa⟩) := Nf.blk b5n
                have Tf := Lib.hid (T5n.out.mo Nf)
                have MF := M5n.trans Nf
                clear Mf Nf b5n T5n M5n
                go_upto_region 28 with (fail)
                refine wp_name ?_
                intro wg hwg
                have bg : Blk wg b8 42 (doC ⟨xd, xk, xa⟩) := by rw [hwg]; infer_instance
                have Tg : Hid (TabE wg T B room E P) := Lib.hid (by rw [hwg]; exact Tf.out.mo Mor.out)
                have Mg : Mo W wg := by rw [hwg]; exact MF.trans Mor.out
                clear hwg bf Tf MF
                by_cases k0 : xd = 0
                · have dk0 : (xd == 0) = true := by simp [k0]
                  have SE : Hid (playE room l (j + 1) = (askE room E xk xa).2.2) := Lib.hid (by rw [PE.out, stepE, if_pos k0])
                  clear k0
                  go_wp2_with fail
                  refine (ask_e T B room E P xk xa _ (Tg.out.mo Mor.out) XOK.out.k XOK.out.a EL.out).mono ?_
                  rintro e wh ⟨r, hr, rfl, Th, Kh⟩
                  have h1 : r.1 = false := by rw [← hr, ask_fst, f2]
                  obtain ⟨cs, e1, s1, s2⟩ := out_form r.2.1 (fun e he => ask_ok (Tg.out.ok) ⟨XOK.out.k, XOK.out.a⟩ (by rw [hr]; exact he))
                  rw [h1, e1]
                  generalize r.2.1.isSome = gone
                  have Mh : Mo W wh := Kh.mo (Mg.trans Mor.out) (fun i _ h => PW.out i h)
                  have Th' := Lib.hid (Th.weak (Q := fun i => W.heap.size ≤ i) fun i _ h => by rcases h with h | h; exact PW.out i h; exact Nat.le_trans (Mg.trans (Mor.out : Mo wg _)).size h)
                  rw [← hr, ← SE.out] at Th'
                  clear Kh Th bg Tg Mg h1 e1 hr
                  go_wp2_with fail
                  go_roundw
                  case rel => exact ⟨j + 1, by omega, by go_num, Mh.trans Mor.out, Th'.out.mo Mor.out⟩
                  case measure => simp [intOf]; omega
                · have dk0 : (xd == 0) = false := by simp [k0]
                  by_cases k1 : xd = 1
                  · have dk1 : (xd == 1) = true := by simp [k1]
                    have SE : Hid (playE room l (j + 1) = ansE E xk) := Lib.hid (by rw [PE.out, stepE, if_neg k0, if_pos k1])
                    have AV : ansV E xk = (.agg (enC xk wdz false), 7) := by unfold ansV; rw [FE.out]
                    clear k0 k1
                    go_wp2_with fail
                    refine (answer_e T B room E P xk _ (Tg.out.mo Mor.out) XOK.out.k).mono ?_
                    rintro e wh ⟨r, hr, rfl, Th, Kh⟩
                    rw [AV] at hr
                    subst hr
                    have Mh : Mo W wh := Kh.mo (Mg.trans Mor.out) (fun i _ h => PW.out i h)
                    have Th' := Lib.hid (Th.weak (Q := fun i => W.heap.size ≤ i) fun i _ h => PW.out i h)
                    rw [← SE.out] at Th'
                    clear Kh Th bg Tg Mg AV
                    go_upto_region 37 with (fail)
                    refine wp_name ?_
                    intro wi hwi
                    have ri : Blk wi wh.heap.size 45 (enC xk wdz false) := by rw [hwi]; infer_instance
                    have Mi : Mo W wi := by rw [hwi]; exact Mh.trans Mor.out
                    have Ti : Hid (TabE wi T B room (playE room l (j + 1)) fun i => W.heap.size ≤ i) := Lib.hid (by rw [hwi]; exact Th'.out.mo Mor.out)
                    clear hwi Th' Mh
                    go_region
                    go_wp2_with fail
                    go_roundw
                    case rel => exact ⟨j + 1, by omega, by go_num, mo_drew Mi, Ti.out.mo (mo_drew (Mo.refl _))⟩
                    case measure => simp [intOf]; omega
                  · have dk1 : (xd == 1) = false := by simp [k1]
                    have SE : Hid (playE room l (j + 1) = E) := Lib.hid (by rw [PE.out, stepE, if_neg k0, if_neg k1])
                    clear k0 k1
                    go_wp2_with fail
                    go_roundw
                    case rel => exact ⟨j + 1, by omega, by go_num, Mg.trans Mor.out, (SE.out ▸ (Tg.out.weak fun i _ h => PW.out i h : TabE wg T B room E fun i => W.heap.size ≤ i)).mo Mor.out⟩
                    case measure => simp [intOf]; omega
      · obtain rfl : j = L := by omega
        go_wp2_with fail
        go_ret
        exact ⟨rfl, hM⟩
  · refine (new_out room cr _).mono ?_
    rintro e w2 ⟨rfl, M2⟩
    have M2' := M1'.trans (Mo.trans (Mor.out : Mo w1 _) M2)
    by_cases q : room < 1
    · have e1 : decide (room < 1) = true := decide_eq_true q
      clear cr q
      go_wp2_with fail
      go_ret
      exact ⟨rfl, M2'⟩
    · have e1 : decide (room < 1) = false := decide_eq_false q
      have e2 : decide (65536 < room) = true := decide_eq_true (by omega)
      clear cr q
      go_wp2_with fail
      go_ret
      exact ⟨rfl, M2'⟩
end Go.Proofs.Ytlbkcjpnlnlmiaa
