/- horologeref30: Class. -/
import Derived.Test.YtcflebggepmmcaaMatT
import Derived.Test.YtcflebggepmmcaaRefM
namespace Go.Proofs.Ytcflebggepmmcaa
open Go.RowKit

set_option maxRecDepth 20000 in
theorem DgsS.when {W : World} {A : Option Addr} {cap : Nat} {l : List Dg} (h : DgsS W A cap l) (i : Nat) (hi : i < l.length) : ∃ g off, A = some ⟨g, off, none⟩ ∧ InW (wI l[i].at_) ∧
    ∀ w, Mo W w → (loadF 32 (.pointer (some ⟨g, off + i * 39, none⟩))).run Try.prog w = .ok (.agg (wdC (wI l[i].at_))) w := by
  have ok := h.ok _ (List.getElem_mem hi)
  have hw := wd_fits ok.at_
  rcases h.at_ with e | ⟨g, off, rfl, hc⟩
  · rw [e] at hi; cases hi
  · obtain ⟨B, bc, hb, hv⟩ := hc i hi
    refine ⟨g, off, rfl, hw.2, fun w M => ?_⟩
    rw [← hw.1]
    refine run_loadC 32 2 w g (off + i * 39) _ (sz_wide ok.at_).out (fun j v hj => ?_)
    have h1 := hv j v (by
      have hjl := (List.getElem?_eq_some_iff.1 hj).1
      unfold dgC
      simp only [Array.toList_append, List.append_assoc]
      rw [List.getElem?_append_left hjl]
      exact hj)
    have : LtW g W := LtW.of_cell h1
    rw [M.cell, h1]
set_option maxRecDepth 20000 in
theorem eqlF_keyU (x y : Value) : binOp .eql 72 x y = eqlF 72 x y := rfl
attribute [local go_sem] blk_cell' blk_frozen' dg_at dg_b dg_src dg_dst
attribute [local go_sem ↓] loadF_dg loadF_pk storeAt_pk loadF_keyH storeF_key eqlF_keyU loadF_wide'
attribute [local go_sem] run_loadF0 run_storePk run_storeF0 run_loadFo run_loadFz
set_option maxRecDepth 20000 in
set_option maxHeartbeats 16000000 in
theorem rcls_any (A : Option Addr) (cap L n : Nat) (l : List Dg) (room win : Int) (W : World) (hL : l.length = L) (h : DgsS W A cap l) (hb : ∀ d ∈ l, d.bs.length ≤ 200000) (hn : n < l.length) (hm : L ≤ 1000) (r1 : 1 ≤ room) (w0 : 0 ≤ win) (w1 : win ≤ 9223372036854775807) :
    Calls Try.prog 13 #[.slice A L cap, .int .i64 n, .int .i64 room, .int .i64 win] W fun e w' => e = .returned (.int .u8 (clsM win (playM room l n) l[n])) ∧ Mo W w' := by
  have HD := Lib.hid h
  have HL := Lib.hid hL
  have HB := Lib.hid hb
  obtain ⟨g, off, B1, bc, rfl, ld, hb1⟩ := h.get n hn
  have XO := h.ok _ (List.getElem_mem hn)
  have KD := Lib.hid (fun w (m : Mo W w) => kind_any l[n] _ w ⟨B1, bc, rfl, hb1.mo m⟩ XO (hb _ (List.getElem_mem hn)))
  have YO : KeyP (keyC l[n] (classP l[n].bs).1.h) := fits_key XO (by rw [classP_fst]; exact takeP_ok _ hb1.byte)
  have AK := Lib.hid (fun w (m : Mo W w) => asked_any _ cap L n l (keyC l[n] (classP l[n].bs).1.h) room w hL (h.mo m) hb (by omega) hm YO r1)
  have AL := Lib.hid (asked_lt r1 (Nat.le_of_lt hn) (keyC l[n] (classP l[n].bs).1.h))
  have F1 := Lib.hid (fun (c1 : (classP l[n].bs).2 ≠ 1) (c4 : (classP l[n].bs).2 ≠ 4) => cls_rest (win := win) (E := playM room l n) (d := l[n]) c1 c4)
  have F2 := Lib.hid (fun (c1 : (classP l[n].bs).2 = 1) => cls_req (win := win) r1 hn c1)
  have F3 := Lib.hid (fun (c4 : (classP l[n].bs).2 = 4) (q : askedM room l n (keyC l[n] (classP l[n].bs).1.h) < 0) => cls_bogus (win := win) r1 hn c4 q)
  have F4 := Lib.hid (fun (c4 : (classP l[n].bs).2 = 4) (m j : Nat) (q : askedM room l n (keyC l[n] (classP l[n].bs).1.h) = m) (j1 : m < j) (j2 : j < n) (hjl : j < l.length) (hj : (classP l[j].bs).2 = 4) (hk : keyC l[j] (classP l[j].bs).1.h = keyC l[n] (classP l[n].bs).1.h) => cls_replay (win := win) r1 hn c4 (m := m) (j := j) q j1 j2 hj hk)
  have F5 := Lib.hid (fun (c4 : (classP l[n].bs).2 = 4) (m : Nat) (q : askedM room l n (keyC l[n] (classP l[n].bs).1.h) = m) (no : ∀ j (hj : j < l.length), m < j → j < n → (classP l[j].bs).2 = 4 → keyC l[j] (classP l[j].bs).1.h ≠ keyC l[n] (classP l[n].bs).1.h) => cls_last (win := win) r1 hn c4 (m := m) q no)
  have WN := Lib.hid (h.when n hn)
  have za := sz_wide XO.at_
  have zs := sz_ends XO.src
  have zt := sz_ends XO.dst
  have oa := one_of_fits XO.at_
  have os := one_of_fits XO.src
  have ot := one_of_fits XO.dst
  have zy := key_sz YO
  have oy := one_of_fits YO
  have HYO := Lib.hid YO
  generalize clsM win (playM room l n) l[n] = res at *
  generalize askedM room l n (keyC l[n] (classP l[n].bs).1.h) = r at *
  generalize keyC l[n] (classP l[n].bs).1.h = y at *
  generalize (classP l[n].bs).2 = q at *
  generalize (classP l[n].bs).1.h = ph at *
  generalize (classP l[n].bs).1.e.length = pe at *
  generalize (classP l[n].bs).1.m.length = pm at *
  have n0 : (0 : Int) ≤ n := by omega
  have n1 : (n : Int) < L := by omega
  generalize l[n].src = ds at *
  generalize l[n].dst = dd at *
  generalize l[n].bs.length = nb at *
  generalize hat : l[n].at_ = da at *
  have HAT := Lib.hid hat
  clear h hL hb hb1 XO YO hat
  go_enter Try.func13, Try.ntmps13
  go_wp2_with fail
  refine (KD.out _ Mor.out).mono ?_
  rintro e w3 ⟨u, rfl, ⟨a1, c1, a2, c2, rfl⟩, M3⟩
  have N3 : Mo W w3 := Mo.trans Mor.out M3
  clear M3 KD ld
  go_upto_region 2 with (fail)
  refine wp_name ?_
  intro w4 hw4
  have y4 : Blk w4 (w3.heap.size + 1) 72 y := by rw [hw4]; infer_instance
  have N4 : Mo W w4 := by rw [hw4]; exact N3.trans Mor.out
  clear hw4 N3
  obtain ⟨gy, hgy⟩ : ∃ x, w3.heap.size + 1 = x := ⟨_, rfl⟩
  rw [hgy] at y4 ⊢
  clear hgy
  by_cases c1 : q = 1
  · subst c1
    have e2 := F2.out rfl
    clear F1 F2 F3 F4 F5
    go_wp2_with fail
    refine (AK.out _ N4).mono ?_
    rintro e w5 ⟨rfl, M5⟩
    by_cases c : 0 ≤ r
    · have d : decide (0 ≤ r) = true := decide_eq_true c
      rw [if_pos c] at e2
      have E2 := Lib.hid e2
      clear e2 AL
      go_wp2_with fail
      go_ret
      exact ⟨by rw [E2.out]; rfl, N4.trans (M5.trans Mor.out)⟩
    · have d : decide (0 ≤ r) = false := decide_eq_false c
      rw [if_neg c] at e2
      have E2 := Lib.hid e2
      clear e2 AL
      go_wp2_with fail
      go_ret
      exact ⟨by rw [E2.out]; rfl, N4.trans (M5.trans Mor.out)⟩
  · by_cases c4 : q = 4
    · subst c4
      clear F1 F2 c1
      go_wp2_with fail
      refine (AK.out _ N4).mono ?_
      rintro e w5 ⟨rfl, M5⟩
      have y5 := M5.blk y4
      have N5 : Mo W w5 := N4.trans M5
      clear M5 AK y4 N4
      rcases AL.out with c | ⟨m, hmn, c⟩
      · have E3 := Lib.hid (F3.out (by trivial) (by omega))
        have d : decide (r < 0) = true := decide_eq_true (by omega)
        clear c F3 F4 F5 AL
        go_wp2_with fail
        go_ret
        exact ⟨by rw [E3.out]; rfl, N5.trans Mor.out⟩
      · have F4' := Lib.hid (F4.out (by trivial) m)
        have F5' := Lib.hid (F5.out (by trivial) m)
        subst c
        have d : decide ((m : Int) < 0) = false := decide_eq_false (by omega)
        have hwm : IntKind.i64.wrap ((m : Int) + 1) = m + 1 := by rw [IntKind.wrap_i64]; omega
        clear F3 F4 F5 AL
        go_wp2_with fail
        go_loopw [13] (fun i wr => ∃ (j : Nat), m + 1 ≤ j ∧ j ≤ n ∧ i = .int .i64 j ∧ (∀ k (hk : k < l.length), m < k → k < j → (classP l[k].bs).2 = 4 → keyC l[k] (classP l[k].bs).1.h ≠ y) ∧ Mo w5 wr) (fun i _ => n - (intOf i).toNat)
        case atStart => exact ⟨m + 1, by omega, by omega, by go_num, fun k hk h1 h2 => by omega, Mor.out⟩
        case round =>
          obtain ⟨j, hj1, hj2, rfl, hno, hM⟩ := hrel
          have HNO := Lib.hid hno
          have y6 := hM.blk y5
          have N6 := N5.trans hM
          clear hno
          by_cases cj : j < n
          · have hjl : j < l.length := by omega
            obtain ⟨g', off', B2, bc2, e9, ld2, hb2⟩ := (HD.out.mo N6).get j hjl
            injection e9 with e9
            injection e9 with e9 e9'
            subst e9 e9'
            have XO := HD.out.ok _ (List.getElem_mem hjl)
            have KD := Lib.hid (fun w (m : Mo wr w) => kind_any l[j] _ w ⟨B2, bc2, rfl, hb2.mo m⟩ XO (HB.out _ (List.getElem_mem hjl)))
            have YO : KeyP (keyC l[j] (classP l[j].bs).1.h) := fits_key XO (by rw [classP_fst]; exact takeP_ok _ hb2.byte)
            have R4 : Hid ((classP l[j].bs).2 = 4 → keyC l[j] (classP l[j].bs).1.h = y → res = 6) := Lib.hid fun c e => F4'.out j (by trivial) (by omega) (by omega) hjl c e
            have RN : Hid (¬ ((classP l[j].bs).2 = 4 ∧ keyC l[j] (classP l[j].bs).1.h = y) → ∀ k (hk : k < l.length), m < k → k < j + 1 → (classP l[k].bs).2 = 4 → keyC l[k] (classP l[k].bs).1.h ≠ y) := Lib.hid fun c k hk h1 h2 h3 h4 => by
              by_cases e : k = j
              · subst e; exact c ⟨h3, h4⟩
              · exact HNO.out k hk h1 (by omega) h3 h4
            have za2 := sz_wide XO.at_
            have zs2 := sz_ends XO.src
            have zt2 := sz_ends XO.dst
            have oa2 := one_of_fits XO.at_
            have os2 := one_of_fits XO.src
            have ot2 := one_of_fits XO.dst
            have zx := key_sz YO
            have ox := one_of_fits YO
            have j0 : (0 : Int) ≤ j := by omega
            have j1 : (j : Int) < L := by omega
            have jn : decide ((j : Int) < n) = true := decide_eq_true (by omega)
            have hwj : IntKind.i64.wrap ((j : Int) + 1) = j + 1 := by rw [IntKind.wrap_i64]; omega
            generalize keyC l[j] (classP l[j].bs).1.h = x at *
            generalize (classP l[j].bs).2 = q2 at *
            generalize (classP l[j].bs).1.h = ph2 at *
            generalize (classP l[j].bs).1.e.length = pe2 at *
            generalize (classP l[j].bs).1.m.length = pm2 at *
            generalize l[j].at_ = da2 at *
            generalize l[j].src = ds2 at *
            generalize l[j].dst = dd2 at *
            generalize l[j].bs.length = nb2 at *
            have eq := fun w => run_eql_flat fl_key w YO HYO.out
            simp only [eqlF_keyU] at eq
            clear hjl XO hb2 F4' F5'
            go_wp2_with fail
            refine (KD.out _ Mor.out).mono ?_
            rintro e w7 ⟨u, rfl, ⟨a3, c3, a4, c4, rfl⟩, M7⟩
            have N7 : Mo wr w7 := Mo.trans Mor.out M7
            have y7 := N7.blk y6
            clear M7 KD ld2 YO y6
            go_upto_region 15 with (fail)
            refine wp_name ?_
            intro w8 hw8
            have x8 : Blk w8 (w7.heap.size + 1) 72 x := by rw [hw8]; infer_instance
            have y8 : Blk w8 gy 72 y := by rw [hw8]; infer_instance
            have N8 : Mo wr w8 := by rw [hw8]; exact N7.trans Mor.out
            clear hw8 N7 y7
            obtain ⟨gx, hgx⟩ : ∃ z, w7.heap.size + 1 = z := ⟨_, rfl⟩
            rw [hgx] at x8 ⊢
            clear hgx
            by_cases c6 : q2 = 4
            · subst c6
              by_cases c7 : x = y
              · have dk : eqA x y = true := eqA_iff.2 c7
                rw [dk] at eq
                have E6 := Lib.hid (R4.out rfl c7)
                clear c7 dk R4 RN
                go_wp2_with fail
                go_ret
                exact ⟨by rw [E6.out]; rfl, N6.trans (N8.trans Mor.out)⟩
              · have dk : eqA x y = false := by rw [Bool.eq_false_iff]; exact fun c => c7 (eqA_iff.1 c)
                rw [dk] at eq
                have HN := Lib.hid (RN.out fun c => c7 c.2)
                clear c7 dk R4 RN
                go_wp2_with fail
                go_roundw
                case rel => exact ⟨j + 1, by omega, by omega, by go_num, HN.out, hM.trans (N8.trans Mor.out)⟩
                case measure => simp [intOf]; omega
            · have d6 : (q2 == 4) = false := by simp [c6]
              have HN := Lib.hid (RN.out fun c => c6 c.1)
              clear c6 R4 RN
              go_wp2_with fail
              go_roundw
              case rel => exact ⟨j + 1, by omega, by omega, by go_num, HN.out, hM.trans (N8.trans Mor.out)⟩
              case measure => simp [intOf]; omega
          · obtain rfl : j = n := by omega
            have dn : decide ((j : Int) < j) = false := decide_eq_false (by omega)
            obtain ⟨hml, hmj, hres⟩ := F5'.out (by trivial) (fun k hk h1 h2 h3 => HNO.out k hk h1 h2 h3)
            obtain ⟨g1, o1, e1, i1, L1⟩ := HD.out.when m hml
            injection e1 with e1
            injection e1 with e1 e1'
            subst e1 e1'
            obtain ⟨g2, o2, e2, i2, L2⟩ := WN.out
            injection e2 with e2
            injection e2 with e2 e2'
            subst e2 e2'
            generalize wI l[m].at_ = x1 at *
            generalize wI da = x2 at *
            have BT := Lib.hid (fun w => between_any x1 x2 win i1 i2 w0 w1 w)
            have l1 : ∀ J d, (loadF 32 (.pointer (some ⟨g, off + m * 39, none⟩))).run Try.prog (more wr J d) = .ok (.agg (wdC x1)) (more wr J d) := fun J d => L1 _ (N6.trans Mor.out)
            have l2 : ∀ J d, (loadF 32 (.pointer (some ⟨g, off + j * 39, none⟩))).run Try.prog (more wr J d) = .ok (.agg (wdC x2)) (more wr J d) := fun J d => L2 _ (N6.trans Mor.out)
            have m0 : (0 : Int) ≤ m := by omega
            have m1 : (m : Int) < L := by omega
            obtain ⟨b, hb⟩ : ∃ b, insB win x1 x2 = b := ⟨_, rfl⟩
            rw [hb] at BT hres
            have HR := Lib.hid hres
            clear hb hres L1 L2 i1 i2 F4' F5' WN HNO
            go_upto_region 17 with (fail)
            first | (refine wp_region_mo (by kernel_rfl) (by kernel_rfl) ?_) | (refine wp_region_mo' (by kernel_rfl) (by kernel_rfl) ?_)
            repeat (go_big_quiet_step (first | (with_reducible exact quiet_mo (BT.out _))))
            refine wpQuiet_nil ?_
            intro _ hw'
            obtain ⟨⟨J9, d9⟩, hw''⟩ := hw'
            subst hw''
            cases b with
            | true =>
              have HR2 : Hid (res = 4) := Lib.hid HR.out
              clear HR
              go_wp2_with fail
              go_ret
              exact ⟨by rw [HR2.out]; rfl, N6.trans Mor.out⟩
            | false =>
              have HR2 : Hid (res = 5) := Lib.hid HR.out
              clear HR
              go_wp2_with fail
              go_ret
              exact ⟨by rw [HR2.out]; rfl, N6.trans Mor.out⟩
    · have d1 : (q != 1) = true := by simp [c1]
      have d4 : (q != 4) = true := by simp [c4]
      have E1 := Lib.hid (F1.out c1 c4)
      clear F1 F2 F3 F4 F5 c1 c4
      go_wp2_with fail
      go_ret
      exact ⟨by rw [E1.out]; rfl, N4.trans Mor.out⟩
end Go.Proofs.Ytcflebggepmmcaa
