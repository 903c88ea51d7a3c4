/- ext.Put once more: of up to four million bytes (printed by gen/genpackw.py out of XExtE). -/
import Derived.Test.YtofbhkodnijkjaaExtE
namespace Go.Proofs.Ytofbhkodnijkjaa
open Go.RowKit

set_option maxRecDepth 20000 in
set_option maxHeartbeats 2000000 in
theorem put_wide (A A' : Option Addr) (n m cap cap' : Nat) (l : List Fld) (mac : List Int) (W : World) (hn : l.length = n) (hm : mac.length = m) (h : ExtS W A cap l) (h' : ByteS W A' cap' mac) (hl : n ≤ 32) (ht : totM l + m ≤ 4000000) :
    Calls Try.prog 27 #[.slice A n cap, .slice A' m cap'] W (PutRet (putM l mac) W) := by
  obtain ⟨r, hr⟩ : ∃ r, putM l mac = r := ⟨_, rfl⟩
  rw [hr]
  have RR := Lib.hid hr
  have HN := Lib.hid hn
  have HM := Lib.hid hm
  have HB := Lib.hid h
  have HC := Lib.hid h'
  have OK := Lib.hid h.ok
  clear hr hn hm h h'
  go_enter Try.func27, Try.ntmps27
  go_wp2_with fail
  go_loopw [6, 18] (fun v i wr => ∃ k : Nat, k ≤ n ∧ i = .int .i64 k ∧ wr.ownsRow W.heap.size 5 1 v (totM (l.take k)) (byteL (encM (l.take k))) ∧ (∀ x ∈ l.take k, ¬ big x = true) ∧ Mo W wr) (fun _ i _ => n - (intOf i).toNat)
  case atStart => exact ⟨0, by omega, rfl, by rw [List.take_zero]; exact World.ownsRow_nil _ _ _ _, by simp, Mor.out⟩
  case round =>
    obtain ⟨k, hk, rfl, hown, hbig, hM⟩ := hrel
    have BG := Lib.hid hbig
    have OW := Lib.hid hown
    clear hbig hown
    by_cases ck : k < n
    · have hk1 : k < l.length := by rw [HN.out]; exact ck
      obtain ⟨g, off, rfl, LG, hc⟩ := HB.out.get (by omega)
      obtain ⟨xa, xn, xc, a1', a2, a3, a4', a5, a6⟩ := hc k hk1
      have LGr : LtW g wr := hM.ltW LG
      have a1 := hM.cell.trans a1'
      have a4 := hM.cell.trans a4'
      clear a1' a4'
      have T1 := Lib.hid (totM_get l k hk1)
      have t1 : l.take (k + 1) = l.take k ++ [l[k]] := by rw [List.take_add_one, List.getElem?_eq_getElem hk1]; rfl
      have T2 := Lib.hid t1
      have T3 := Lib.hid (List.getElem_mem hk1)
      have tt := totM_take l (k + 1)
      rw [T1.out, a5] at tt
      clear hc t1
      have i0 : (0 : Int) ≤ k := by omega
      have i1 : (k : Int) < n := by omega
      generalize l[k] = x at *
      obtain ⟨xk, xv⟩ := x
      simp only at a1 a2 a3 a5 a6 tt
      have A5 := Lib.hid a5
      have A6 := Lib.hid a6
      clear a5 a6
      have w1 : IntKind.i64.wrap (4 + (xn : Int)) = 4 + xn := by rw [IntKind.wrap_i64]; omega
      by_cases cb : 65532 < 4 + xn
      · have e1 : l.any big = true := List.any_eq_true.2 ⟨_, T3.out, by unfold big; rw [decide_eq_true_eq]; show 65532 < 4 + xv.length; rw [A5.out]; exact cb⟩
        have e2 : r = ([], 2) := by rw [← RR.out]; unfold putM; rw [if_neg (by rw [HN.out]; omega), if_pos e1]
        subst e2
        clear e1
        go_wp2_with fail
        go_ret2
        exact ⟨_, rfl, byteV_nil _, hM.trans Mor.out⟩
      · have cb' : (4 : Int) + xn ≤ 65532 := by omega
        have b4 : ∀ c ∈ [xk / 256, xk % 256, (4 + (xn : Int)) / 256, (4 + (xn : Int)) % 256], 0 ≤ c ∧ c ≤ 255 := by
          intro c hc
          simp only [List.mem_cons, List.not_mem_nil, or_false] at hc
          rcases hc with rfl | rfl | rfl | rfl <;> omega
        have B4 := Lib.hid b4
        clear b4
        go_wp2_with (first
          | (at_builtin
             refine wpList_append_bytes rfl (.tmp 28) (.tmp 41) rfl W.heap.size _ (totM (l.take k)) _ rfl (owns_mo OW.out Mor.out) (some ⟨wr.heap.size + 1, 0, none⟩) 4 4 [xk / 256, xk % 256, (4 + (xn : Int)) / 256, (4 + (xn : Int)) % 256] rfl rfl (byteS_blk (cs := #[.int .u8 (xk / 256), .int .u8 (xk % 256), .int .u8 ((4 + (xn : Int)) / 256), .int .u8 ((4 + (xn : Int)) % 256)]) inferInstance _ rfl B4.out (by simp)) (by omega) (by have := hM.size; simp; omega) ?_
             intro v1 w1 hown1 hgrow1
             have hM1 : Mo W w1 := mo_grown (hM.trans (Mor.out : Mo wr _)) hgrow1 (fun j e => (OW.out.lt j e).1)
             have b1 : w1.cell? ⟨wr.heap.size, 1, none⟩ = some (.slice xa xn xc) := by
               rw [World.cell?_of_block (hgrow1.block wr.heap.size (by simp; omega) (fun e => by have := (OW.out.lt _ e.symm).2; omega))]
               simp [go_sem])
          | (at_builtin
             refine wpList_append_bytes rfl (.tmp 43) (.tmp 45) rfl W.heap.size _ (totM (l.take k) + 4) _ rfl hown1 xa xn xc xv A5.out rfl (A6.out.mo hM1) (by omega) hM1.size ?_
             intro v2 w2 hown2 hgrow2
             have hM2 : Mo W w2 := mo_grown hM1 hgrow2 (fun j e => (hown1.lt j e).1)))
        have e1 : totM (l.take (k + 1)) = totM (l.take k) + 4 + xn := by rw [T1.out, A5.out]; omega
        have e2 : byteL (encM (l.take (k + 1))) = byteL (encM (l.take k)) ++ byteL [xk / 256, xk % 256, (4 + (xn : Int)) / 256, (4 + (xn : Int)) % 256] ++ byteL xv := by
          rw [T2.out, encM_snoc]
          unfold fldB
          simp [A5.out]
        have hown3 : w2.ownsRow W.heap.size 5 1 v2 (totM (l.take (k + 1))) (byteL (encM (l.take (k + 1)))) := by rw [e1, e2]; exact hown2
        have OW3 := Lib.hid hown3
        clear e1 e2 hown3 hown1 hown2 hgrow1 hgrow2 b1
        go_roundw
        case rel => exact ⟨k + 1, by omega, by go_num, OW3.out, by
          rw [T2.out]
          intro x hx
          rcases List.mem_append.1 hx with h | h
          · exact BG.out x h
          · obtain rfl : x = _ := by simpa using h
            unfold big
            rw [decide_eq_true_eq]
            show ¬ 65532 < 4 + xv.length
            rw [A5.out]; exact cb, hM2⟩
        case measure => simp [intOf]; omega
    · have hkn : k = n := by omega
      subst hkn
      have et : l.take k = l := List.take_of_length_le (by rw [HN.out]; omega)
      have hown := OW.out
      rw [et] at hown
      have BG2 := Lib.hid (fun x hx => BG.out x (by rw [et]; exact hx))
      have OW2 := Lib.hid hown
      have e1 : ¬ l.any big = true := fun h => by
        obtain ⟨x, hx, hb⟩ := List.any_eq_true.1 h
        exact BG2.out x hx hb
      have hr := RR.out
      unfold putM at hr
      rw [if_neg (by rw [HN.out]; omega), if_neg e1] at hr
      have RR2 := Lib.hid hr
      clear et hown e1 hr OW BG RR
      go_wp2_with (at_builtin
                   refine wpList_append_bytes rfl (.tmp 48) (.tmp 49) rfl W.heap.size _ (totM l) _ rfl OW2.out A' m cap' mac HM.out rfl (HC.out.mo hM) (by omega) hM.size ?_
                   intro v2 w2 hown2 hgrow2
                   have hM2 : Mo W w2 := mo_grown hM hgrow2 (fun j e => (OW2.out.lt j e).1)
                   have hlm : (encM l ++ mac).length = totM l + m := by rw [List.length_append, encM_len, HM.out]
                   have hbv : ByteV w2 v2 (encM l ++ mac) := owns_byteS (n := totM l + m) (by rw [show byteL (encM l ++ mac) = byteL (encM l) ++ byteL mac from List.map_append]; exact hown2) (by omega) (fun c hc => by
                     rcases List.mem_append.1 hc with h | h
                     · exact encM_byte l OK.out BG2.out c h
                     · exact HC.out.byte c h)
                   obtain ⟨A3, c3, rfl, hb3⟩ := hbv
                   rw [hlm]
                   have TK := Lib.hid (take_any A3 c3 (totM l + m) (encM l ++ mac) w2 hlm hb3)
                   clear hown2 hgrow2 hM)
      refine TK.out.mono ?_
      rintro e w3 ⟨v3, v4, rfl, hv3, hv4, M3⟩
      have hM3 := hM2.trans M3
      have hbv3 : ByteV w3 (.slice A3 (totM l + m) c3) (encM l ++ mac) := ⟨A3, c3, by rw [hlm], hb3.mo M3⟩
      have HV := Lib.hid hbv3
      obtain ⟨A4, c4, rfl, hb4⟩ := hv3
      obtain ⟨A5, c5, rfl, hb5⟩ := hv4
      generalize takeM (encM l ++ mac) = t at *
      obtain ⟨tl, tm, tc⟩ := t
      simp only at hb4 hb5 RR2
      obtain ⟨n4, hn4⟩ : ∃ q, tl.length = q := ⟨_, rfl⟩
      obtain ⟨n5, hn5⟩ : ∃ q, tm.length = q := ⟨_, rfl⟩
      have L4 := hb4.lim
      have L5 := hb5.lim
      rw [hn4] at L4 ⊢
      rw [hn5] at L5 ⊢
      have H4 := Lib.hid hn4
      have H5 := Lib.hid hn5
      have EQ := Lib.hid (fun w (q : Mo w3 w) => equalF_any A A4 k n4 cap c4 l tl w HN.out hn4 ((HB.out.mo hM3).mo q) (hb4.mo q))
      clear hn4 hn5 hb4 hb5 TK hb3 hbv3 M3 hM2 hlm OW2 BG2 OK
      by_cases c1 : tc = 0
      · subst c1
        by_cases c2 : n5 = m
        · subst c2
          have d2 : ((n5 : Int) != n5) = false := by simp
          by_cases c3 : l = tl
          · have hr := RR2.out
            rw [if_neg (by rw [H5.out, HM.out]; simp [c3])] at hr
            subst hr
            rw [decide_eq_true c3] at EQ
            clear c3 RR2
            go_wp2_with fail
            refine (EQ.out _ (Mo.refl _)).mono ?_
            rintro e w4 ⟨rfl, M4⟩
            go_wp2_with fail
            go_ret2
            exact ⟨_, rfl, HV.out.mo M4, hM3.trans M4⟩
          · have hr := RR2.out
            rw [if_pos (.inr (.inr c3))] at hr
            subst hr
            rw [decide_eq_false c3] at EQ
            clear c3 RR2
            go_wp2_with fail
            refine (EQ.out _ (Mo.refl _)).mono ?_
            rintro e w4 ⟨rfl, M4⟩
            go_wp2_with fail
            go_ret2
            exact ⟨_, rfl, byteV_nil _, hM3.trans M4⟩
        · have hr := RR2.out
          rw [if_pos (.inr (.inl (by rw [H5.out, HM.out]; exact c2)))] at hr
          subst hr
          have d2 : ((n5 : Int) != m) = true := by simp; omega
          clear c2 RR2 EQ
          go_wp2_with fail
          go_ret2
          exact ⟨_, rfl, byteV_nil _, hM3⟩
      · have hr := RR2.out
        rw [if_pos (.inl c1)] at hr
        subst hr
        have d1 : (tc != 0) = true := by simp [c1]
        clear c1 RR2 EQ
        go_wp2_with fail
        go_ret2
        exact ⟨_, rfl, byteV_nil _, hM3⟩
end Go.Proofs.Ytofbhkodnijkjaa
