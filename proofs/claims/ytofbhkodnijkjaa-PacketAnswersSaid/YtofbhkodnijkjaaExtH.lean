/- horologeref21.Bytes: the reference's bytes of fields. -/
import Derived.Test.YtofbhkodnijkjaaExtE
import Derived.Test.YtofbhkodnijkjaaExtG
import Derived.BigRegion
namespace Go.Proofs.Ytofbhkodnijkjaa
open Go.RowKit

def BytesRet (l : List Fld) (mac : List Int) (W : World) (e : Ending) (w' : World) : Prop := ∃ v, e = .returned (.tuple #[v, .bool (!l.any big)]) ∧ ByteV w' v (if l.any big = true then [] else encM l ++ mac) ∧ Mo W w'
attribute [local go_sem ↓] app_fold
set_option maxRecDepth 20000 in
set_option maxHeartbeats 8000000 in
theorem bytes_any (A A' : Option Addr) (n m cap cap' : Nat) (l : List Fld) (mac : List Int) (W : World) (hn : l.length = n) (hm : mac.length = m) (h : ExtS W A cap l) (h' : ByteS W A' cap' mac) (hl : n ≤ 32) (ht : totM l + m ≤ 100000) :
    Calls Try.prog 42 #[.slice A n cap, .slice A' m cap'] W (BytesRet l mac W) := by
  obtain ⟨R, hR⟩ : ∃ R, BytesRet l mac W = R := ⟨_, rfl⟩
  rw [hR]
  have RR := Lib.hid hR
  have HN := Lib.hid hn
  have HM := Lib.hid hm
  have HB := Lib.hid h
  have HC := Lib.hid h'
  have OK := Lib.hid h.ok
  clear hR hn hm h h'
  obtain ⟨tb, hib, hb0, hb1, hb2⟩ := info_parts infoB
  go_enter Try.func42, Try.ntmps42
  go_wp2_with fail
  go_loopw [6, 7] (fun v i wr => ∃ k : Nat, k ≤ n ∧ i = .int .i64 k ∧ wr.ownsRow W.heap.size 5 1 v (totM (l.take k)) (byteL (encM (l.take k))) ∧ (∀ x ∈ l.take k, ¬ big x = true) ∧ Mo W wr) (fun _ i _ => n - (intOf i).toNat)
  case atStart => exact ⟨0, by omega, rfl, by rw [List.take_zero]; exact World.ownsRow_nil _ _ _ _, by simp, Mor.out⟩
  case round =>
    obtain ⟨k, hk, rfl, hown, hbig, hM⟩ := hrel
    have BG := Lib.hid hbig
    have OW := Lib.hid hown
    clear hbig hown
    by_cases ck : k < n
    · have hk1 : k < l.length := by rw [HN.out]; exact ck
      obtain ⟨g, off, rfl, LG, hc⟩ := HB.out.get (by omega)
      obtain ⟨xa, xn, xc, a1', a2, a3, a4', a5, a6⟩ := hc k hk1
      have LGr : LtW g wr := hM.ltW LG
      have a1 := hM.cell.trans a1'
      have a4 := hM.cell.trans a4'
      have gW := LG.out
      have A4W := Lib.hid a4'
      clear a1' a4'
      have T1 := Lib.hid (totM_get l k hk1)
      have t1 : l.take (k + 1) = l.take k ++ [l[k]] := by rw [List.take_add_one, List.getElem?_eq_getElem hk1]; rfl
      have T2 := Lib.hid t1
      have T3 := Lib.hid (List.getElem_mem hk1)
      have tt := totM_take l (k + 1)
      rw [T1.out, a5] at tt
      clear hc t1
      have i0 : (0 : Int) ≤ k := by omega
      have i1 : (k : Int) < n := by omega
      generalize l[k] = x at *
      obtain ⟨xk, xv⟩ := x
      simp only at a1 a2 a3 a5 a6 tt
      have A5 := Lib.hid a5
      have A6 := Lib.hid a6
      clear a5 a6
      have w1 : IntKind.i64.wrap (4 + (xn : Int)) = 4 + xn := by rw [IntKind.wrap_i64]; omega
      by_cases cb : 65532 < 4 + xn
      · have cb' : (65532 : Int) < 4 + xn := by omega
        have e1 : l.any big = true := List.any_eq_true.2 ⟨_, T3.out, by unfold big; rw [decide_eq_true_eq]; show 65532 < 4 + xv.length; rw [A5.out]; exact cb⟩
        have E1 := Lib.hid e1
        clear e1
        go_wp2_with fail
        rw [← RR.out]
        exact ⟨_, by rw [E1.out]; rfl, by rw [if_pos E1.out]; exact byteV_nil _, hM⟩
      · have cb' : ¬ (65532 : Int) < 4 + xn := by omega
        have b4 : ∀ c ∈ [xk / 256, xk % 256, (4 + (xn : Int)) / 256, (4 + (xn : Int)) % 256], 0 ≤ c ∧ c ≤ 255 := by
          intro c hc
          simp only [List.mem_cons, List.not_mem_nil, or_false] at hc
          rcases hc with rfl | rfl | rfl | rfl <;> omega
        have B4 := Lib.hid b4
        clear b4
        have c1 : IntKind.u8.wrap (xk / 256) = xk / 256 := by rw [IntKind.wrap_u8]; omega
        have c2 : IntKind.u8.wrap (xk % 256) = xk % 256 := by rw [IntKind.wrap_u8]; omega
        have c3 : IntKind.u8.wrap ((4 + (xn : Int)) / 256) = (4 + (xn : Int)) / 256 := by rw [IntKind.wrap_u8]; omega
        have c4 : IntKind.u8.wrap ((4 + (xn : Int)) % 256) = (4 + (xn : Int)) % 256 := by rw [IntKind.wrap_u8]; omega
        have c5 : (0 : Int) ≤ 4 + xn := by omega
        have c6 : xk.tdiv 256 = xk / 256 := Int.tdiv_eq_ediv_of_nonneg a2
        have c7 : xk.tmod 256 = xk % 256 := Int.tmod_eq_emod_of_nonneg a2
        have c8 : (4 + (xn : Int)).tdiv 256 = (4 + (xn : Int)) / 256 := Int.tdiv_eq_ediv_of_nonneg c5
        have c9 : (4 + (xn : Int)).tmod 256 = (4 + (xn : Int)) % 256 := Int.tmod_eq_emod_of_nonneg c5
        have c10 : IntKind.u16.wrap (xk / 256) = xk / 256 := by rw [IntKind.wrap_u16]; omega
        have c11 : IntKind.i64.wrap ((4 + (xn : Int)) / 256) = (4 + (xn : Int)) / 256 := by rw [IntKind.wrap_i64]; omega
        go_upto_region 8 with (fail)
        go_cut [6] (fun s6 wx => wx.ownsRow W.heap.size 5 1 s6 (totM (l.take k) + 4) (byteL (encM (l.take k)) ++ byteL [xk / 256, xk % 256, (4 + (xn : Int)) / 256, (4 + (xn : Int)) % 256]) ∧ Mo W wx)
        case first =>
          have hT := (Mor.out : Mo wr ((wr.alloc (.cells #[.int .u8 (xk / 256), .int .u8 (xk % 256), .int .u8 ((4 + (xn : Int)) / 256), .int .u8 ((4 + (xn : Int)) % 256)] 5)).drew))
          obtain ⟨v4, w4, hrun, hown4, hgrow4, -, -⟩ := run_append_own_at (P := Try.prog) ((wr.alloc (.cells #[.int .u8 (xk / 256), .int .u8 (xk % 256), .int .u8 ((4 + (xn : Int)) / 256), .int .u8 ((4 + (xn : Int)) % 256)] 5)).drew) W.heap.size 31 31 5 tb (.int .u8 0) 1 1 Try.underlying31 hib hb0 hb1 hb2 rfl (by decide) _ _ _ (owns_mo OW.out hT) ⟨wr.heap.size, 0, none⟩ 4 4 (byteL [xk / 256, xk % 256, (4 + (xn : Int)) / 256, (4 + (xn : Int)) % 256]) rfl (news_of_blk (g := wr.heap.size) (t := 5) (cs := #[.int .u8 (xk / 256), .int .u8 (xk % 256), .int .u8 ((4 + (xn : Int)) / 256), .int .u8 ((4 + (xn : Int)) % 256)]) inferInstance _ rfl) (byteL_one _) (by unfold maxLen; omega) (by omega) (by have := hM.size; simp; omega)
          replace hrun : (appAny #[31, 31] 31 #[u6, .slice (some ⟨wr.heap.size, 0, none⟩) 4 4]).run Try.prog _ = .ok v4 w4 := hrun
          have M4 : Mo W w4 := mo_grown (hM.trans hT) hgrow4 (fun j e => (OW.out.lt j e).1)
          have gne : some g ≠ u6.ownBlock := fun e => by have := (OW.out.lt _ e.symm).1; omega
          have m4 : w4.cell? ⟨g, off + k * 2, none⟩ = some (.int .u16 xk) := by rw [World.cell?_of_block (hgrow4.block g (by have := LGr.out; simp; omega) gne)]; simp [go_sem, a1]
          have O4 := Lib.hid hown4
          clear hown4 hgrow4 gne hT
          refine wp_name ?_
          intro wz hwz
          subst hwz
          go_region
          go_wp2_with fail
          go_meet
          exact ⟨O4.out, M4⟩
        case rest =>
          obtain ⟨hown1, hM1⟩ := hcut
          have q4 := hM1.cell.trans A4W.out
          have LGc : LtW g wc := hM1.ltW LG
          have OW1 := Lib.hid hown1
          clear hown1 a1 a4 LGr c1 c2 c3 c4 c5 c6 c7 c8 c9 c10 c11
          go_wp2_with (at_builtin
                       go_loud (refine wpList_append_bytes rfl (.tmp 47) (.tmp 52) rfl W.heap.size _ (totM (l.take k) + 4) _ rfl OW1.out xa xn xc xv A5.out rfl (A6.out.mo hM1) (by omega) hM1.size ?_)
                       intro v2 w2 hown2 hgrow2
                       have hM2 : Mo W w2 := mo_grown hM1 hgrow2 (fun j e => (OW1.out.lt j e).1))
          have e1 : totM (l.take (k + 1)) = totM (l.take k) + 4 + xn := by rw [T1.out, A5.out]; omega
          have e2 : byteL (encM (l.take (k + 1))) = byteL (encM (l.take k)) ++ byteL [xk / 256, xk % 256, (4 + (xn : Int)) / 256, (4 + (xn : Int)) % 256] ++ byteL xv := by
            rw [T2.out, encM_snoc]
            unfold fldB
            simp [A5.out]
          have hown3 : w2.ownsRow W.heap.size 5 1 v2 (totM (l.take (k + 1))) (byteL (encM (l.take (k + 1)))) := by rw [e1, e2]; exact hown2
          have OW3 := Lib.hid hown3
          clear e1 e2 hown3 hown2 hgrow2
          go_roundw
          case rel => exact ⟨k + 1, by omega, by go_num, OW3.out, by
            rw [T2.out]
            intro x hx
            rcases List.mem_append.1 hx with h | h
            · exact BG.out x h
            · obtain rfl : x = _ := by simpa using h
              unfold big
              rw [decide_eq_true_eq]
              show ¬ 65532 < 4 + xv.length
              rw [A5.out]; exact cb, hM2⟩
          case measure => simp [intOf]; omega
    · have hkn : k = n := by omega
      subst hkn
      have et : l.take k = l := List.take_of_length_le (by rw [HN.out]; omega)
      have hown := OW.out
      rw [et] at hown
      have BG2 := Lib.hid (fun x hx => BG.out x (by rw [et]; exact hx))
      have OW2 := Lib.hid hown
      have e1 : ¬ l.any big = true := fun h => by
        obtain ⟨x, hx, hb⟩ := List.any_eq_true.1 h
        exact BG2.out x hx hb
      have E1 := Lib.hid e1
      clear et hown e1 OW BG
      go_wp2_with (at_builtin
                   refine wpList_append_bytes rfl (.tmp 54) (.tmp 55) rfl W.heap.size _ (totM l) _ rfl OW2.out A' m cap' mac HM.out rfl (HC.out.mo hM) (by omega) hM.size ?_
                   intro v2 w2 hown2 hgrow2
                   have hM2 : Mo W w2 := mo_grown hM hgrow2 (fun j e => (OW2.out.lt j e).1)
                   have hbv : ByteV w2 v2 (encM l ++ mac) := owns_byteS (n := totM l + m) (by rw [show byteL (encM l ++ mac) = byteL (encM l) ++ byteL mac from List.map_append]; exact hown2) (by omega) (fun c hc => by
                     rcases List.mem_append.1 hc with h | h
                     · exact encM_byte l OK.out BG2.out c h
                     · exact HC.out.byte c h)
                   clear hown2 hgrow2)
      rw [← RR.out]
      have e2 : l.any big = false := by simpa using E1.out
      exact ⟨_, by rw [e2]; rfl, by rw [if_neg E1.out]; exact hbv, hM2⟩
end Go.Proofs.Ytofbhkodnijkjaa
