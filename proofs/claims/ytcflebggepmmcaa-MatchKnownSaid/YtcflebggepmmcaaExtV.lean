/- Written by gen/bundle30.py: ExtE, ExtI, ExtL, ExtN, ExtM, ExtH, PackW in one text. -/
import Derived.Test.YtcflebggepmmcaaExtS
import Derived.Test.YtcflebggepmmcaaBlkS
import Derived.BigRegion
/- ext.Put: the bytes of fields and a MAC. -/
namespace Go.Proofs.Ytcflebggepmmcaa
open Go.RowKit

/-- the bytes of one field -/
def fldB (x : Fld) : List Int := x.kind / 256 :: x.kind % 256 :: ((4 + x.val.length : Nat) : Int) / 256 :: ((4 + x.val.length : Nat) : Int) % 256 :: x.val
def encM (l : List Fld) : List Int := l.flatMap fldB
def big (x : Fld) : Bool := decide (65532 < 4 + x.val.length)
def totM (l : List Fld) : Nat := (l.map fun x => 4 + x.val.length).sum
set_option maxRecDepth 20000 in
theorem fldB_len (x : Fld) : (fldB x).length = 4 + x.val.length := by unfold fldB; simp; omega
set_option maxRecDepth 20000 in
theorem encM_len (l : List Fld) : (encM l).length = totM l := by
  unfold encM totM
  induction l with
  | nil => rfl
  | cons x xs ih => rw [List.flatMap_cons, List.length_append, ih, fldB_len, List.map_cons, List.sum_cons]
set_option maxRecDepth 20000 in
theorem encM_snoc (l : List Fld) (x : Fld) : encM (l ++ [x]) = encM l ++ fldB x := by unfold encM; simp
set_option maxRecDepth 20000 in
theorem totM_take (l : List Fld) (k : Nat) : totM (l.take k) ≤ totM l := by
  have : totM l = totM (l.take k) + totM (l.drop k) := by
    unfold totM
    rw [← List.sum_append, ← List.map_append, List.take_append_drop]
  omega
set_option maxRecDepth 20000 in
theorem totM_get (l : List Fld) (k : Nat) (hk : k < l.length) : totM (l.take (k + 1)) = totM (l.take k) + (4 + l[k].val.length) := by
  unfold totM
  rw [List.take_add_one, List.getElem?_eq_getElem hk, List.map_append, List.sum_append]
  simp
set_option maxRecDepth 20000 in
theorem fldB_byte (x : Fld) (h1 : 0 ≤ x.kind) (h2 : x.kind ≤ 65535) (h3 : ¬ big x = true) (hb : ∀ c ∈ x.val, 0 ≤ c ∧ c ≤ 255) : ∀ c ∈ fldB x, 0 ≤ c ∧ c ≤ 255 := by
  unfold big at h3
  rw [decide_eq_true_eq] at h3
  unfold fldB
  intro c hc
  simp only [List.mem_cons] at hc
  rcases hc with rfl | rfl | rfl | rfl | hc
  · omega
  · omega
  · omega
  · omega
  · exact hb c hc
set_option maxRecDepth 20000 in
theorem encM_byte (l : List Fld) (h : ∀ x ∈ l, (0 ≤ x.kind ∧ x.kind ≤ 65535) ∧ ∀ c ∈ x.val, 0 ≤ c ∧ c ≤ 255) (hb : ∀ x ∈ l, ¬ big x = true) : ∀ c ∈ encM l, 0 ≤ c ∧ c ≤ 255 := by
  intro c hc
  unfold encM at hc
  obtain ⟨x, hx, hc⟩ := List.mem_flatMap.1 hc
  exact fldB_byte x (h x hx).1.1 (h x hx).1.2 (hb x hx) (h x hx).2 c hc
def putM (l : List Fld) (mac : List Int) : List Int × Int :=
  if 32 < l.length then ([], 3)
  else if l.any big = true then ([], 2)
  else if (takeM (encM l ++ mac)).2.2 ≠ 0 ∨ (takeM (encM l ++ mac)).2.1.length ≠ mac.length ∨ l ≠ (takeM (encM l ++ mac)).1 then ([], 2)
  else (encM l ++ mac, 0)
def PutRet (r : List Int × Int) (W : World) (e : Ending) (w' : World) : Prop := ∃ v, e = .returned (.tuple #[v, .int .i64 r.2]) ∧ ByteV w' v r.1 ∧ Mo W w'
set_option maxRecDepth 20000 in
theorem ExtS.ok {W : World} {A : Option Addr} {cap : Nat} {l : List Fld} (h : ExtS W A cap l) : ∀ x ∈ l, (0 ≤ x.kind ∧ x.kind ≤ 65535) ∧ ∀ c ∈ x.val, 0 ≤ c ∧ c ≤ 255 := by
  intro x hx
  obtain ⟨i, hi, rfl⟩ := List.getElem_of_mem hx
  obtain ⟨g, off, rfl, _, hc⟩ := h.get (by omega)
  obtain ⟨a, n, c, _, h2, h3, _, _, h6⟩ := hc i hi
  exact ⟨⟨h2, h3⟩, h6.byte⟩
set_option maxRecDepth 20000 in
theorem byteS_blk {w : World} {g : Nat} {cs : Array Value} (h : Blk w g 5 cs) (bs : List Int) (hc : cs = (byteL bs).toArray) (hb : ∀ c ∈ bs, 0 ≤ c ∧ c ≤ 255) (hl : bs.length ≤ 140737488355328) : ByteS w (some ⟨g, 0, none⟩) bs.length bs := by
  refine ⟨Nat.le_refl _, hl, hb, fun e => (by cases e), .inr ⟨g, 0, rfl, fun i hi => ?_⟩⟩
  rw [Nat.zero_add, blk_cell h, hc]
  simp [hi]
set_option maxRecDepth 20000 in
set_option maxHeartbeats 1000000 in
theorem put_long (A A' : Option Addr) (n m cap cap' : Nat) (l : List Fld) (mac : List Int) (W : World) (hn : l.length = n) (hl : 32 < n) (hlim : n ≤ 4398046511104) :
    Calls Try.prog 85 #[.slice A n cap, .slice A' m cap'] W (PutRet (putM l mac) W) := by
  have hp : putM l mac = ([], 3) := by unfold putM; rw [if_pos (by omega)]
  rw [hp]
  clear hp hn
  go_enter Try.func85, Try.ntmps85
  go_wp2_with fail
  go_ret2
  exact ⟨_, rfl, byteV_nil W, Mor.out⟩
set_option maxRecDepth 20000 in
set_option maxHeartbeats 2000000 in
theorem put_any (A A' : Option Addr) (n m cap cap' : Nat) (l : List Fld) (mac : List Int) (W : World) (hn : l.length = n) (hm : mac.length = m) (h : ExtS W A cap l) (h' : ByteS W A' cap' mac) (hl : n ≤ 32) (ht : totM l + m ≤ 100000) :
    Calls Try.prog 85 #[.slice A n cap, .slice A' m cap'] W (PutRet (putM l mac) W) := by
  obtain ⟨r, hr⟩ : ∃ r, putM l mac = r := ⟨_, rfl⟩
  rw [hr]
  have RR := Lib.hid hr
  have HN := Lib.hid hn
  have HM := Lib.hid hm
  have HB := Lib.hid h
  have HC := Lib.hid h'
  have OK := Lib.hid h.ok
  clear hr hn hm h h'
  go_enter Try.func85, Try.ntmps85
  go_wp2_with fail
  go_loopw [6, 18] (fun v i wr => ∃ k : Nat, k ≤ n ∧ i = .int .i64 k ∧ wr.ownsRow W.heap.size 5 1 v (totM (l.take k)) (byteL (encM (l.take k))) ∧ (∀ x ∈ l.take k, ¬ big x = true) ∧ Mo W wr) (fun _ i _ => n - (intOf i).toNat)
  case atStart => exact ⟨0, by omega, rfl, by rw [List.take_zero]; exact World.ownsRow_nil _ _ _ _, by simp, Mor.out⟩
  case round =>
    obtain ⟨k, hk, rfl, hown, hbig, hM⟩ := hrel
    have BG := Lib.hid hbig
    have OW := Lib.hid hown
    clear hbig hown
    by_cases ck : k < n
    · have hk1 : k < l.length := by rw [HN.out]; exact ck
      obtain ⟨g, off, rfl, LG, hc⟩ := HB.out.get (by omega)
      obtain ⟨xa, xn, xc, a1', a2, a3, a4', a5, a6⟩ := hc k hk1
      have LGr : LtW g wr := hM.ltW LG
      have a1 := hM.cell.trans a1'
      have a4 := hM.cell.trans a4'
      clear a1' a4'
      have T1 := Lib.hid (totM_get l k hk1)
      have t1 : l.take (k + 1) = l.take k ++ [l[k]] := by rw [List.take_add_one, List.getElem?_eq_getElem hk1]; rfl
      have T2 := Lib.hid t1
      have T3 := Lib.hid (List.getElem_mem hk1)
      have tt := totM_take l (k + 1)
      rw [T1.out, a5] at tt
      clear hc t1
      have i0 : (0 : Int) ≤ k := by omega
      have i1 : (k : Int) < n := by omega
      generalize l[k] = x at *
      obtain ⟨xk, xv⟩ := x
      simp only at a1 a2 a3 a5 a6 tt
      have A5 := Lib.hid a5
      have A6 := Lib.hid a6
      clear a5 a6
      have w1 : IntKind.i64.wrap (4 + (xn : Int)) = 4 + xn := by rw [IntKind.wrap_i64]; omega
      by_cases cb : 65532 < 4 + xn
      · have e1 : l.any big = true := List.any_eq_true.2 ⟨_, T3.out, by unfold big; rw [decide_eq_true_eq]; show 65532 < 4 + xv.length; rw [A5.out]; exact cb⟩
        have e2 : r = ([], 2) := by rw [← RR.out]; unfold putM; rw [if_neg (by rw [HN.out]; omega), if_pos e1]
        subst e2
        clear e1
        go_wp2_with fail
        go_ret2
        exact ⟨_, rfl, byteV_nil _, hM.trans Mor.out⟩
      · have cb' : (4 : Int) + xn ≤ 65532 := by omega
        have b4 : ∀ c ∈ [xk / 256, xk % 256, (4 + (xn : Int)) / 256, (4 + (xn : Int)) % 256], 0 ≤ c ∧ c ≤ 255 := by
          intro c hc
          simp only [List.mem_cons, List.not_mem_nil, or_false] at hc
          rcases hc with rfl | rfl | rfl | rfl <;> omega
        have B4 := Lib.hid b4
        clear b4
        go_wp2_with (first
          | (at_builtin
             refine wpList_append_bytes rfl (.tmp 28) (.tmp 41) rfl W.heap.size _ (totM (l.take k)) _ rfl (owns_mo OW.out Mor.out) (some ⟨wr.heap.size + 1, 0, none⟩) 4 4 [xk / 256, xk % 256, (4 + (xn : Int)) / 256, (4 + (xn : Int)) % 256] rfl rfl (byteS_blk (cs := #[.int .u8 (xk / 256), .int .u8 (xk % 256), .int .u8 ((4 + (xn : Int)) / 256), .int .u8 ((4 + (xn : Int)) % 256)]) inferInstance _ rfl B4.out (by simp)) (by omega) (by have := hM.size; simp; omega) ?_
             intro v1 w1 hown1 hgrow1
             have hM1 : Mo W w1 := mo_grown (hM.trans (Mor.out : Mo wr _)) hgrow1 (fun j e => (OW.out.lt j e).1)
             have b1 : w1.cell? ⟨wr.heap.size, 1, none⟩ = some (.slice xa xn xc) := by
               rw [World.cell?_of_block (hgrow1.block wr.heap.size (by simp; omega) (fun e => by have := (OW.out.lt _ e.symm).2; omega))]
               simp [go_sem])
          | (at_builtin
             refine wpList_append_bytes rfl (.tmp 43) (.tmp 45) rfl W.heap.size _ (totM (l.take k) + 4) _ rfl hown1 xa xn xc xv A5.out rfl (A6.out.mo hM1) (by omega) hM1.size ?_
             intro v2 w2 hown2 hgrow2
             have hM2 : Mo W w2 := mo_grown hM1 hgrow2 (fun j e => (hown1.lt j e).1)))
        have e1 : totM (l.take (k + 1)) = totM (l.take k) + 4 + xn := by rw [T1.out, A5.out]; omega
        have e2 : byteL (encM (l.take (k + 1))) = byteL (encM (l.take k)) ++ byteL [xk / 256, xk % 256, (4 + (xn : Int)) / 256, (4 + (xn : Int)) % 256] ++ byteL xv := by
          rw [T2.out, encM_snoc]
          unfold fldB
          simp [A5.out]
        have hown3 : w2.ownsRow W.heap.size 5 1 v2 (totM (l.take (k + 1))) (byteL (encM (l.take (k + 1)))) := by rw [e1, e2]; exact hown2
        have OW3 := Lib.hid hown3
        clear e1 e2 hown3 hown1 hown2 hgrow1 hgrow2 b1
        go_roundw
        case rel => exact ⟨k + 1, by omega, by go_num, OW3.out, by
          rw [T2.out]
          intro x hx
          rcases List.mem_append.1 hx with h | h
          · exact BG.out x h
          · obtain rfl : x = _ := by simpa using h
            unfold big
            rw [decide_eq_true_eq]
            show ¬ 65532 < 4 + xv.length
            rw [A5.out]; exact cb, hM2⟩
        case measure => simp [intOf]; omega
    · have hkn : k = n := by omega
      subst hkn
      have et : l.take k = l := List.take_of_length_le (by rw [HN.out]; omega)
      have hown := OW.out
      rw [et] at hown
      have BG2 := Lib.hid (fun x hx => BG.out x (by rw [et]; exact hx))
      have OW2 := Lib.hid hown
      have e1 : ¬ l.any big = true := fun h => by
        obtain ⟨x, hx, hb⟩ := List.any_eq_true.1 h
        exact BG2.out x hx hb
      have hr := RR.out
      unfold putM at hr
      rw [if_neg (by rw [HN.out]; omega), if_neg e1] at hr
      have RR2 := Lib.hid hr
      clear et hown e1 hr OW BG RR
      go_wp2_with (at_builtin
                   refine wpList_append_bytes rfl (.tmp 48) (.tmp 49) rfl W.heap.size _ (totM l) _ rfl OW2.out A' m cap' mac HM.out rfl (HC.out.mo hM) (by omega) hM.size ?_
                   intro v2 w2 hown2 hgrow2
                   have hM2 : Mo W w2 := mo_grown hM hgrow2 (fun j e => (OW2.out.lt j e).1)
                   have hlm : (encM l ++ mac).length = totM l + m := by rw [List.length_append, encM_len, HM.out]
                   have hbv : ByteV w2 v2 (encM l ++ mac) := owns_byteS (n := totM l + m) (by rw [show byteL (encM l ++ mac) = byteL (encM l) ++ byteL mac from List.map_append]; exact hown2) (by omega) (fun c hc => by
                     rcases List.mem_append.1 hc with h | h
                     · exact encM_byte l OK.out BG2.out c h
                     · exact HC.out.byte c h)
                   obtain ⟨A3, c3, rfl, hb3⟩ := hbv
                   rw [hlm]
                   have TK := Lib.hid (take_any A3 c3 (totM l + m) (encM l ++ mac) w2 hlm hb3)
                   clear hown2 hgrow2 hM)
      refine TK.out.mono ?_
      rintro e w3 ⟨v3, v4, rfl, hv3, hv4, M3⟩
      have hM3 := hM2.trans M3
      have hbv3 : ByteV w3 (.slice A3 (totM l + m) c3) (encM l ++ mac) := ⟨A3, c3, by rw [hlm], hb3.mo M3⟩
      have HV := Lib.hid hbv3
      obtain ⟨A4, c4, rfl, hb4⟩ := hv3
      obtain ⟨A5, c5, rfl, hb5⟩ := hv4
      generalize takeM (encM l ++ mac) = t at *
      obtain ⟨tl, tm, tc⟩ := t
      simp only at hb4 hb5 RR2
      obtain ⟨n4, hn4⟩ : ∃ q, tl.length = q := ⟨_, rfl⟩
      obtain ⟨n5, hn5⟩ : ∃ q, tm.length = q := ⟨_, rfl⟩
      have L4 := hb4.lim
      have L5 := hb5.lim
      rw [hn4] at L4 ⊢
      rw [hn5] at L5 ⊢
      have H4 := Lib.hid hn4
      have H5 := Lib.hid hn5
      have EQ := Lib.hid (fun w (q : Mo w3 w) => equalF_any A A4 k n4 cap c4 l tl w HN.out hn4 ((HB.out.mo hM3).mo q) (hb4.mo q))
      clear hn4 hn5 hb4 hb5 TK hb3 hbv3 M3 hM2 hlm OW2 BG2 OK
      by_cases c1 : tc = 0
      · subst c1
        by_cases c2 : n5 = m
        · subst c2
          have d2 : ((n5 : Int) != n5) = false := by simp
          by_cases c3 : l = tl
          · have hr := RR2.out
            rw [if_neg (by rw [H5.out, HM.out]; simp [c3])] at hr
            subst hr
            rw [decide_eq_true c3] at EQ
            clear c3 RR2
            go_wp2_with fail
            refine (EQ.out _ (Mo.refl _)).mono ?_
            rintro e w4 ⟨rfl, M4⟩
            go_wp2_with fail
            go_ret2
            exact ⟨_, rfl, HV.out.mo M4, hM3.trans M4⟩
          · have hr := RR2.out
            rw [if_pos (.inr (.inr c3))] at hr
            subst hr
            rw [decide_eq_false c3] at EQ
            clear c3 RR2
            go_wp2_with fail
            refine (EQ.out _ (Mo.refl _)).mono ?_
            rintro e w4 ⟨rfl, M4⟩
            go_wp2_with fail
            go_ret2
            exact ⟨_, rfl, byteV_nil _, hM3.trans M4⟩
        · have hr := RR2.out
          rw [if_pos (.inr (.inl (by rw [H5.out, HM.out]; exact c2)))] at hr
          subst hr
          have d2 : ((n5 : Int) != m) = true := by simp; omega
          clear c2 RR2 EQ
          go_wp2_with fail
          go_ret2
          exact ⟨_, rfl, byteV_nil _, hM3⟩
      · have hr := RR2.out
        rw [if_pos (.inl c1)] at hr
        subst hr
        have d1 : (tc != 0) = true := by simp [c1]
        clear c1 RR2 EQ
        go_wp2_with fail
        go_ret2
        exact ⟨_, rfl, byteV_nil _, hM3⟩
end Go.Proofs.Ytcflebggepmmcaa
/- What is put is what is read: the reference's Put is Put's (no program in sight). -/
namespace Go.Proofs.Ytcflebggepmmcaa
open Go.RowKit

def macM (bs : List Int) : List Int := if (nextM (bs.drop (endF bs 0))).1 = 1 then bs.drop (endF bs 0) else []
def refPutM (l : List Fld) (mac : List Int) : List Int × Int :=
  if 32 < l.length then ([], 3)
  else if l.any big = true then ([], 2)
  else if (nextM ((encM l ++ mac).drop (endF (encM l ++ mac) 0))).1 = 3 ∨ (parse (encM l ++ mac) 0).map fldOf ≠ l ∨ macM (encM l ++ mac) ≠ mac then ([], 2)
  else (encM l ++ mac, 0)
set_option maxRecDepth 20000 in
theorem four {bs : List Int} (h : 4 ≤ bs.length) : bs = bs.getD 0 0 :: bs.getD 1 0 :: bs.getD 2 0 :: bs.getD 3 0 :: bs.drop 4 := by
  match bs, h with
  | a :: b :: c :: d :: t, _ => rfl
set_option maxRecDepth 20000 in
theorem enc_parse (bs : List Int) (hb : ∀ c ∈ bs, 0 ≤ c ∧ c ≤ 255) : ∀ (m a : Nat), bs.length - a ≤ m → encM ((parse bs a).map fldOf) ++ bs.drop (endF bs a) = bs.drop a := by
  intro m
  induction m with
  | zero =>
    intro a hm
    have h : ¬ (nextM (bs.drop a)).1 = 2 := fun h => by
      have := (nextM_field h).1
      rw [List.length_drop] at this
      omega
    rw [parse_nil h, endF_nil h]
    rfl
  | succ m ih =>
    intro a hm
    by_cases h : (nextM (bs.drop a)).1 = 2
    · obtain ⟨f1, f2, f3, f4, f5⟩ := nextM_field h
      have hl := part_len h
      have hi := ih (a + sz (bs.drop a)) (by rw [List.length_drop] at f1; omega)
      rw [parse_cons h, endF_cons h]
      have hbd : ∀ c ∈ bs.drop a, 0 ≤ c ∧ c ≤ 255 := fun c hc => hb c (List.mem_of_mem_drop hc)
      have hd : bs.drop (a + sz (bs.drop a)) = (bs.drop a).drop (sz (bs.drop a)) := by rw [List.drop_drop]
      rw [hd] at hi
      rw [List.map_cons, show encM (_ :: _) = fldB _ ++ encM _ from rfl, List.append_assoc, hi]
      generalize bs.drop a = t at *
      have g : ∀ i, i < t.length → 0 ≤ t.getD i 0 ∧ t.getD i 0 ≤ 255 := fun i hi => by
        rw [List.getD_eq_getElem?_getD, List.getElem?_eq_getElem hi]
        exact hbd _ (List.getElem_mem hi)
      have g0 := g 0 (by omega)
      have g1 := g 1 (by omega)
      have g2 := g 2 (by omega)
      have g3 := g 3 (by omega)
      have es : (sz t : Int) = t.getD 2 0 * 256 + t.getD 3 0 := by unfold sz sizeM; omega
      unfold fldB fldOf kindM
      simp only [hl]
      rw [show (4 + (sz t - 4) : Nat) = sz t by omega]
      have e0 : (t.getD 0 0 * 256 + t.getD 1 0) / 256 = t.getD 0 0 := by omega
      have e1 : (t.getD 0 0 * 256 + t.getD 1 0) % 256 = t.getD 1 0 := by omega
      have e2 : (sz t : Int) / 256 = t.getD 2 0 := by omega
      have e3 : (sz t : Int) % 256 = t.getD 3 0 := by omega
      rw [e0, e1, e2, e3]
      have e4 : t.drop (sz t) = (t.drop 4).drop (sz t - 4) := by rw [List.drop_drop]; congr 1; omega
      rw [e4]
      conv => rhs; rw [four (bs := t) (by omega)]
      simp only [List.cons_append]
      rw [List.take_append_drop]
    · rw [parse_nil h, endF_nil h]
      rfl
set_option maxRecDepth 20000 in
theorem macM_nil {bs : List Int} (h : (nextM (bs.drop (endF bs 0))).1 = 0) : bs.drop (endF bs 0) = [] := by
  unfold nextM at h
  by_cases c0 : (bs.drop (endF bs 0)).length = 0
  · exact List.eq_nil_of_length_eq_zero c0
  · rw [if_neg c0] at h
    split at h
    · simp at h
    · split at h
      · simp at h
      · split at h <;> simp at h
set_option maxRecDepth 20000 in
theorem nextM_end (bs : List Int) : ∀ (m a : Nat), bs.length - a ≤ m → ¬ (nextM (bs.drop (endF bs a))).1 = 2 := by
  intro m
  induction m with
  | zero =>
    intro a hm
    have h : ¬ (nextM (bs.drop a)).1 = 2 := fun h => by
      have := (nextM_field h).1
      rw [List.length_drop] at this
      omega
    rw [endF_nil h]
    exact h
  | succ m ih =>
    intro a hm
    by_cases h : (nextM (bs.drop a)).1 = 2
    · rw [endF_cons h]
      obtain ⟨f1, _, f3, _, _⟩ := nextM_field h
      rw [List.length_drop] at f1
      exact ih _ (by omega)
    · rw [endF_nil h]; exact h
set_option maxRecDepth 20000 in
theorem nextM_cases (bs : List Int) : (nextM bs).1 = 0 ∨ (nextM bs).1 = 1 ∨ (nextM bs).1 = 2 ∨ (nextM bs).1 = 3 := by
  unfold nextM
  split
  · exact .inl rfl
  · split
    · exact .inr (.inl rfl)
    · split
      · exact .inr (.inr (.inr rfl))
      · split
        · exact .inr (.inr (.inr rfl))
        · exact .inr (.inr (.inl rfl))
set_option maxRecDepth 20000 in
theorem takeM_ok {bs : List Int} : (takeM bs).2.2 = 0 ↔ (parse bs 0).length ≤ 32 ∧ ¬ (nextM (bs.drop (endF bs 0))).1 = 3 := by
  unfold takeM
  simp only [List.length_map]
  by_cases h1 : 32 < (parse bs 0).length
  · rw [if_pos h1]; simp; omega
  · rw [if_neg h1]
    by_cases h2 : (nextM (bs.drop (endF bs 0))).1 = 3
    · rw [if_pos h2]; simp [h2]
    · rw [if_neg h2]; simp [h2]; omega
set_option maxRecDepth 20000 in
theorem takeM_val {bs : List Int} (h : (takeM bs).2.2 = 0) : takeM bs = ((parse bs 0).map fldOf, macM bs, 0) := by
  obtain ⟨h1, h2⟩ := takeM_ok.1 h
  unfold takeM macM
  simp only [List.length_map]
  rw [if_neg (by omega), if_neg h2]
set_option maxRecDepth 20000 in
theorem refPut_eq (l : List Fld) (mac : List Int) (hx : ∀ x ∈ l, (0 ≤ x.kind ∧ x.kind ≤ 65535) ∧ ∀ c ∈ x.val, 0 ≤ c ∧ c ≤ 255) (hm : ∀ c ∈ mac, 0 ≤ c ∧ c ≤ 255) : refPutM l mac = putM l mac := by
  unfold refPutM putM
  by_cases h1 : 32 < l.length
  · rw [if_pos h1, if_pos h1]
  rw [if_neg h1, if_neg h1]
  by_cases h2 : l.any big = true
  · rw [if_pos h2, if_pos h2]
  rw [if_neg h2, if_neg h2]
  have hby : ∀ c ∈ encM l ++ mac, 0 ≤ c ∧ c ≤ 255 := fun c hc => by
    rcases List.mem_append.1 hc with h | h
    · exact encM_byte l hx (fun x hx' hb => h2 (List.any_eq_true.2 ⟨x, hx', hb⟩)) c h
    · exact hm c h
  have hep := enc_parse (encM l ++ mac) hby (encM l ++ mac).length 0 (by omega)
  rw [List.drop_zero] at hep
  have iff : ((nextM ((encM l ++ mac).drop (endF (encM l ++ mac) 0))).1 = 3 ∨ (parse (encM l ++ mac) 0).map fldOf ≠ l ∨ macM (encM l ++ mac) ≠ mac) ↔ ((takeM (encM l ++ mac)).2.2 ≠ 0 ∨ (takeM (encM l ++ mac)).2.1.length ≠ mac.length ∨ l ≠ (takeM (encM l ++ mac)).1) := by
    obtain ⟨b, hb0⟩ : ∃ b, encM l ++ mac = b := ⟨_, rfl⟩
    rw [hb0] at hep ⊢
    constructor
    · rintro (h | h | h)
      · exact .inl fun e => (takeM_ok.1 e).2 h
      · by_cases e : (takeM b).2.2 = 0
        · refine .inr (.inr ?_)
          rw [takeM_val e]
          exact fun e => h e.symm
        · exact .inl e
      · by_cases e : (takeM b).2.2 = 0
        · by_cases e2 : (parse b 0).map fldOf = l
          · refine .inr (.inl ?_)
            rw [takeM_val e]
            intro e3
            apply h
            rw [e2, ← hb0] at hep
            have hd : (encM l ++ mac).drop (endF (encM l ++ mac) 0) = mac := List.append_cancel_left hep
            rw [hb0] at hd
            unfold macM
            rcases nextM_cases (b.drop (endF b 0)) with q | q | q | q
            · rw [if_neg (by rw [q]; decide), ← hd, macM_nil q]
            · rw [if_pos q, hd]
            · exact absurd q (nextM_end b b.length 0 (by omega))
            · exact absurd q (takeM_ok.1 e).2
          · refine .inr (.inr ?_)
            rw [takeM_val e]
            exact fun e => e2 e.symm
        · exact .inl e
    · intro h
      by_cases q3 : (nextM (b.drop (endF b 0))).1 = 3
      · exact .inl q3
      by_cases q2 : (parse b 0).map fldOf = l
      · refine .inr (.inr fun q1 => ?_)
        have e : (takeM b).2.2 = 0 := takeM_ok.2 ⟨by have := congrArg List.length q2; rw [List.length_map] at this; omega, q3⟩
        rw [takeM_val e] at h
        rcases h with h | h | h
        · exact h rfl
        · exact h (by rw [q1])
        · exact h q2.symm
      · exact .inr (.inl q2)
  by_cases h3 : (takeM (encM l ++ mac)).2.2 ≠ 0 ∨ (takeM (encM l ++ mac)).2.1.length ≠ mac.length ∨ l ≠ (takeM (encM l ++ mac)).1
  · rw [if_pos h3, if_pos (iff.2 h3)]
  · rw [if_neg h3, if_neg (fun h => h3 (iff.1 h))]
end Go.Proofs.Ytcflebggepmmcaa
/- the document's examples, plain. -/
namespace Go.Proofs.Ytcflebggepmmcaa
open Go.RowKit

abbrev zeros (n : Nat) : List Int := List.replicate n 0
set_option maxRecDepth 20000 in
theorem takeM_20 : takeM (zeros 20) = ([], zeros 20, 0) := by
  have h : ¬ (nextM ((zeros 20).drop 0)).1 = 2 := by decide
  unfold takeM
  rw [parse_nil h, endF_nil h]
  rfl
set_option maxRecDepth 20000 in
theorem takeM_12 : takeM (zeros 12) = ([], [], 8) := by
  have h : ¬ (nextM ((zeros 12).drop 0)).1 = 2 := by decide
  unfold takeM
  rw [parse_nil h, endF_nil h]
  rfl
set_option maxRecDepth 20000 in
theorem takeM_one (k v : Nat) (mac : List Int) (h0 : (nextM (encM [⟨k, zeros v⟩] ++ mac)).1 = 2)
    (h1 : sz (encM [⟨k, zeros v⟩] ++ mac) = 4 + v) (h2 : kindM (encM [⟨k, zeros v⟩] ++ mac) = k) (h3 : ¬ (nextM mac).1 = 2) (h4 : ¬ (nextM mac).1 = 3) (h5 : (nextM mac).1 ≠ 1 → mac = []) : takeM (encM [⟨k, zeros v⟩] ++ mac) = ([⟨k, zeros v⟩], mac, 0) := by
  have hd : (encM [⟨k, zeros v⟩] ++ mac).drop (0 + (4 + v)) = mac := by
    rw [Nat.zero_add]
    exact List.drop_left' (by rw [encM_len]; simp [totM])
  have hv : (((encM [⟨k, zeros v⟩] ++ mac).drop 0).drop 4).take (4 + v - 4) = zeros v := by
    simp [encM, fldB]
  have e1 := parse_cons (bs := encM [⟨k, zeros v⟩] ++ mac) (a := 0) (by rw [List.drop_zero]; exact h0)
  have e2 := endF_cons (bs := encM [⟨k, zeros v⟩] ++ mac) (a := 0) (by rw [List.drop_zero]; exact h0)
  rw [List.drop_zero, h1] at e1 e2
  rw [h2] at e1
  have n1 : parse (encM [⟨k, zeros v⟩] ++ mac) (0 + (4 + v)) = [] := parse_nil (by rw [hd]; exact h3)
  have n2 : endF (encM [⟨k, zeros v⟩] ++ mac) (0 + (4 + v)) = 0 + (4 + v) := endF_nil (by rw [hd]; exact h3)
  rw [n1] at e1
  rw [n2] at e2
  rw [List.drop_zero] at hv
  rw [hv] at e1
  unfold takeM
  rw [e1, e2, hd]
  simp only [List.map_cons, List.map_nil, List.length_cons, List.length_nil]
  rw [if_neg (by decide), if_neg h4]
  by_cases c : (nextM mac).1 = 1
  · rw [if_pos c]
  · rw [if_neg c, h5 c]
set_option maxRecDepth 20000 in
theorem putM_short : putM [⟨1, zeros 12⟩] [] = ([], 2) := by
  have h : ¬ (nextM ((encM [⟨1, zeros 12⟩] ++ []).drop 0)).1 = 2 := by decide
  have h2 : (nextM ((encM [⟨1, zeros 12⟩] ++ []).drop 0)).1 = 3 := by decide
  have t : takeM (encM [⟨1, zeros 12⟩] ++ []) = ([], [], 8) := by
    unfold takeM
    rw [parse_nil h, endF_nil h]
    simp only [List.map_nil, List.length_nil]
    rw [if_neg (by decide), if_pos h2]
  unfold putM
  rw [t, if_neg (by decide), if_neg (by decide), if_pos (.inl (by decide))]
set_option maxRecDepth 20000 in
theorem putM_36 : putM [⟨1, zeros 12⟩] (zeros 20) = (encM [⟨1, zeros 12⟩] ++ zeros 20, 0) := by
  have t := takeM_one 1 12 (zeros 20) (by decide) (by decide) (by decide) (by decide) (by decide) (by decide)
  simp only [Int.natCast_one] at t
  unfold putM
  rw [t, if_neg (by decide), if_neg (by decide), if_neg (by simp)]
set_option maxRecDepth 20000 in
theorem putM_28 : putM [⟨1, zeros 24⟩] [] = (encM [⟨1, zeros 24⟩] ++ [], 0) := by
  have t := takeM_one 1 24 [] (by decide) (by decide) (by decide) (by decide) (by decide) (by decide)
  simp only [Int.natCast_one] at t
  unfold putM
  rw [t, if_neg (by decide), if_neg (by decide), if_neg (by simp)]
end Go.Proofs.Ytcflebggepmmcaa
/- What good fields are read as (plain), and the 33 fields of ExtKnown. -/
namespace Go.Proofs.Ytcflebggepmmcaa
open Go.RowKit

structure GoodF (x : Fld) : Prop where
  lo : 24 ≤ x.val.length
  four : x.val.length % 4 = 0
  hi : x.val.length ≤ 65528
set_option maxRecDepth 20000 in
theorem getD_app {a b : List Int} {i : Nat} (h : i < a.length) : (a ++ b).getD i 0 = a.getD i 0 := by
  simp [List.getD, List.getElem?_append_left h]
set_option maxRecDepth 20000 in
theorem fldB_app (x : Fld) (t : List Int) : fldB x ++ t = x.kind / 256 :: x.kind % 256 :: ((4 + x.val.length : Nat) : Int) / 256 :: ((4 + x.val.length : Nat) : Int) % 256 :: (x.val ++ t) := rfl
set_option maxRecDepth 20000 in
theorem next_good {x : Fld} {t : List Int} (h : GoodF x) : (nextM (fldB x ++ t)).1 = 2 ∧ sz (fldB x ++ t) = 4 + x.val.length ∧ kindM (fldB x ++ t) = x.kind := by
  have h1 := h.lo
  have h2 := h.four
  have h3 := h.hi
  have hl : (fldB x ++ t).length = 4 + x.val.length + t.length := by rw [List.length_append, fldB_len]
  have hs : sizeM (fldB x ++ t) = ((4 + x.val.length : Nat) : Int) := by
    rw [fldB_app]
    show ((4 + x.val.length : Nat) : Int) / 256 * 256 + ((4 + x.val.length : Nat) : Int) % 256 = _
    omega
  refine ⟨?_, ?_, ?_⟩
  · unfold nextM
    rw [if_neg (by omega), if_neg (by omega), if_neg (by omega), if_neg (by rw [hs, hl]; omega)]
  · unfold sz
    rw [hs]
    omega
  · rw [fldB_app]
    show x.kind / 256 * 256 + x.kind % 256 = x.kind
    omega
set_option maxRecDepth 20000 in
theorem parse_enc : ∀ (l : List Fld) (pre suf : List Int), (∀ x ∈ l, GoodF x) →
    (parse (pre ++ (encM l ++ suf)) pre.length).map fldOf = l ++ (parse (pre ++ (encM l ++ suf)) (pre.length + totM l)).map fldOf ∧ endF (pre ++ (encM l ++ suf)) pre.length = endF (pre ++ (encM l ++ suf)) (pre.length + totM l)
  | [], pre, suf, _ => ⟨by simp [totM], by simp [totM]⟩
  | x :: xs, pre, suf, hg => by
    have hx := hg x (by simp)
    have e0 : encM (x :: xs) = fldB x ++ encM xs := rfl
    have e1 : totM (x :: xs) = 4 + x.val.length + totM xs := by unfold totM; rw [List.map_cons, List.sum_cons]
    have eb : pre ++ (encM (x :: xs) ++ suf) = (pre ++ fldB x) ++ (encM xs ++ suf) := by rw [e0]; simp
    obtain ⟨i1, i2⟩ := parse_enc xs (pre ++ fldB x) suf (fun y hy => hg y (by simp [hy]))
    rw [← eb, List.length_append, fldB_len] at i1 i2
    obtain ⟨b, hb⟩ : ∃ b, pre ++ (encM (x :: xs) ++ suf) = b := ⟨_, rfl⟩
    have hd : b.drop pre.length = fldB x ++ (encM xs ++ suf) := by rw [← hb, e0, List.drop_left]; simp
    rw [hb] at i1 i2 ⊢
    obtain ⟨n1, n2, n3⟩ := next_good (t := encM xs ++ suf) hx
    rw [← hd] at n1 n2 n3
    rw [parse_cons n1, endF_cons n1, n2, e1, List.map_cons, i1, i2]
    refine ⟨?_, by rw [show pre.length + (4 + x.val.length) + totM xs = pre.length + (4 + x.val.length + totM xs) by omega]⟩
    rw [show pre.length + (4 + x.val.length) + totM xs = pre.length + (4 + x.val.length + totM xs) by omega, List.cons_append]
    congr 1
    unfold fldOf
    rw [n3, hd, fldB_app]
    simp
set_option maxRecDepth 20000 in
theorem take_enc (l : List Fld) (hg : ∀ x ∈ l, GoodF x) : (parse (encM l) 0).map fldOf = l ∧ endF (encM l) 0 = totM l := by
  have h := parse_enc l [] [] hg
  have hd : (encM l).drop (totM l) = [] := by rw [List.drop_eq_nil_iff, encM_len]; omega
  have hn : ¬ (nextM ((encM l).drop (totM l))).1 = 2 := by rw [hd]; decide
  simp only [List.nil_append, List.append_nil, List.length_nil, Nat.zero_add] at h
  rw [parse_nil hn, endF_nil hn, List.map_nil, List.append_nil] at h
  exact h
abbrev mF (i : Nat) : Fld := ⟨i, zeros 24⟩
def manyL (a n : Nat) : List Fld := (List.range n).map fun i => mF (a + i)
set_option maxRecDepth 20000 in
theorem manyL_good {a n : Nat} : ∀ x ∈ manyL a n, GoodF x := by
  intro x hx
  obtain ⟨i, _, rfl⟩ := List.mem_map.1 hx
  exact ⟨by simp, by simp, by simp⟩
set_option maxRecDepth 20000 in
theorem manyL_tot (a n : Nat) : totM (manyL a n) = n * 28 := by
  unfold totM manyL
  rw [List.map_map]
  induction n with
  | zero => rfl
  | succ n ih => rw [List.range_succ, List.map_append, List.sum_append, ih]; simp; omega
set_option maxRecDepth 20000 in
theorem putM_many : putM (manyL 1 32) [] = (encM (manyL 1 32), 0) := by
  obtain ⟨h1, h2⟩ := take_enc (manyL 1 32) manyL_good
  have h3 := manyL_tot 1 32
  have hd : (encM (manyL 1 32)).drop (totM (manyL 1 32)) = [] := by rw [List.drop_eq_nil_iff, encM_len]; omega
  have t0 : (takeM (encM (manyL 1 32))).2.2 = 0 := by
    rw [takeM_ok]
    rw [h2, hd]
    refine ⟨?_, by decide⟩
    have := congrArg List.length h1
    rw [List.length_map] at this
    rw [this]
    simp [manyL]
  have t1 := takeM_val t0
  have t2 : macM (encM (manyL 1 32)) = [] := by
    unfold macM
    rw [h2, hd]
    rfl
  rw [t2, h1] at t1
  have big0 : ¬ (manyL 1 32).any big = true := by
    intro h
    obtain ⟨x, hx, hb⟩ := List.any_eq_true.1 h
    have := (manyL_good x hx)
    obtain ⟨i, _, rfl⟩ := List.mem_map.1 hx
    simp [big] at hb
  unfold putM
  rw [if_neg (by simp [manyL]), if_neg big0, List.append_nil, t1, if_neg (by simp)]
set_option maxRecDepth 20000 in
theorem take_many : takeM (encM (manyL 1 32) ++ (encM (manyL 1 32)).take 28) = ([], [], 3) := by
  have e1 : (encM (manyL 1 32)).take 28 = encM [mF 1] := by decide +kernel
  have e2 : encM (manyL 1 32) ++ encM [mF 1] = encM (manyL 1 32 ++ [mF 1]) := by unfold encM; rw [List.flatMap_append]
  rw [e1, e2]
  obtain ⟨h1, _⟩ := take_enc (manyL 1 32 ++ [mF 1]) (fun x hx => by
    rcases List.mem_append.1 hx with h | h
    · exact manyL_good x h
    · obtain rfl : x = _ := by simpa using h
      exact ⟨by simp, by simp, by simp⟩)
  have := congrArg List.length h1
  rw [List.length_map] at this
  unfold takeM
  simp only [List.length_map]
  rw [this, if_pos (by simp [manyL])]
set_option maxRecDepth 20000 in
theorem take_nil : takeM [] = ([], [], 0) := by
  have h : ¬ (nextM (([] : List Int).drop 0)).1 = 2 := by decide
  unfold takeM
  rw [parse_nil h, endF_nil h]
  rfl
end Go.Proofs.Ytcflebggepmmcaa
/- What is put is taken as it was, and the other way about: plain. -/
namespace Go.Proofs.Ytcflebggepmmcaa
open Go.RowKit

set_option maxRecDepth 20000 in
theorem put_take {l : List Fld} {mac bs : List Int} (hx : ∀ x ∈ l, (0 ≤ x.kind ∧ x.kind ≤ 65535) ∧ ∀ c ∈ x.val, 0 ≤ c ∧ c ≤ 255) (hm : ∀ c ∈ mac, 0 ≤ c ∧ c ≤ 255) (h : putM l mac = (bs, 0)) : takeM bs = (l, mac, 0) := by
  have h2 := h
  rw [← refPut_eq l mac hx hm] at h2
  unfold putM at h
  unfold refPutM at h2
  by_cases c1 : 32 < l.length
  · rw [if_pos c1] at h; simp at h
  rw [if_neg c1] at h h2
  by_cases c2 : l.any big = true
  · rw [if_pos c2] at h; simp at h
  rw [if_neg c2] at h h2
  by_cases c3 : (takeM (encM l ++ mac)).2.2 ≠ 0 ∨ (takeM (encM l ++ mac)).2.1.length ≠ mac.length ∨ l ≠ (takeM (encM l ++ mac)).1
  · rw [if_pos c3] at h; simp at h
  rw [if_neg c3] at h
  by_cases c4 : (nextM ((encM l ++ mac).drop (endF (encM l ++ mac) 0))).1 = 3 ∨ (parse (encM l ++ mac) 0).map fldOf ≠ l ∨ macM (encM l ++ mac) ≠ mac
  · rw [if_pos c4] at h2; simp at h2
  have hb : encM l ++ mac = bs := (Prod.mk.inj h).1
  rw [hb] at c3 c4
  have t0 : (takeM bs).2.2 = 0 := Decidable.byContradiction fun h => c3 (.inl h)
  have t1 : (parse bs 0).map fldOf = l := Decidable.byContradiction fun h => c4 (.inr (.inl h))
  have t2 : macM bs = mac := Decidable.byContradiction fun h => c4 (.inr (.inr h))
  rw [takeM_val t0, t1, t2]
set_option maxRecDepth 20000 in
theorem big_no {l : List Fld} (h : totM l ≤ 65532) : ¬ l.any big = true := by
  intro h2
  obtain ⟨x, hx, hb⟩ := List.any_eq_true.1 h2
  unfold big at hb
  rw [decide_eq_true_eq] at hb
  have : 4 + x.val.length ≤ totM l := by
    unfold totM
    clear h h2 hb
    induction l with
    | nil => simp at hx
    | cons y ys ih =>
      rw [List.map_cons, List.sum_cons]
      rcases List.mem_cons.1 hx with rfl | hx
      · omega
      · have := ih hx; omega
  omega
set_option maxRecDepth 20000 in
theorem take_put {b mac : List Int} {l : List Fld} (hb : ∀ c ∈ b, 0 ≤ c ∧ c ≤ 255) (hl : b.length ≤ 65532) (h : takeM b = (l, mac, 0)) : putM l mac = (b, 0) ∧ l.length ≤ 32 ∧ totM l + mac.length = b.length := by
  have t0 : (takeM b).2.2 = 0 := by rw [h]
  obtain ⟨q1, q2⟩ := takeM_ok.1 t0
  have tv := takeM_val t0
  rw [h] at tv
  have e1 : l = (parse b 0).map fldOf := (Prod.mk.inj tv).1
  have e2 : mac = macM b := (Prod.mk.inj (Prod.mk.inj tv).2).1
  have ep := enc_parse b hb (b.length) 0 (by omega)
  rw [List.drop_zero, ← e1] at ep
  have hmac : b.drop (endF b 0) = mac := by
    rw [e2]
    unfold macM
    rcases nextM_cases (b.drop (endF b 0)) with c | c | c | c
    · rw [if_neg (by rw [c]; decide)]; exact macM_nil c
    · rw [if_pos c]
    · exact absurd c (nextM_end b b.length 0 (by omega))
    · exact absurd c q2
  rw [hmac] at ep
  have hlen : totM l + mac.length = b.length := by rw [← ep, List.length_append, encM_len]
  have hl32 : l.length ≤ 32 := by rw [e1, List.length_map]; exact q1
  refine ⟨?_, hl32, hlen⟩
  unfold putM
  rw [if_neg (by omega), if_neg (big_no (by omega)), ep, h, if_neg (by simp)]
end Go.Proofs.Ytcflebggepmmcaa
/- horologeref21.Bytes: the reference's bytes of fields. -/
namespace Go.Proofs.Ytcflebggepmmcaa
open Go.RowKit

def BytesRet (l : List Fld) (mac : List Int) (W : World) (e : Ending) (w' : World) : Prop := ∃ v, e = .returned (.tuple #[v, .bool (!l.any big)]) ∧ ByteV w' v (if l.any big = true then [] else encM l ++ mac) ∧ Mo W w'
attribute [local go_sem ↓] app_fold
set_option maxRecDepth 20000 in
set_option maxHeartbeats 8000000 in
theorem bytes_any (A A' : Option Addr) (n m cap cap' : Nat) (l : List Fld) (mac : List Int) (W : World) (hn : l.length = n) (hm : mac.length = m) (h : ExtS W A cap l) (h' : ByteS W A' cap' mac) (hl : n ≤ 32) (ht : totM l + m ≤ 100000) :
    Calls Try.prog 76 #[.slice A n cap, .slice A' m cap'] W (BytesRet l mac W) := by
  obtain ⟨R, hR⟩ : ∃ R, BytesRet l mac W = R := ⟨_, rfl⟩
  rw [hR]
  have RR := Lib.hid hR
  have HN := Lib.hid hn
  have HM := Lib.hid hm
  have HB := Lib.hid h
  have HC := Lib.hid h'
  have OK := Lib.hid h.ok
  clear hR hn hm h h'
  obtain ⟨tb, hib, hb0, hb1, hb2⟩ := info_parts infoB
  go_enter Try.func76, Try.ntmps76
  go_wp2_with fail
  go_loopw [6, 7] (fun v i wr => ∃ k : Nat, k ≤ n ∧ i = .int .i64 k ∧ wr.ownsRow W.heap.size 5 1 v (totM (l.take k)) (byteL (encM (l.take k))) ∧ (∀ x ∈ l.take k, ¬ big x = true) ∧ Mo W wr) (fun _ i _ => n - (intOf i).toNat)
  case atStart => exact ⟨0, by omega, rfl, by rw [List.take_zero]; exact World.ownsRow_nil _ _ _ _, by simp, Mor.out⟩
  case round =>
    obtain ⟨k, hk, rfl, hown, hbig, hM⟩ := hrel
    have BG := Lib.hid hbig
    have OW := Lib.hid hown
    clear hbig hown
    by_cases ck : k < n
    · have hk1 : k < l.length := by rw [HN.out]; exact ck
      obtain ⟨g, off, rfl, LG, hc⟩ := HB.out.get (by omega)
      obtain ⟨xa, xn, xc, a1', a2, a3, a4', a5, a6⟩ := hc k hk1
      have LGr : LtW g wr := hM.ltW LG
      have a1 := hM.cell.trans a1'
      have a4 := hM.cell.trans a4'
      have gW := LG.out
      have A4W := Lib.hid a4'
      clear a1' a4'
      have T1 := Lib.hid (totM_get l k hk1)
      have t1 : l.take (k + 1) = l.take k ++ [l[k]] := by rw [List.take_add_one, List.getElem?_eq_getElem hk1]; rfl
      have T2 := Lib.hid t1
      have T3 := Lib.hid (List.getElem_mem hk1)
      have tt := totM_take l (k + 1)
      rw [T1.out, a5] at tt
      clear hc t1
      have i0 : (0 : Int) ≤ k := by omega
      have i1 : (k : Int) < n := by omega
      generalize l[k] = x at *
      obtain ⟨xk, xv⟩ := x
      simp only at a1 a2 a3 a5 a6 tt
      have A5 := Lib.hid a5
      have A6 := Lib.hid a6
      clear a5 a6
      have w1 : IntKind.i64.wrap (4 + (xn : Int)) = 4 + xn := by rw [IntKind.wrap_i64]; omega
      by_cases cb : 65532 < 4 + xn
      · have cb' : (65532 : Int) < 4 + xn := by omega
        have e1 : l.any big = true := List.any_eq_true.2 ⟨_, T3.out, by unfold big; rw [decide_eq_true_eq]; show 65532 < 4 + xv.length; rw [A5.out]; exact cb⟩
        have E1 := Lib.hid e1
        clear e1
        go_wp2_with fail
        rw [← RR.out]
        exact ⟨_, by rw [E1.out]; rfl, by rw [if_pos E1.out]; exact byteV_nil _, hM⟩
      · have cb' : ¬ (65532 : Int) < 4 + xn := by omega
        have b4 : ∀ c ∈ [xk / 256, xk % 256, (4 + (xn : Int)) / 256, (4 + (xn : Int)) % 256], 0 ≤ c ∧ c ≤ 255 := by
          intro c hc
          simp only [List.mem_cons, List.not_mem_nil, or_false] at hc
          rcases hc with rfl | rfl | rfl | rfl <;> omega
        have B4 := Lib.hid b4
        clear b4
        have c1 : IntKind.u8.wrap (xk / 256) = xk / 256 := by rw [IntKind.wrap_u8]; omega
        have c2 : IntKind.u8.wrap (xk % 256) = xk % 256 := by rw [IntKind.wrap_u8]; omega
        have c3 : IntKind.u8.wrap ((4 + (xn : Int)) / 256) = (4 + (xn : Int)) / 256 := by rw [IntKind.wrap_u8]; omega
        have c4 : IntKind.u8.wrap ((4 + (xn : Int)) % 256) = (4 + (xn : Int)) % 256 := by rw [IntKind.wrap_u8]; omega
        have c5 : (0 : Int) ≤ 4 + xn := by omega
        have c6 : xk.tdiv 256 = xk / 256 := Int.tdiv_eq_ediv_of_nonneg a2
        have c7 : xk.tmod 256 = xk % 256 := Int.tmod_eq_emod_of_nonneg a2
        have c8 : (4 + (xn : Int)).tdiv 256 = (4 + (xn : Int)) / 256 := Int.tdiv_eq_ediv_of_nonneg c5
        have c9 : (4 + (xn : Int)).tmod 256 = (4 + (xn : Int)) % 256 := Int.tmod_eq_emod_of_nonneg c5
        have c10 : IntKind.u16.wrap (xk / 256) = xk / 256 := by rw [IntKind.wrap_u16]; omega
        have c11 : IntKind.i64.wrap ((4 + (xn : Int)) / 256) = (4 + (xn : Int)) / 256 := by rw [IntKind.wrap_i64]; omega
        go_upto_region 8 with (fail)
        go_cut [6] (fun s6 wx => wx.ownsRow W.heap.size 5 1 s6 (totM (l.take k) + 4) (byteL (encM (l.take k)) ++ byteL [xk / 256, xk % 256, (4 + (xn : Int)) / 256, (4 + (xn : Int)) % 256]) ∧ Mo W wx)
        case first =>
          have hT := (Mor.out : Mo wr ((wr.alloc (.cells #[.int .u8 (xk / 256), .int .u8 (xk % 256), .int .u8 ((4 + (xn : Int)) / 256), .int .u8 ((4 + (xn : Int)) % 256)] 5)).drew))
          obtain ⟨v4, w4, hrun, hown4, hgrow4, -, -⟩ := run_append_own_at (P := Try.prog) ((wr.alloc (.cells #[.int .u8 (xk / 256), .int .u8 (xk % 256), .int .u8 ((4 + (xn : Int)) / 256), .int .u8 ((4 + (xn : Int)) % 256)] 5)).drew) W.heap.size 39 39 5 tb (.int .u8 0) 1 1 Try.underlying39 hib hb0 hb1 hb2 rfl (by decide) _ _ _ (owns_mo OW.out hT) ⟨wr.heap.size, 0, none⟩ 4 4 (byteL [xk / 256, xk % 256, (4 + (xn : Int)) / 256, (4 + (xn : Int)) % 256]) rfl (news_of_blk (g := wr.heap.size) (t := 5) (cs := #[.int .u8 (xk / 256), .int .u8 (xk % 256), .int .u8 ((4 + (xn : Int)) / 256), .int .u8 ((4 + (xn : Int)) % 256)]) inferInstance _ rfl) (byteL_one _) (by unfold maxLen; omega) (by omega) (by have := hM.size; simp; omega)
          replace hrun : (appAny #[39, 39] 39 #[u6, .slice (some ⟨wr.heap.size, 0, none⟩) 4 4]).run Try.prog _ = .ok v4 w4 := hrun
          have M4 : Mo W w4 := mo_grown (hM.trans hT) hgrow4 (fun j e => (OW.out.lt j e).1)
          have gne : some g ≠ u6.ownBlock := fun e => by have := (OW.out.lt _ e.symm).1; omega
          have m4 : w4.cell? ⟨g, off + k * 2, none⟩ = some (.int .u16 xk) := by rw [World.cell?_of_block (hgrow4.block g (by have := LGr.out; simp; omega) gne)]; simp [go_sem, a1]
          have O4 := Lib.hid hown4
          clear hown4 hgrow4 gne hT
          refine wp_name ?_
          intro wz hwz
          subst hwz
          go_region
          go_wp2_with fail
          go_meet
          exact ⟨O4.out, M4⟩
        case rest =>
          obtain ⟨hown1, hM1⟩ := hcut
          have q4 := hM1.cell.trans A4W.out
          have LGc : LtW g wc := hM1.ltW LG
          have OW1 := Lib.hid hown1
          clear hown1 a1 a4 LGr c1 c2 c3 c4 c5 c6 c7 c8 c9 c10 c11
          go_wp2_with (at_builtin
                       go_loud (refine wpList_append_bytes rfl (.tmp 47) (.tmp 52) rfl W.heap.size _ (totM (l.take k) + 4) _ rfl OW1.out xa xn xc xv A5.out rfl (A6.out.mo hM1) (by omega) hM1.size ?_)
                       intro v2 w2 hown2 hgrow2
                       have hM2 : Mo W w2 := mo_grown hM1 hgrow2 (fun j e => (OW1.out.lt j e).1))
          have e1 : totM (l.take (k + 1)) = totM (l.take k) + 4 + xn := by rw [T1.out, A5.out]; omega
          have e2 : byteL (encM (l.take (k + 1))) = byteL (encM (l.take k)) ++ byteL [xk / 256, xk % 256, (4 + (xn : Int)) / 256, (4 + (xn : Int)) % 256] ++ byteL xv := by
            rw [T2.out, encM_snoc]
            unfold fldB
            simp [A5.out]
          have hown3 : w2.ownsRow W.heap.size 5 1 v2 (totM (l.take (k + 1))) (byteL (encM (l.take (k + 1)))) := by rw [e1, e2]; exact hown2
          have OW3 := Lib.hid hown3
          clear e1 e2 hown3 hown2 hgrow2
          go_roundw
          case rel => exact ⟨k + 1, by omega, by go_num, OW3.out, by
            rw [T2.out]
            intro x hx
            rcases List.mem_append.1 hx with h | h
            · exact BG.out x h
            · obtain rfl : x = _ := by simpa using h
              unfold big
              rw [decide_eq_true_eq]
              show ¬ 65532 < 4 + xv.length
              rw [A5.out]; exact cb, hM2⟩
          case measure => simp [intOf]; omega
    · have hkn : k = n := by omega
      subst hkn
      have et : l.take k = l := List.take_of_length_le (by rw [HN.out]; omega)
      have hown := OW.out
      rw [et] at hown
      have BG2 := Lib.hid (fun x hx => BG.out x (by rw [et]; exact hx))
      have OW2 := Lib.hid hown
      have e1 : ¬ l.any big = true := fun h => by
        obtain ⟨x, hx, hb⟩ := List.any_eq_true.1 h
        exact BG2.out x hx hb
      have E1 := Lib.hid e1
      clear et hown e1 OW BG
      go_wp2_with (at_builtin
                   refine wpList_append_bytes rfl (.tmp 54) (.tmp 55) rfl W.heap.size _ (totM l) _ rfl OW2.out A' m cap' mac HM.out rfl (HC.out.mo hM) (by omega) hM.size ?_
                   intro v2 w2 hown2 hgrow2
                   have hM2 : Mo W w2 := mo_grown hM hgrow2 (fun j e => (OW2.out.lt j e).1)
                   have hbv : ByteV w2 v2 (encM l ++ mac) := owns_byteS (n := totM l + m) (by rw [show byteL (encM l ++ mac) = byteL (encM l) ++ byteL mac from List.map_append]; exact hown2) (by omega) (fun c hc => by
                     rcases List.mem_append.1 hc with h | h
                     · exact encM_byte l OK.out BG2.out c h
                     · exact HC.out.byte c h)
                   clear hown2 hgrow2)
      rw [← RR.out]
      have e2 : l.any big = false := by simpa using E1.out
      exact ⟨_, by rw [e2]; rfl, by rw [if_neg E1.out]; exact hbv, hM2⟩
end Go.Proofs.Ytcflebggepmmcaa
/- ext.Put once more: of up to four million bytes (printed by gen/genpackw.py out of XExtE). -/
namespace Go.Proofs.Ytcflebggepmmcaa
open Go.RowKit

set_option maxRecDepth 20000 in
set_option maxHeartbeats 2000000 in
theorem put_wide (A A' : Option Addr) (n m cap cap' : Nat) (l : List Fld) (mac : List Int) (W : World) (hn : l.length = n) (hm : mac.length = m) (h : ExtS W A cap l) (h' : ByteS W A' cap' mac) (hl : n ≤ 32) (ht : totM l + m ≤ 4000000) :
    Calls Try.prog 85 #[.slice A n cap, .slice A' m cap'] W (PutRet (putM l mac) W) := by
  obtain ⟨r, hr⟩ : ∃ r, putM l mac = r := ⟨_, rfl⟩
  rw [hr]
  have RR := Lib.hid hr
  have HN := Lib.hid hn
  have HM := Lib.hid hm
  have HB := Lib.hid h
  have HC := Lib.hid h'
  have OK := Lib.hid h.ok
  clear hr hn hm h h'
  go_enter Try.func85, Try.ntmps85
  go_wp2_with fail
  go_loopw [6, 18] (fun v i wr => ∃ k : Nat, k ≤ n ∧ i = .int .i64 k ∧ wr.ownsRow W.heap.size 5 1 v (totM (l.take k)) (byteL (encM (l.take k))) ∧ (∀ x ∈ l.take k, ¬ big x = true) ∧ Mo W wr) (fun _ i _ => n - (intOf i).toNat)
  case atStart => exact ⟨0, by omega, rfl, by rw [List.take_zero]; exact World.ownsRow_nil _ _ _ _, by simp, Mor.out⟩
  case round =>
    obtain ⟨k, hk, rfl, hown, hbig, hM⟩ := hrel
    have BG := Lib.hid hbig
    have OW := Lib.hid hown
    clear hbig hown
    by_cases ck : k < n
    · have hk1 : k < l.length := by rw [HN.out]; exact ck
      obtain ⟨g, off, rfl, LG, hc⟩ := HB.out.get (by omega)
      obtain ⟨xa, xn, xc, a1', a2, a3, a4', a5, a6⟩ := hc k hk1
      have LGr : LtW g wr := hM.ltW LG
      have a1 := hM.cell.trans a1'
      have a4 := hM.cell.trans a4'
      clear a1' a4'
      have T1 := Lib.hid (totM_get l k hk1)
      have t1 : l.take (k + 1) = l.take k ++ [l[k]] := by rw [List.take_add_one, List.getElem?_eq_getElem hk1]; rfl
      have T2 := Lib.hid t1
      have T3 := Lib.hid (List.getElem_mem hk1)
      have tt := totM_take l (k + 1)
      rw [T1.out, a5] at tt
      clear hc t1
      have i0 : (0 : Int) ≤ k := by omega
      have i1 : (k : Int) < n := by omega
      generalize l[k] = x at *
      obtain ⟨xk, xv⟩ := x
      simp only at a1 a2 a3 a5 a6 tt
      have A5 := Lib.hid a5
      have A6 := Lib.hid a6
      clear a5 a6
      have w1 : IntKind.i64.wrap (4 + (xn : Int)) = 4 + xn := by rw [IntKind.wrap_i64]; omega
      by_cases cb : 65532 < 4 + xn
      · have e1 : l.any big = true := List.any_eq_true.2 ⟨_, T3.out, by unfold big; rw [decide_eq_true_eq]; show 65532 < 4 + xv.length; rw [A5.out]; exact cb⟩
        have e2 : r = ([], 2) := by rw [← RR.out]; unfold putM; rw [if_neg (by rw [HN.out]; omega), if_pos e1]
        subst e2
        clear e1
        go_wp2_with fail
        go_ret2
        exact ⟨_, rfl, byteV_nil _, hM.trans Mor.out⟩
      · have cb' : (4 : Int) + xn ≤ 65532 := by omega
        have b4 : ∀ c ∈ [xk / 256, xk % 256, (4 + (xn : Int)) / 256, (4 + (xn : Int)) % 256], 0 ≤ c ∧ c ≤ 255 := by
          intro c hc
          simp only [List.mem_cons, List.not_mem_nil, or_false] at hc
          rcases hc with rfl | rfl | rfl | rfl <;> omega
        have B4 := Lib.hid b4
        clear b4
        go_wp2_with (first
          | (at_builtin
             refine wpList_append_bytes rfl (.tmp 28) (.tmp 41) rfl W.heap.size _ (totM (l.take k)) _ rfl (owns_mo OW.out Mor.out) (some ⟨wr.heap.size + 1, 0, none⟩) 4 4 [xk / 256, xk % 256, (4 + (xn : Int)) / 256, (4 + (xn : Int)) % 256] rfl rfl (byteS_blk (cs := #[.int .u8 (xk / 256), .int .u8 (xk % 256), .int .u8 ((4 + (xn : Int)) / 256), .int .u8 ((4 + (xn : Int)) % 256)]) inferInstance _ rfl B4.out (by simp)) (by omega) (by have := hM.size; simp; omega) ?_
             intro v1 w1 hown1 hgrow1
             have hM1 : Mo W w1 := mo_grown (hM.trans (Mor.out : Mo wr _)) hgrow1 (fun j e => (OW.out.lt j e).1)
             have b1 : w1.cell? ⟨wr.heap.size, 1, none⟩ = some (.slice xa xn xc) := by
               rw [World.cell?_of_block (hgrow1.block wr.heap.size (by simp; omega) (fun e => by have := (OW.out.lt _ e.symm).2; omega))]
               simp [go_sem])
          | (at_builtin
             refine wpList_append_bytes rfl (.tmp 43) (.tmp 45) rfl W.heap.size _ (totM (l.take k) + 4) _ rfl hown1 xa xn xc xv A5.out rfl (A6.out.mo hM1) (by omega) hM1.size ?_
             intro v2 w2 hown2 hgrow2
             have hM2 : Mo W w2 := mo_grown hM1 hgrow2 (fun j e => (hown1.lt j e).1)))
        have e1 : totM (l.take (k + 1)) = totM (l.take k) + 4 + xn := by rw [T1.out, A5.out]; omega
        have e2 : byteL (encM (l.take (k + 1))) = byteL (encM (l.take k)) ++ byteL [xk / 256, xk % 256, (4 + (xn : Int)) / 256, (4 + (xn : Int)) % 256] ++ byteL xv := by
          rw [T2.out, encM_snoc]
          unfold fldB
          simp [A5.out]
        have hown3 : w2.ownsRow W.heap.size 5 1 v2 (totM (l.take (k + 1))) (byteL (encM (l.take (k + 1)))) := by rw [e1, e2]; exact hown2
        have OW3 := Lib.hid hown3
        clear e1 e2 hown3 hown1 hown2 hgrow1 hgrow2 b1
        go_roundw
        case rel => exact ⟨k + 1, by omega, by go_num, OW3.out, by
          rw [T2.out]
          intro x hx
          rcases List.mem_append.1 hx with h | h
          · exact BG.out x h
          · obtain rfl : x = _ := by simpa using h
            unfold big
            rw [decide_eq_true_eq]
            show ¬ 65532 < 4 + xv.length
            rw [A5.out]; exact cb, hM2⟩
        case measure => simp [intOf]; omega
    · have hkn : k = n := by omega
      subst hkn
      have et : l.take k = l := List.take_of_length_le (by rw [HN.out]; omega)
      have hown := OW.out
      rw [et] at hown
      have BG2 := Lib.hid (fun x hx => BG.out x (by rw [et]; exact hx))
      have OW2 := Lib.hid hown
      have e1 : ¬ l.any big = true := fun h => by
        obtain ⟨x, hx, hb⟩ := List.any_eq_true.1 h
        exact BG2.out x hx hb
      have hr := RR.out
      unfold putM at hr
      rw [if_neg (by rw [HN.out]; omega), if_neg e1] at hr
      have RR2 := Lib.hid hr
      clear et hown e1 hr OW BG RR
      go_wp2_with (at_builtin
                   refine wpList_append_bytes rfl (.tmp 48) (.tmp 49) rfl W.heap.size _ (totM l) _ rfl OW2.out A' m cap' mac HM.out rfl (HC.out.mo hM) (by omega) hM.size ?_
                   intro v2 w2 hown2 hgrow2
                   have hM2 : Mo W w2 := mo_grown hM hgrow2 (fun j e => (OW2.out.lt j e).1)
                   have hlm : (encM l ++ mac).length = totM l + m := by rw [List.length_append, encM_len, HM.out]
                   have hbv : ByteV w2 v2 (encM l ++ mac) := owns_byteS (n := totM l + m) (by rw [show byteL (encM l ++ mac) = byteL (encM l) ++ byteL mac from List.map_append]; exact hown2) (by omega) (fun c hc => by
                     rcases List.mem_append.1 hc with h | h
                     · exact encM_byte l OK.out BG2.out c h
                     · exact HC.out.byte c h)
                   obtain ⟨A3, c3, rfl, hb3⟩ := hbv
                   rw [hlm]
                   have TK := Lib.hid (take_any A3 c3 (totM l + m) (encM l ++ mac) w2 hlm hb3)
                   clear hown2 hgrow2 hM)
      refine TK.out.mono ?_
      rintro e w3 ⟨v3, v4, rfl, hv3, hv4, M3⟩
      have hM3 := hM2.trans M3
      have hbv3 : ByteV w3 (.slice A3 (totM l + m) c3) (encM l ++ mac) := ⟨A3, c3, by rw [hlm], hb3.mo M3⟩
      have HV := Lib.hid hbv3
      obtain ⟨A4, c4, rfl, hb4⟩ := hv3
      obtain ⟨A5, c5, rfl, hb5⟩ := hv4
      generalize takeM (encM l ++ mac) = t at *
      obtain ⟨tl, tm, tc⟩ := t
      simp only at hb4 hb5 RR2
      obtain ⟨n4, hn4⟩ : ∃ q, tl.length = q := ⟨_, rfl⟩
      obtain ⟨n5, hn5⟩ : ∃ q, tm.length = q := ⟨_, rfl⟩
      have L4 := hb4.lim
      have L5 := hb5.lim
      rw [hn4] at L4 ⊢
      rw [hn5] at L5 ⊢
      have H4 := Lib.hid hn4
      have H5 := Lib.hid hn5
      have EQ := Lib.hid (fun w (q : Mo w3 w) => equalF_any A A4 k n4 cap c4 l tl w HN.out hn4 ((HB.out.mo hM3).mo q) (hb4.mo q))
      clear hn4 hn5 hb4 hb5 TK hb3 hbv3 M3 hM2 hlm OW2 BG2 OK
      by_cases c1 : tc = 0
      · subst c1
        by_cases c2 : n5 = m
        · subst c2
          have d2 : ((n5 : Int) != n5) = false := by simp
          by_cases c3 : l = tl
          · have hr := RR2.out
            rw [if_neg (by rw [H5.out, HM.out]; simp [c3])] at hr
            subst hr
            rw [decide_eq_true c3] at EQ
            clear c3 RR2
            go_wp2_with fail
            refine (EQ.out _ (Mo.refl _)).mono ?_
            rintro e w4 ⟨rfl, M4⟩
            go_wp2_with fail
            go_ret2
            exact ⟨_, rfl, HV.out.mo M4, hM3.trans M4⟩
          · have hr := RR2.out
            rw [if_pos (.inr (.inr c3))] at hr
            subst hr
            rw [decide_eq_false c3] at EQ
            clear c3 RR2
            go_wp2_with fail
            refine (EQ.out _ (Mo.refl _)).mono ?_
            rintro e w4 ⟨rfl, M4⟩
            go_wp2_with fail
            go_ret2
            exact ⟨_, rfl, byteV_nil _, hM3.trans M4⟩
        · have hr := RR2.out
          rw [if_pos (.inr (.inl (by rw [H5.out, HM.out]; exact c2)))] at hr
          subst hr
          have d2 : ((n5 : Int) != m) = true := by simp; omega
          clear c2 RR2 EQ
          go_wp2_with fail
          go_ret2
          exact ⟨_, rfl, byteV_nil _, hM3⟩
      · have hr := RR2.out
        rw [if_pos (.inl c1)] at hr
        subst hr
        have d1 : (tc != 0) = true := by simp [c1]
        clear c1 RR2 EQ
        go_wp2_with fail
        go_ret2
        exact ⟨_, rfl, byteV_nil _, hM3⟩
end Go.Proofs.Ytcflebggepmmcaa
