/- Written by gen/bundle30.py: PackI, PackJ, PackP, LawP, PackJO in one text. -/
import Derived.Test.YtcflebggepmmcaaPackS
import Derived.Test.YtcflebggepmmcaaHeadS
import Derived.Test.YtcflebggepmmcaaHeadT
import Derived.Test.YtcflebggepmmcaaExtV
import Derived.Test.YtcflebggepmmcaaExtT
/- packet.Put: the bytes of a packet. -/
namespace Go.Proofs.Ytcflebggepmmcaa
open Go.RowKit

/-- a packet's bytes, or an error's number -/
def putP (p : Pk) : List Int × Int := if mayH p.h = true then (if (putM p.e p.m).2 = 0 then (hdB p.h ++ (putM p.e p.m).1, 0) else ([], (putM p.e p.m).2)) else ([], 2)
set_option maxRecDepth 20000 in
theorem putM_len {l : List Fld} {mac : List Int} (h : l.length ≤ 32 → totM l + mac.length ≤ 4000000) : (putM l mac).1.length ≤ 4000000 := by
  unfold putM
  by_cases c : 32 < l.length
  · rw [if_pos c]; simp
  · rw [if_neg c]
    have := h (by omega)
    split
    · simp
    · split
      · simp
      · rw [List.length_append, encM_len]; omega
set_option maxRecDepth 20000 in
theorem extPut_any (A A' : Option Addr) (cap cap' : Nat) (l : List Fld) (mac : List Int) (W : World) (h : ExtS W A cap l) (h' : ByteS W A' cap' mac) (ht : l.length ≤ 32 → totM l + mac.length ≤ 4000000) :
    Calls Try.prog 85 #[.slice A l.length cap, .slice A' mac.length cap'] W (PutRet (putM l mac) W) := by
  by_cases c : l.length ≤ 32
  · exact put_wide A A' _ _ cap cap' l mac W rfl rfl h h' c (ht c)
  · exact put_long A A' _ _ cap cap' l mac W rfl (by omega) (by have := h.lim; omega)
set_option maxRecDepth 20000 in
theorem refExtPut_any (A A' : Option Addr) (cap cap' : Nat) (l : List Fld) (mac : List Int) (W : World) (h : ExtS W A cap l) (h' : ByteS W A' cap' mac) (ht : l.length ≤ 32 → totM l + mac.length ≤ 100000) :
    Calls Try.prog 46 #[.slice A l.length cap, .slice A' mac.length cap'] W (PutRet (putM l mac) W) := by
  rw [← refPut_eq l mac h.ok h'.byte]
  by_cases c : l.length ≤ 32
  · exact refPut_any A A' _ _ cap cap' l mac W rfl rfl h h' c (ht c)
  · exact refPut_long A A' _ _ cap cap' l mac W rfl (by omega) (by have := h.lim; omega)
attribute [local go_sem] blk_cell' blk_frozen'
set_option maxRecDepth 20000 in
set_option maxHeartbeats 8000000 in
theorem pput_any (p : Pk) (v : Value) (W : World) (hv : PkV W p v) (ok : HdOk p.h) (ht : p.e.length ≤ 32 → totM p.e + p.m.length ≤ 4000000) :
    Calls Try.prog 51 #[v] W (PutRet (putP p) W) := by
  have hl := putM_len ht
  obtain ⟨a1, c1, a2, c2, rfl, x1, x2⟩ := hv
  obtain ⟨r, hr⟩ : ∃ r, putP p = r := ⟨_, rfl⟩
  rw [hr]
  unfold putP at hr
  obtain ⟨R, hR⟩ : ∃ R, PutRet r W = R := ⟨_, rfl⟩
  rw [hR]
  have RR := Lib.hid hR
  clear hR
  obtain ⟨ph, pe, pm⟩ := p
  simp only at ok ht x1 x2 hr hl ⊢
  have HP := Lib.hid (hput_any ph ok)
  have EP := Lib.hid (fun w (M : Mo W w) => extPut_any a1 a2 c1 c2 pe pm w (x1.mo M) (x2.mo M) ht)
  clear x1 x2 ht ok
  generalize pe.length = n1 at *
  generalize pm.length = n2 at *
  obtain ⟨rp, hrp⟩ : ∃ rp, putM pe pm = rp := ⟨_, rfl⟩
  rw [hrp] at hr EP hl
  clear hrp
  by_cases may : mayH ph = true
  · rw [if_pos may] at hr
    go_enter Try.func51, Try.ntmps51
    go_wp2_with fail
    refine (HP.out _).mono ?_
    rintro e w1 ⟨v1, rfl, B1, M1⟩
    have B0 : Blk w1 W.heap.size 66 (pkL ph (.slice a1 n1 c1) (.slice a2 n2 c2)).toArray := M1.blk inferInstance
    have M1' := (Mor.out : Mo W _).trans M1
    rw [if_pos may] at B1 ⊢
    obtain ⟨b1, d1, rfl, s1⟩ := B1
    have S1 := Lib.hid s1
    rw [hdB_len]
    clear M1 s1 may
    go_wp2_with fail
    refine (EP.out _ M1').mono ?_
    rintro e w2 ⟨v2, rfl, B2, M2⟩
    obtain ⟨rb, rc⟩ := rp
    simp only at B2 hr hl ⊢
    obtain ⟨b2, d2, rfl, s2⟩ := B2
    have S1' := Lib.hid (S1.out.mo M2)
    have M2' := M1'.trans M2
    have S2 := Lib.hid s2
    clear M2 s2 S1
    generalize hrl : rb.length = m at *
    have HM := Lib.hid hrl
    clear hrl
    by_cases c0 : rc = 0
    · subst c0
      rw [if_pos rfl] at hr
      have HR := Lib.hid hr
      clear hr
      go_wp2_with fail
      refine (concatB_any w2.heap.size 48 m d1 d2 b1 b2 (hdB ph) rb _ inferInstance (hdB_len ph) HM.out (S1'.out.mo Mor.out) (S2.out.mo Mor.out) (by omega)).mono ?_
      rintro e w3 ⟨v3, rfl, B3, M3⟩
      go_wp2_with fail
      try go_ret
      rw [← RR.out, ← HR.out]
      exact ⟨_, rfl, B3, M2'.trans ((Mor.out : Mo w2 _).trans M3)⟩
    · have d0 : (rc != 0) = true := by simp [c0]
      rw [if_neg c0] at hr
      have HR := Lib.hid hr
      clear hr c0
      go_wp2_with fail
      try go_ret
      rw [← RR.out, ← HR.out]
      exact ⟨_, rfl, byteV_nil _, M2'⟩
  · rw [if_neg may] at hr
    have HR := Lib.hid hr
    clear hr
    go_enter Try.func51, Try.ntmps51
    go_wp2_with fail
    refine (HP.out _).mono ?_
    rintro e w1 ⟨v1, rfl, B1, M1⟩
    have M1' := (Mor.out : Mo W _).trans M1
    rw [if_neg may] at B1 ⊢
    clear M1 B1 may
    go_wp2_with fail
    try go_ret
    rw [← RR.out, ← HR.out]
    exact ⟨_, rfl, byteV_nil _, M1'⟩
end Go.Proofs.Ytcflebggepmmcaa
/- horologeref23.Put: the bytes of a packet, by the document. -/
namespace Go.Proofs.Ytcflebggepmmcaa
open Go.RowKit

attribute [local go_sem] blk_cell' blk_frozen'
attribute [local go_sem ↓] app_fold
set_option maxRecDepth 20000 in
set_option maxHeartbeats 8000000 in
theorem rput_any (p : Pk) (v : Value) (W : World) (hv : PkV W p v) (ok : HdOk p.h) (ht : p.e.length ≤ 32 → totM p.e + p.m.length ≤ 100000) :
    Calls Try.prog 19 #[v] W (PutRet (putP p) W) := by
  have hl := putM_len (fun c => Nat.le_trans (ht c) (by omega))
  obtain ⟨a1, c1, a2, c2, rfl, x1, x2⟩ := hv
  obtain ⟨r, hr⟩ : ∃ r, putP p = r := ⟨_, rfl⟩
  rw [hr]
  unfold putP at hr
  obtain ⟨R, hR⟩ : ∃ R, PutRet r W = R := ⟨_, rfl⟩
  rw [hR]
  have RR := Lib.hid hR
  clear hR
  obtain ⟨ph, pe, pm⟩ := p
  simp only at ok ht x1 x2 hr hl ⊢
  have OK := Lib.hid ok
  have EP := Lib.hid (fun w (M : Mo W w) => refExtPut_any a1 a2 c1 c2 pe pm w (x1.mo M) (x2.mo M) ht)
  clear x1 x2 ht ok
  generalize pe.length = n1 at *
  generalize pm.length = n2 at *
  obtain ⟨rp, hrp⟩ : ∃ rp, putM pe pm = rp := ⟨_, rfl⟩
  rw [hrp] at hr EP hl
  clear hrp
  by_cases may : mayH ph = true
  · have MAY := Lib.hid may
    rw [if_pos may] at hr
    go_enter Try.func19, Try.ntmps19
    go_wp2_with fail
    refine (refMay_any ph _).mono ?_
    rintro e w1 ⟨rfl, M1⟩
    have B0 : Blk w1 W.heap.size 66 (pkL ph (.slice a1 n1 c1) (.slice a2 n2 c2)).toArray := M1.blk inferInstance
    have M1' := (Mor.out : Mo W _).trans M1
    rw [may]
    clear M1 may
    go_wp2_with fail
    refine (EP.out _ M1').mono ?_
    rintro e w2 ⟨v2, rfl, B2, M2⟩
    have B0' : Blk w2 W.heap.size 66 (pkL ph (.slice a1 n1 c1) (.slice a2 n2 c2)).toArray := M2.blk inferInstance
    obtain ⟨rb, rc⟩ := rp
    simp only at B2 hr hl ⊢
    obtain ⟨b2, d2, rfl, s2⟩ := B2
    have M2' := M1'.trans M2
    have S2 := Lib.hid s2
    clear M2 s2 B0
    generalize hrl : rb.length = m at *
    have HM := Lib.hid hrl
    clear hrl
    by_cases c0 : rc = 0
    · subst c0
      rw [if_pos rfl] at hr
      have HR := Lib.hid hr
      clear hr
      go_wp2_with fail
      refine (refPut20_any ph OK.out MAY.out _).mono ?_
      rintro e w3 ⟨v3, rfl, OW, M3⟩
      have S3 := Lib.hid (S2.out.mo M3)
      have M3' := M2'.trans M3
      have SZ := M3.size
      have OWH := Lib.hid OW
      clear M3 OW
      go_wp2_with (at_builtin; refine wpList_append_bytes rfl _ _ rfl w2.heap.size _ _ _ rfl OWH.out _ _ _ _ HM.out rfl S3.out ?c1 ?c2 ?_)
      case c1 => omega
      case c2 => exact SZ
      intro v' w4 hown hgrow
      have hM : Mo W w4 := mo_grown M3' hgrow (by
        intro k hk
        have := OWH.out
        obtain ⟨-, h2⟩ := this
        have := M2'.size
        rcases h2 with ⟨e, -⟩ | ⟨g, cap, cur, e, hb, -⟩
        · rw [e] at hk; simp [Value.ownBlock] at hk
        · rw [e] at hk; simp [Value.ownBlock] at hk; omega)
      have HO := Lib.hid hown
      clear hown hgrow
      go_wp2_with fail
      try go_ret
      rw [← RR.out, ← HR.out]
      have h1 := HO.out
      have h2 : byteL (hdB ph) ++ byteL rb = byteL (hdB ph ++ rb) := by simp [byteL]
      rw [h2] at h1
      have hlen : 48 + m = (hdB ph ++ rb).length := by rw [List.length_append, hdB_len, HM.out]
      rw [hlen] at h1
      refine ⟨_, rfl, owns_byteS h1 ?_ ?_, hM⟩
      · rw [← hlen]; omega
      · intro c hc
        rcases List.mem_append.1 hc with h | h
        · exact hdB_byte ph OK.out MAY.out c h
        · exact S2.out.byte c h
    · have d0 : (rc != 0) = true := by simp [c0]
      rw [if_neg c0] at hr
      have HR := Lib.hid hr
      clear hr c0
      go_wp2_with fail
      try go_ret
      rw [← RR.out, ← HR.out]
      exact ⟨_, rfl, byteV_nil _, M2'⟩
  · have may' : mayH ph = false := by simpa using may
    rw [if_neg may] at hr
    have HR := Lib.hid hr
    clear hr
    go_enter Try.func19, Try.ntmps19
    go_wp2_with fail
    refine (refMay_any ph _).mono ?_
    rintro e w1 ⟨rfl, M1⟩
    have M1' := (Mor.out : Mo W _).trans M1
    rw [may']
    clear M1 may may'
    go_wp2_with fail
    try go_ret
    rw [← RR.out, ← HR.out]
    exact ⟨_, rfl, byteV_nil _, M1'⟩
end Go.Proofs.Ytcflebggepmmcaa
/- What is put is taken as it was, and the other way about: packets, plain. -/
namespace Go.Proofs.Ytcflebggepmmcaa
open Go.RowKit

/-- a packet whose numbers are such -/
structure PkOk (p : Pk) : Prop where
  h : HdOk p.h
  e : ∀ x ∈ p.e, (0 ≤ x.kind ∧ x.kind ≤ 65535) ∧ ∀ c ∈ x.val, 0 ≤ c ∧ c ≤ 255
  m : ∀ c ∈ p.m, 0 ≤ c ∧ c ≤ 255
set_option maxRecDepth 20000 in
theorem putP_take {p : Pk} {bs : List Int} (ok : PkOk p) (h : putP p = (bs, 0)) : takeP bs = (p, 0) := by
  unfold putP at h
  by_cases c1 : mayH p.h = true
  · rw [if_pos c1] at h
    by_cases c2 : (putM p.e p.m).2 = 0
    · rw [if_pos c2] at h
      have e1 : hdB p.h ++ (putM p.e p.m).1 = bs := (Prod.mk.inj h).1
      have e2 : putM p.e p.m = ((putM p.e p.m).1, 0) := by rw [← c2]
      have e3 := put_take ok.e ok.m e2
      subst e1
      unfold takeP
      have hl := hdB_len p.h
      have hd : (hdB p.h ++ (putM p.e p.m).1).drop 48 = (putM p.e p.m).1 := by rw [List.drop_left' hl]
      rw [if_neg (by rw [List.length_append, hl]; omega), hd, e3, if_pos rfl, hdOf_put p.h ok.h c1]
    · rw [if_neg c2] at h
      exact absurd (Prod.mk.inj h).2 c2
  · rw [if_neg c1] at h
    simp at h
set_option maxRecDepth 20000 in
theorem sz_small {bs : List Int} (hb : ∀ c ∈ bs, 0 ≤ c ∧ c ≤ 255) (h : (nextM bs).1 = 2) : 4 ≤ sz bs ∧ sz bs ≤ 65532 := by
  obtain ⟨h1, -, h3, h4, -⟩ := nextM_field h
  have d : ∀ i, bs.getD i 0 ≤ 255 := fun i => by
    rw [List.getD_eq_getElem?_getD]
    by_cases c : i < bs.length
    · rw [List.getElem?_eq_getElem c]; exact (hb _ (List.getElem_mem c)).2
    · rw [List.getElem?_eq_none (by omega)]; decide
  have e : sz bs ≤ 65535 := by
    unfold sz sizeM
    have := d 2
    have := d 3
    omega
  omega
set_option maxRecDepth 20000 in
theorem parse_small {bs : List Int} (hb : ∀ c ∈ bs, 0 ≤ c ∧ c ≤ 255) : ∀ (n a : Nat), bs.length - a ≤ n → ∀ f ∈ parse bs a, 4 + f.val.length ≤ 65532 := by
  intro n
  induction n with
  | zero =>
    intro a ha f hf
    rw [parse_nil (by rw [List.drop_eq_nil_of_le (by omega)]; decide)] at hf
    cases hf
  | succ n ih =>
    intro a ha f hf
    by_cases c : (nextM (bs.drop a)).1 = 2
    · have k := sz_small (fun c hc => hb c (List.mem_of_mem_drop hc)) c
      obtain ⟨h1, -, h3, -, -⟩ := nextM_field c
      rw [List.length_drop] at h1
      rw [parse_cons c] at hf
      rcases List.mem_cons.1 hf with rfl | hf
      · simp only [List.length_take]; omega
      · exact ih _ (by omega) f hf
    · rw [parse_nil c] at hf
      cases hf
set_option maxRecDepth 20000 in
theorem totM_small : ∀ {l : List Fld}, (∀ x ∈ l, 4 + x.val.length ≤ 65532) → totM l ≤ l.length * 65532
  | [], _ => by decide
  | x :: l, h => by
    have := totM_small (l := l) fun y hy => h y (List.mem_cons_of_mem _ hy)
    have := h x List.mem_cons_self
    have e : totM (x :: l) = 4 + x.val.length + totM l := by unfold totM; rw [List.map_cons, List.sum_cons]
    rw [e, List.length_cons]
    omega
set_option maxRecDepth 20000 in
theorem mac_small (bs : List Int) : (if (nextM bs).1 = 1 then bs else []).length ≤ 24 := by
  by_cases c : (nextM bs).1 = 1
  · rw [if_pos c]
    unfold nextM at c
    by_cases c0 : bs.length = 0
    · omega
    rw [if_neg c0] at c
    by_cases c1 : bs.length = 4 ∨ bs.length = 20 ∨ bs.length = 24
    · omega
    rw [if_neg c1] at c
    by_cases c2 : bs.length < 28
    · rw [if_pos c2] at c; simp at c
    rw [if_neg c2] at c
    by_cases c3 : sizeM bs < 16 ∨ sizeM bs % 4 ≠ 0 ∨ (bs.length : Int) < sizeM bs
    · rw [if_pos c3] at c; simp at c
    · rw [if_neg c3] at c; simp at c
  · rw [if_neg c]; decide
set_option maxRecDepth 20000 in
theorem take_put2 {b mac : List Int} {l : List Fld} (hb : ∀ c ∈ b, 0 ≤ c ∧ c ≤ 255) (h : takeM b = (l, mac, 0)) : putM l mac = (b, 0) ∧ l.length ≤ 32 ∧ totM l + mac.length ≤ 4000000 := by
  have t0 : (takeM b).2.2 = 0 := by rw [h]
  obtain ⟨q1, q2⟩ := takeM_ok.1 t0
  have tv := takeM_val t0
  rw [h] at tv
  have e1 : l = (parse b 0).map fldOf := (Prod.mk.inj tv).1
  have e2 : mac = macM b := (Prod.mk.inj (Prod.mk.inj tv).2).1
  have ep := enc_parse b hb (b.length) 0 (by omega)
  rw [List.drop_zero, ← e1] at ep
  have hmac : b.drop (endF b 0) = mac := by
    rw [e2]
    unfold macM
    rcases nextM_cases (b.drop (endF b 0)) with c | c | c | c
    · rw [if_neg (by rw [c]; decide)]; exact macM_nil c
    · rw [if_pos c]
    · exact absurd c (nextM_end b b.length 0 (by omega))
    · exact absurd c q2
  rw [hmac] at ep
  have hs : ∀ x ∈ l, 4 + x.val.length ≤ 65532 := by
    rw [e1]
    intro x hx
    obtain ⟨f, hf, rfl⟩ := List.mem_map.1 hx
    exact parse_small hb b.length 0 (by omega) f hf
  have hl32 : l.length ≤ 32 := by rw [e1, List.length_map]; exact q1
  have hm : mac.length ≤ 24 := by rw [e2]; exact mac_small _
  have ht := totM_small hs
  refine ⟨?_, hl32, by omega⟩
  unfold putM
  have nb : ¬ l.any big = true := by
    intro h2
    obtain ⟨x, hx, hb⟩ := List.any_eq_true.1 h2
    unfold big at hb
    rw [decide_eq_true_eq] at hb
    have := hs x hx
    omega
  rw [if_neg (by omega), if_neg nb, ep, h, if_neg (by simp)]
set_option maxRecDepth 20000 in
theorem takeP_put {b : List Int} {q : Pk} (hb : ∀ c ∈ b, 0 ≤ c ∧ c ≤ 255) (h : takeP b = (q, 0)) : putP q = (b, 0) ∧ (q.e.length ≤ 32 → totM q.e + q.m.length ≤ 4000000) := by
  unfold takeP at h
  by_cases c1 : b.length < 48
  · rw [if_pos c1] at h; simp at h
  rw [if_neg c1] at h
  by_cases c2 : (takeM (b.drop 48)).2.2 = 0
  · rw [if_pos c2] at h
    obtain rfl : q = _ := ((Prod.mk.inj h).1).symm
    have t : takeM (b.drop 48) = ((takeM (b.drop 48)).1, (takeM (b.drop 48)).2.1, 0) := by rw [← c2]
    obtain ⟨p1, p2, p3⟩ := take_put2 (fun c hc => hb c (List.mem_of_mem_drop hc)) t
    have hh := hdOf_ok b hb (by omega)
    refine ⟨?_, fun _ => p3⟩
    unfold putP
    rw [if_pos hh.2]
    simp only
    rw [p1, if_pos rfl, hdB_of b hb (by omega)]
  · rw [if_neg c2] at h
    exact absurd (Prod.mk.inj h).2 c2
set_option maxRecDepth 20000 in
theorem takeP_ok' {b : List Int} (hb : ∀ c ∈ b, 0 ≤ c ∧ c ≤ 255) : HdOk (takeP b).1.h := takeP_ok b hb
end Go.Proofs.Ytcflebggepmmcaa
/- law23: what the walks of its laws share. -/
namespace Go.Proofs.Ytcflebggepmmcaa
open Go.RowKit

set_option maxRecDepth 20000 in
theorem loadF_pk (v : Value) : Instr.loadAt 66 v = loadF 66 v := rfl
set_option maxRecDepth 20000 in
theorem buildF_pk (l : Array (Nat × Value)) : Instr.build 66 l = buildF 66 l := rfl
set_option maxRecDepth 20000 in
theorem run_build_pk0 (w : World) : (buildF 66 #[]).run Try.prog w = .ok (pkV ⟨0, 0, 0, 0, 0, 0, 0, 0, 0, 0, 0, 0, 0, 0, 0, 0⟩ (.slice none 0 0) (.slice none 0 0)) w := run_build w _ _ _ (by kernel_rfl)
set_option maxRecDepth 20000 in
theorem eqlF_key (x y : Value) : binOp .eql 72 x y = eqlF 72 x y := rfl
set_option maxRecDepth 20000 in
theorem eqlF_ends (x y : Value) : binOp .eql 38 x y = eqlF 38 x y := rfl
set_option maxRecDepth 20000 in
theorem eqlF_wide (x y : Value) : binOp .eql 32 x y = eqlF 32 x y := rfl
set_option maxRecDepth 20000 in
theorem pkv0 (w : World) : PkV w pk0 (pkV ⟨0, 0, 0, 0, 0, 0, 0, 0, 0, 0, 0, 0, 0, 0, 0, 0⟩ (.slice none 0 0) (.slice none 0 0)) := ⟨none, 0, none, 0, rfl, extS_none w, byteS_none w⟩
set_option maxRecDepth 20000 in
theorem PkF.at {b : Nat} {w : World} {p : Pk} {v : Value} (h : PkF b w p v) : PkV w p v := (h.r w).at (Mo.refl w)
set_option maxRecDepth 20000 in
theorem classP_fst (bs : List Int) : (classP bs).1 = (takeP bs).1 := by
  unfold classP
  by_cases c : (takeP bs).2 = 0
  · rw [if_pos c]
  · rw [if_neg c]
    unfold takeP at c ⊢
    by_cases c1 : bs.length < 48
    · rw [if_pos c1]
    · rw [if_neg c1] at c ⊢
      by_cases c2 : (takeM (bs.drop 48)).2.2 = 0
      · rw [if_pos c2] at c; exact absurd rfl c
      · rw [if_neg c2]
set_option maxRecDepth 20000 in
theorem ks_key : ksOf 72 = ksOf 38 ++ (ksOf 38 ++ [.i .u64]) := by
  have e : ksOf 38 = .b :: (List.replicate 16 (.i .u8) ++ [.i .u16]) := by kernel_rfl
  have e' : ksOf 72 = (.b :: (List.replicate 16 (.i .u8) ++ [.i .u16])) ++ ((.b :: (List.replicate 16 (.i .u8) ++ [.i .u16])) ++ [.i .u64]) := by kernel_rfl
  rw [e', e]
set_option maxRecDepth 20000 in
theorem fits_ky {s t : Array Value} {n : Int} (hs : Fits (ksOf 38) s.toList) (ht : Fits (ksOf 38) t.toList) (h1 : 0 ≤ n ∧ n ≤ 18446744073709551615) : Fits (ksOf 72) (kyC s t n).toList := by
  rw [ks_key]
  unfold kyC
  simp only [Array.toList_append, List.append_assoc]
  exact fits_append hs (fits_append ht ⟨fit_int h1.1 h1.2, trivial⟩)
set_option maxRecDepth 20000 in
theorem fits_key {d : Dg} {h : Hd} (kd : DgOk d) (kh : HdOk h) : Fits (ksOf 72) (keyC d h).toList := by
  unfold keyC
  by_cases c : h.m = 3
  · rw [if_pos c]; exact fits_ky kd.src kd.dst kh.x
  · rw [if_neg c]
    by_cases c : h.m = 4
    · rw [if_pos c]; exact fits_ky kd.dst kd.src kh.o
    · rw [if_neg c]; exact fits_ky fits_en0 fits_en0 (by decide)
set_option maxRecDepth 20000 in
theorem run_eqlF_self {T : TypeId} {n : Nat} (h : FlatT T n) (w : World) {xs : Array Value} (hx : Fits (ksOf T) xs.toList) : (eqlF T (.agg xs) (.agg xs)).run Try.prog w = .ok (.bool true) w := by
  have := run_eql_flat h w hx hx
  rwa [eqA_self] at this
end Go.Proofs.Ytcflebggepmmcaa
/- horologeref23.Put once more: its bytes lie in blocks that the call made (printed out of XPackJ). -/
namespace Go.Proofs.Ytcflebggepmmcaa
open Go.RowKit

def PutOwnR (r : List Int × Int) (W : World) (e : Ending) (w' : World) : Prop := ∃ v, e = .returned (.tuple #[v, .int .i64 r.2]) ∧ FByte W.heap.size w' v r.1 ∧ Mo W w'

attribute [local go_sem] blk_cell' blk_frozen'
attribute [local go_sem ↓] app_fold
set_option maxRecDepth 20000 in
set_option maxHeartbeats 8000000 in
theorem rput_own (p : Pk) (v : Value) (W : World) (hv : PkV W p v) (ok : HdOk p.h) (ht : p.e.length ≤ 32 → totM p.e + p.m.length ≤ 100000) :
    Calls Try.prog 19 #[v] W (PutOwnR (putP p) W) := by
  have hl := putM_len (fun c => Nat.le_trans (ht c) (by omega))
  obtain ⟨a1, c1, a2, c2, rfl, x1, x2⟩ := hv
  obtain ⟨r, hr⟩ : ∃ r, putP p = r := ⟨_, rfl⟩
  rw [hr]
  unfold putP at hr
  obtain ⟨R, hR⟩ : ∃ R, PutOwnR r W = R := ⟨_, rfl⟩
  rw [hR]
  have RR := Lib.hid hR
  clear hR
  obtain ⟨ph, pe, pm⟩ := p
  simp only at ok ht x1 x2 hr hl ⊢
  have OK := Lib.hid ok
  have EP := Lib.hid (fun w (M : Mo W w) => refExtPut_any a1 a2 c1 c2 pe pm w (x1.mo M) (x2.mo M) ht)
  clear x1 x2 ht ok
  generalize pe.length = n1 at *
  generalize pm.length = n2 at *
  obtain ⟨rp, hrp⟩ : ∃ rp, putM pe pm = rp := ⟨_, rfl⟩
  rw [hrp] at hr EP hl
  clear hrp
  by_cases may : mayH ph = true
  · have MAY := Lib.hid may
    rw [if_pos may] at hr
    go_enter Try.func19, Try.ntmps19
    go_wp2_with fail
    refine (refMay_any ph _).mono ?_
    rintro e w1 ⟨rfl, M1⟩
    have B0 : Blk w1 W.heap.size 66 (pkL ph (.slice a1 n1 c1) (.slice a2 n2 c2)).toArray := M1.blk inferInstance
    have M1' := (Mor.out : Mo W _).trans M1
    rw [may]
    clear M1 may
    go_wp2_with fail
    refine (EP.out _ M1').mono ?_
    rintro e w2 ⟨v2, rfl, B2, M2⟩
    have B0' : Blk w2 W.heap.size 66 (pkL ph (.slice a1 n1 c1) (.slice a2 n2 c2)).toArray := M2.blk inferInstance
    obtain ⟨rb, rc⟩ := rp
    simp only at B2 hr hl ⊢
    obtain ⟨b2, d2, rfl, s2⟩ := B2
    have M2' := M1'.trans M2
    have S2 := Lib.hid s2
    clear M2 s2 B0
    generalize hrl : rb.length = m at *
    have HM := Lib.hid hrl
    clear hrl
    by_cases c0 : rc = 0
    · subst c0
      rw [if_pos rfl] at hr
      have HR := Lib.hid hr
      clear hr
      go_wp2_with fail
      refine (refPut20_any ph OK.out MAY.out _).mono ?_
      rintro e w3 ⟨v3, rfl, OW, M3⟩
      have S3 := Lib.hid (S2.out.mo M3)
      have M3' := M2'.trans M3
      have SZ := M3.size
      have OWH := Lib.hid OW
      clear M3 OW
      go_wp2_with (at_builtin; refine wpList_append_bytes rfl _ _ rfl w2.heap.size _ _ _ rfl OWH.out _ _ _ _ HM.out rfl S3.out ?c1 ?c2 ?_)
      case c1 => omega
      case c2 => exact SZ
      intro v' w4 hown hgrow
      have hM : Mo W w4 := mo_grown M3' hgrow (by
        intro k hk
        have := OWH.out
        obtain ⟨-, h2⟩ := this
        have := M2'.size
        rcases h2 with ⟨e, -⟩ | ⟨g, cap, cur, e, hb, -⟩
        · rw [e] at hk; simp [Value.ownBlock] at hk
        · rw [e] at hk; simp [Value.ownBlock] at hk; omega)
      have HO := Lib.hid hown
      clear hown hgrow
      go_wp2_with fail
      try go_ret
      rw [← RR.out, ← HR.out]
      have h1 := HO.out
      have h2 : byteL (hdB ph) ++ byteL rb = byteL (hdB ph ++ rb) := by simp [byteL]
      rw [h2] at h1
      have hlen : 48 + m = (hdB ph ++ rb).length := by rw [List.length_append, hdB_len, HM.out]
      rw [hlen] at h1
      refine ⟨_, rfl, (fbyte_of_owns h1 ?_ ?_).to M2'.size (Nat.le_refl _) fun _ _ _ => rfl, hM⟩
      · rw [← hlen]; omega
      · intro c hc
        rcases List.mem_append.1 hc with h | h
        · exact hdB_byte ph OK.out MAY.out c h
        · exact S2.out.byte c h
    · have d0 : (rc != 0) = true := by simp [c0]
      rw [if_neg c0] at hr
      have HR := Lib.hid hr
      clear hr c0
      go_wp2_with fail
      try go_ret
      rw [← RR.out, ← HR.out]
      exact ⟨_, rfl, fbyte_nil _ _, M2'⟩
  · have may' : mayH ph = false := by simpa using may
    rw [if_neg may] at hr
    have HR := Lib.hid hr
    clear hr
    go_enter Try.func19, Try.ntmps19
    go_wp2_with fail
    refine (refMay_any ph _).mono ?_
    rintro e w1 ⟨rfl, M1⟩
    have M1' := (Mor.out : Mo W _).trans M1
    rw [may']
    clear M1 may may'
    go_wp2_with fail
    try go_ret
    rw [← RR.out, ← HR.out]
    exact ⟨_, rfl, fbyte_nil _ _, M1'⟩
end Go.Proofs.Ytcflebggepmmcaa
