/- Written by gen/bundle.py: ExtN, PackJ, PackK, PackP, PackX, LawP, Open21, Open23 in one text. -/
import Derived.Test.YtofbhkodnijkjaaExtL
import Derived.Test.YtofbhkodnijkjaaPackI
import Derived.Test.YtofbhkodnijkjaaHeadF
import Derived.Test.YtofbhkodnijkjaaPackD
import Derived.Test.YtofbhkodnijkjaaExtE
import Derived.Test.YtofbhkodnijkjaaPackF
import Derived.Test.YtofbhkodnijkjaaPackL
import Derived.Test.YtofbhkodnijkjaaHeadE
import Derived.Test.YtofbhkodnijkjaaExtB
import Derived.Deep.Slices
import Derived.ChangeArms
import Derived.ChangeOld
import Derived.OpenShut
import Derived.SizedLaws
import Derived.Lib.SmallJoins
import Derived.Test.YtofbhkodnijkjaaPackG
/- What good fields are read as (plain), and the 33 fields of ExtKnown. -/
namespace Go.Proofs.Ytofbhkodnijkjaa
open Go.RowKit

structure GoodF (x : Fld) : Prop where
  lo : 24 ≤ x.val.length
  four : x.val.length % 4 = 0
  hi : x.val.length ≤ 65528
set_option maxRecDepth 20000 in
theorem getD_app {a b : List Int} {i : Nat} (h : i < a.length) : (a ++ b).getD i 0 = a.getD i 0 := by
  simp [List.getD, List.getElem?_append_left h]
set_option maxRecDepth 20000 in
theorem fldB_app (x : Fld) (t : List Int) : fldB x ++ t = x.kind / 256 :: x.kind % 256 :: ((4 + x.val.length : Nat) : Int) / 256 :: ((4 + x.val.length : Nat) : Int) % 256 :: (x.val ++ t) := rfl
set_option maxRecDepth 20000 in
theorem next_good {x : Fld} {t : List Int} (h : GoodF x) : (nextM (fldB x ++ t)).1 = 2 ∧ sz (fldB x ++ t) = 4 + x.val.length ∧ kindM (fldB x ++ t) = x.kind := by
  have h1 := h.lo
  have h2 := h.four
  have h3 := h.hi
  have hl : (fldB x ++ t).length = 4 + x.val.length + t.length := by rw [List.length_append, fldB_len]
  have hs : sizeM (fldB x ++ t) = ((4 + x.val.length : Nat) : Int) := by
    rw [fldB_app]
    show ((4 + x.val.length : Nat) : Int) / 256 * 256 + ((4 + x.val.length : Nat) : Int) % 256 = _
    omega
  refine ⟨?_, ?_, ?_⟩
  · unfold nextM
    rw [if_neg (by omega), if_neg (by omega), if_neg (by omega), if_neg (by rw [hs, hl]; omega)]
  · unfold sz
    rw [hs]
    omega
  · rw [fldB_app]
    show x.kind / 256 * 256 + x.kind % 256 = x.kind
    omega
set_option maxRecDepth 20000 in
theorem parse_enc : ∀ (l : List Fld) (pre suf : List Int), (∀ x ∈ l, GoodF x) →
    (parse (pre ++ (encM l ++ suf)) pre.length).map fldOf = l ++ (parse (pre ++ (encM l ++ suf)) (pre.length + totM l)).map fldOf ∧ endF (pre ++ (encM l ++ suf)) pre.length = endF (pre ++ (encM l ++ suf)) (pre.length + totM l)
  | [], pre, suf, _ => ⟨by simp [totM], by simp [totM]⟩
  | x :: xs, pre, suf, hg => by
    have hx := hg x (by simp)
    have e0 : encM (x :: xs) = fldB x ++ encM xs := rfl
    have e1 : totM (x :: xs) = 4 + x.val.length + totM xs := by unfold totM; rw [List.map_cons, List.sum_cons]
    have eb : pre ++ (encM (x :: xs) ++ suf) = (pre ++ fldB x) ++ (encM xs ++ suf) := by rw [e0]; simp
    obtain ⟨i1, i2⟩ := parse_enc xs (pre ++ fldB x) suf (fun y hy => hg y (by simp [hy]))
    rw [← eb, List.length_append, fldB_len] at i1 i2
    obtain ⟨b, hb⟩ : ∃ b, pre ++ (encM (x :: xs) ++ suf) = b := ⟨_, rfl⟩
    have hd : b.drop pre.length = fldB x ++ (encM xs ++ suf) := by rw [← hb, e0, List.drop_left]; simp
    rw [hb] at i1 i2 ⊢
    obtain ⟨n1, n2, n3⟩ := next_good (t := encM xs ++ suf) hx
    rw [← hd] at n1 n2 n3
    rw [parse_cons n1, endF_cons n1, n2, e1, List.map_cons, i1, i2]
    refine ⟨?_, by rw [show pre.length + (4 + x.val.length) + totM xs = pre.length + (4 + x.val.length + totM xs) by omega]⟩
    rw [show pre.length + (4 + x.val.length) + totM xs = pre.length + (4 + x.val.length + totM xs) by omega, List.cons_append]
    congr 1
    unfold fldOf
    rw [n3, hd, fldB_app]
    simp
set_option maxRecDepth 20000 in
theorem take_enc (l : List Fld) (hg : ∀ x ∈ l, GoodF x) : (parse (encM l) 0).map fldOf = l ∧ endF (encM l) 0 = totM l := by
  have h := parse_enc l [] [] hg
  have hd : (encM l).drop (totM l) = [] := by rw [List.drop_eq_nil_iff, encM_len]; omega
  have hn : ¬ (nextM ((encM l).drop (totM l))).1 = 2 := by rw [hd]; decide
  simp only [List.nil_append, List.append_nil, List.length_nil, Nat.zero_add] at h
  rw [parse_nil hn, endF_nil hn, List.map_nil, List.append_nil] at h
  exact h
abbrev mF (i : Nat) : Fld := ⟨i, zeros 24⟩
def manyL (a n : Nat) : List Fld := (List.range n).map fun i => mF (a + i)
set_option maxRecDepth 20000 in
theorem manyL_good {a n : Nat} : ∀ x ∈ manyL a n, GoodF x := by
  intro x hx
  obtain ⟨i, _, rfl⟩ := List.mem_map.1 hx
  exact ⟨by simp, by simp, by simp⟩
set_option maxRecDepth 20000 in
theorem manyL_tot (a n : Nat) : totM (manyL a n) = n * 28 := by
  unfold totM manyL
  rw [List.map_map]
  induction n with
  | zero => rfl
  | succ n ih => rw [List.range_succ, List.map_append, List.sum_append, ih]; simp; omega
set_option maxRecDepth 20000 in
theorem putM_many : putM (manyL 1 32) [] = (encM (manyL 1 32), 0) := by
  obtain ⟨h1, h2⟩ := take_enc (manyL 1 32) manyL_good
  have h3 := manyL_tot 1 32
  have hd : (encM (manyL 1 32)).drop (totM (manyL 1 32)) = [] := by rw [List.drop_eq_nil_iff, encM_len]; omega
  have t0 : (takeM (encM (manyL 1 32))).2.2 = 0 := by
    rw [takeM_ok]
    rw [h2, hd]
    refine ⟨?_, by decide⟩
    have := congrArg List.length h1
    rw [List.length_map] at this
    rw [this]
    simp [manyL]
  have t1 := takeM_val t0
  have t2 : macM (encM (manyL 1 32)) = [] := by
    unfold macM
    rw [h2, hd]
    rfl
  rw [t2, h1] at t1
  have big0 : ¬ (manyL 1 32).any big = true := by
    intro h
    obtain ⟨x, hx, hb⟩ := List.any_eq_true.1 h
    have := (manyL_good x hx)
    obtain ⟨i, _, rfl⟩ := List.mem_map.1 hx
    simp [big] at hb
  unfold putM
  rw [if_neg (by simp [manyL]), if_neg big0, List.append_nil, t1, if_neg (by simp)]
set_option maxRecDepth 20000 in
theorem take_many : takeM (encM (manyL 1 32) ++ (encM (manyL 1 32)).take 28) = ([], [], 3) := by
  have e1 : (encM (manyL 1 32)).take 28 = encM [mF 1] := by decide +kernel
  have e2 : encM (manyL 1 32) ++ encM [mF 1] = encM (manyL 1 32 ++ [mF 1]) := by unfold encM; rw [List.flatMap_append]
  rw [e1, e2]
  obtain ⟨h1, _⟩ := take_enc (manyL 1 32 ++ [mF 1]) (fun x hx => by
    rcases List.mem_append.1 hx with h | h
    · exact manyL_good x h
    · obtain rfl : x = _ := by simpa using h
      exact ⟨by simp, by simp, by simp⟩)
  have := congrArg List.length h1
  rw [List.length_map] at this
  unfold takeM
  simp only [List.length_map]
  rw [this, if_pos (by simp [manyL])]
set_option maxRecDepth 20000 in
theorem take_nil : takeM [] = ([], [], 0) := by
  have h : ¬ (nextM (([] : List Int).drop 0)).1 = 2 := by decide
  unfold takeM
  rw [parse_nil h, endF_nil h]
  rfl
end Go.Proofs.Ytofbhkodnijkjaa
/- horologeref23.Put: the bytes of a packet, by the document. -/
namespace Go.Proofs.Ytofbhkodnijkjaa
open Go.RowKit

attribute [local go_sem] blk_cell' blk_frozen'
attribute [local go_sem ↓] app_fold
set_option maxRecDepth 20000 in
set_option maxHeartbeats 8000000 in
theorem rput_any (p : Pk) (v : Value) (W : World) (hv : PkV W p v) (ok : HdOk p.h) (ht : p.e.length ≤ 32 → totM p.e + p.m.length ≤ 100000) :
    Calls Try.prog 20 #[v] W (PutRet (putP p) W) := by
  have hl := putM_len (fun c => Nat.le_trans (ht c) (by omega))
  obtain ⟨a1, c1, a2, c2, rfl, x1, x2⟩ := hv
  obtain ⟨r, hr⟩ : ∃ r, putP p = r := ⟨_, rfl⟩
  rw [hr]
  unfold putP at hr
  obtain ⟨R, hR⟩ : ∃ R, PutRet r W = R := ⟨_, rfl⟩
  rw [hR]
  have RR := Lib.hid hR
  clear hR
  obtain ⟨ph, pe, pm⟩ := p
  simp only at ok ht x1 x2 hr hl ⊢
  have OK := Lib.hid ok
  have EP := Lib.hid (fun w (M : Mo W w) => refExtPut_any a1 a2 c1 c2 pe pm w (x1.mo M) (x2.mo M) ht)
  clear x1 x2 ht ok
  generalize pe.length = n1 at *
  generalize pm.length = n2 at *
  obtain ⟨rp, hrp⟩ : ∃ rp, putM pe pm = rp := ⟨_, rfl⟩
  rw [hrp] at hr EP hl
  clear hrp
  by_cases may : mayH ph = true
  · have MAY := Lib.hid may
    rw [if_pos may] at hr
    go_enter Try.func20, Try.ntmps20
    go_wp2_with fail
    refine (refMay_any ph _).mono ?_
    rintro e w1 ⟨rfl, M1⟩
    have B0 : Blk w1 W.heap.size 42 (pkL ph (.slice a1 n1 c1) (.slice a2 n2 c2)).toArray := M1.blk inferInstance
    have M1' := (Mor.out : Mo W _).trans M1
    rw [may]
    clear M1 may
    go_wp2_with fail
    refine (EP.out _ M1').mono ?_
    rintro e w2 ⟨v2, rfl, B2, M2⟩
    have B0' : Blk w2 W.heap.size 42 (pkL ph (.slice a1 n1 c1) (.slice a2 n2 c2)).toArray := M2.blk inferInstance
    obtain ⟨rb, rc⟩ := rp
    simp only at B2 hr hl ⊢
    obtain ⟨b2, d2, rfl, s2⟩ := B2
    have M2' := M1'.trans M2
    have S2 := Lib.hid s2
    clear M2 s2 B0
    generalize hrl : rb.length = m at *
    have HM := Lib.hid hrl
    clear hrl
    by_cases c0 : rc = 0
    · subst c0
      rw [if_pos rfl] at hr
      have HR := Lib.hid hr
      clear hr
      go_wp2_with fail
      refine (refPut20_any ph OK.out MAY.out _).mono ?_
      rintro e w3 ⟨v3, rfl, OW, M3⟩
      have S3 := Lib.hid (S2.out.mo M3)
      have M3' := M2'.trans M3
      have SZ := M3.size
      have OWH := Lib.hid OW
      clear M3 OW
      go_wp2_with (at_builtin; refine wpList_append_bytes rfl _ _ rfl w2.heap.size _ _ _ rfl OWH.out _ _ _ _ HM.out rfl S3.out ?c1 ?c2 ?_)
      case c1 => omega
      case c2 => exact SZ
      intro v' w4 hown hgrow
      have hM : Mo W w4 := mo_grown M3' hgrow (by
        intro k hk
        have := OWH.out
        obtain ⟨-, h2⟩ := this
        have := M2'.size
        rcases h2 with ⟨e, -⟩ | ⟨g, cap, cur, e, hb, -⟩
        · rw [e] at hk; simp [Value.ownBlock] at hk
        · rw [e] at hk; simp [Value.ownBlock] at hk; omega)
      have HO := Lib.hid hown
      clear hown hgrow
      go_wp2_with fail
      try go_ret
      rw [← RR.out, ← HR.out]
      have h1 := HO.out
      have h2 : byteL (hdB ph) ++ byteL rb = byteL (hdB ph ++ rb) := by simp [byteL]
      rw [h2] at h1
      have hlen : 48 + m = (hdB ph ++ rb).length := by rw [List.length_append, hdB_len, HM.out]
      rw [hlen] at h1
      refine ⟨_, rfl, owns_byteS h1 ?_ ?_, hM⟩
      · rw [← hlen]; omega
      · intro c hc
        rcases List.mem_append.1 hc with h | h
        · exact hdB_byte ph OK.out MAY.out c h
        · exact S2.out.byte c h
    · have d0 : (rc != 0) = true := by simp [c0]
      rw [if_neg c0] at hr
      have HR := Lib.hid hr
      clear hr c0
      go_wp2_with fail
      try go_ret
      rw [← RR.out, ← HR.out]
      exact ⟨_, rfl, byteV_nil _, M2'⟩
  · have may' : mayH ph = false := by simpa using may
    rw [if_neg may] at hr
    have HR := Lib.hid hr
    clear hr
    go_enter Try.func20, Try.ntmps20
    go_wp2_with fail
    refine (refMay_any ph _).mono ?_
    rintro e w1 ⟨rfl, M1⟩
    have M1' := (Mor.out : Mo W _).trans M1
    rw [may']
    clear M1 may may'
    go_wp2_with fail
    try go_ret
    rw [← RR.out, ← HR.out]
    exact ⟨_, rfl, byteV_nil _, M1'⟩
end Go.Proofs.Ytofbhkodnijkjaa
/- horologelaw23.heavy. -/
namespace Go.Proofs.Ytofbhkodnijkjaa
open Go.RowKit

/-- what heavy answers: of at most 32 fields it tells all bytes (more of them may go around) -/
def Heavy23 (p : Pk) (m : Nat) (W : World) (e : Ending) (w' : World) : Prop := ∃ h : Bool, e = .returned (.bool h) ∧ (h = false → p.e.length ≤ 32 → totM p.e + p.m.length + m ≤ 5000) ∧ Mo W w'
attribute [local go_sem] blk_cell' blk_frozen'
set_option maxRecDepth 20000 in
set_option maxHeartbeats 4000000 in
theorem heavy23_any (p : Pk) (v : Value) (A' : Option Addr) (m cap' : Nat) (W : World) (hm : m ≤ 140737488355328) (hv : PkV W p v) :
    Calls Try.prog 8 #[v, .slice A' m cap'] W (Heavy23 p m W) := by
  obtain ⟨A, cap, a2, c2, rfl, h, h2⟩ := hv
  obtain ⟨R, hR⟩ : ∃ R, Heavy23 p m W = R := ⟨_, rfl⟩
  rw [hR]
  have RR := Lib.hid hR
  have hlim := h.lim
  have hlm := h2.lim
  obtain ⟨ph, l, mac⟩ := p
  simp only at h hlim hlm ⊢
  obtain ⟨n, hn⟩ : ∃ n, l.length = n := ⟨_, rfl⟩
  obtain ⟨q, hq⟩ : ∃ q, mac.length = q := ⟨_, rfl⟩
  rw [hn] at hlim ⊢
  rw [hq] at hlm ⊢
  have HN := Lib.hid hn
  have HQ := Lib.hid hq
  have HB := Lib.hid h
  clear hR hn h h2 hq
  go_enter Try.func8, Try.ntmps8
  go_wp2_with fail
  go_loopw [5, 17] (fun v i wr => ∃ (k : Nat) (z : Int), k ≤ n ∧ i = .int .i64 k ∧ v = .int .i64 z ∧ -9223372036854775808 ≤ z ∧ z ≤ 9223372036854775807 ∧ (k ≤ 32 → z = (m + q + totM (l.take k) : Nat) ∧ totM (l.take k) ≤ k * 140737488355332) ∧ Mo W wr) (fun _ i _ => n - (intOf i).toNat)
  case atStart => exact ⟨0, m + q, by omega, rfl, by go_num, by omega, by omega, fun _ => ⟨by rw [List.take_zero]; rfl, by rw [List.take_zero]; exact Nat.zero_le _⟩, Mor.out⟩
  case round =>
    obtain ⟨k, z, hk, rfl, rfl, z1, z2, hz, hM⟩ := hrel
    have HZ := Lib.hid hz
    clear hz
    by_cases ck : k < n
    · have hk1 : k < l.length := by rw [HN.out]; exact ck
      obtain ⟨g, off, rfl, LG, hc⟩ := (HB.out.mo hM).get (by omega)
      obtain ⟨xa, xn, xc, a1, a2, a3, a4, a5, a6⟩ := hc k hk1
      have T1 := Lib.hid (totM_get l k hk1)
      have hxn := a6.lim
      rw [a5] at hxn
      clear hc
      have i0 : (0 : Int) ≤ k := by omega
      have i1 : (k : Int) < n := by omega
      generalize l[k] = x at *
      obtain ⟨xk, xv⟩ := x
      simp only at a1 a2 a3 a5
      have A5 := Lib.hid a5
      clear a5 a6
      have w1 : IntKind.i64.wrap (4 + (xn : Int)) = 4 + xn := by rw [IntKind.wrap_i64]; omega
      obtain ⟨z', hz'⟩ : ∃ z', IntKind.i64.wrap (z + (4 + (xn : Int))) = z' := ⟨_, rfl⟩
      have hz2' : wrap64 (z + (4 + (xn : Int))) = z' := by rw [← hz', IntKind.wrap_i64]; unfold wrap64; omega
      have ZB : Hid (-9223372036854775808 ≤ z' ∧ z' ≤ 9223372036854775807) := Lib.hid (by rw [← hz', IntKind.wrap_i64]; omega)
      have ZV : Hid (k + 1 ≤ 32 → z' = (m + q + totM (l.take (k + 1)) : Nat) ∧ totM (l.take (k + 1)) ≤ (k + 1) * 140737488355332) := Lib.hid (fun hk => by
        obtain ⟨e1, e2⟩ := HZ.out (by omega)
        have e3 := T1.out
        simp only at e3
        rw [A5.out] at e3
        rw [← hz', IntKind.wrap_i64, e3, e1]
        omega)
      go_wp2_with fail
      go_roundw
      case rel => exact ⟨k + 1, z', by omega, by go_num, rfl, ZB.out.1, ZB.out.2, ZV.out, hM.trans Mor.out⟩
      case measure => simp [intOf]; omega
    · have hkn : k = n := by omega
      subst hkn
      have ZF : Hid (l.length ≤ 32 → z = (m + q + totM l : Nat)) := Lib.hid (fun h => by
        have := (HZ.out (by rw [← HN.out]; exact h)).1
        rwa [List.take_of_length_le (by rw [HN.out]; omega)] at this)
      clear HZ
      by_cases c3 : 5000 < z
      · have d3 : decide (5000 < z) = true := decide_eq_true c3
        go_wp2_with fail
        try go_ret
        rw [← RR.out]
        exact ⟨_, rfl, fun h => (by simp at h), hM⟩
      · have d3 : decide (5000 < z) = false := decide_eq_false c3
        go_wp2_with fail
        try go_ret
        rw [← RR.out]
        exact ⟨_, rfl, fun _ hl => by have := ZF.out hl; have := HQ.out; simp only; omega, hM⟩
end Go.Proofs.Ytofbhkodnijkjaa
/- What is put is taken as it was, and the other way about: packets, plain. -/
namespace Go.Proofs.Ytofbhkodnijkjaa
open Go.RowKit

/-- a packet whose numbers are such -/
structure PkOk (p : Pk) : Prop where
  h : HdOk p.h
  e : ∀ x ∈ p.e, (0 ≤ x.kind ∧ x.kind ≤ 65535) ∧ ∀ c ∈ x.val, 0 ≤ c ∧ c ≤ 255
  m : ∀ c ∈ p.m, 0 ≤ c ∧ c ≤ 255
set_option maxRecDepth 20000 in
theorem putP_take {p : Pk} {bs : List Int} (ok : PkOk p) (h : putP p = (bs, 0)) : takeP bs = (p, 0) := by
  unfold putP at h
  by_cases c1 : mayH p.h = true
  · rw [if_pos c1] at h
    by_cases c2 : (putM p.e p.m).2 = 0
    · rw [if_pos c2] at h
      have e1 : hdB p.h ++ (putM p.e p.m).1 = bs := (Prod.mk.inj h).1
      have e2 : putM p.e p.m = ((putM p.e p.m).1, 0) := by rw [← c2]
      have e3 := put_take ok.e ok.m e2
      subst e1
      unfold takeP
      have hl := hdB_len p.h
      have hd : (hdB p.h ++ (putM p.e p.m).1).drop 48 = (putM p.e p.m).1 := by rw [List.drop_left' hl]
      rw [if_neg (by rw [List.length_append, hl]; omega), hd, e3, if_pos rfl, hdOf_put p.h ok.h c1]
    · rw [if_neg c2] at h
      exact absurd (Prod.mk.inj h).2 c2
  · rw [if_neg c1] at h
    simp at h
set_option maxRecDepth 20000 in
theorem sz_small {bs : List Int} (hb : ∀ c ∈ bs, 0 ≤ c ∧ c ≤ 255) (h : (nextM bs).1 = 2) : 4 ≤ sz bs ∧ sz bs ≤ 65532 := by
  obtain ⟨h1, -, h3, h4, -⟩ := nextM_field h
  have d : ∀ i, bs.getD i 0 ≤ 255 := fun i => by
    rw [List.getD_eq_getElem?_getD]
    by_cases c : i < bs.length
    · rw [List.getElem?_eq_getElem c]; exact (hb _ (List.getElem_mem c)).2
    · rw [List.getElem?_eq_none (by omega)]; decide
  have e : sz bs ≤ 65535 := by
    unfold sz sizeM
    have := d 2
    have := d 3
    omega
  omega
set_option maxRecDepth 20000 in
theorem parse_small {bs : List Int} (hb : ∀ c ∈ bs, 0 ≤ c ∧ c ≤ 255) : ∀ (n a : Nat), bs.length - a ≤ n → ∀ f ∈ parse bs a, 4 + f.val.length ≤ 65532 := by
  intro n
  induction n with
  | zero =>
    intro a ha f hf
    rw [parse_nil (by rw [List.drop_eq_nil_of_le (by omega)]; decide)] at hf
    cases hf
  | succ n ih =>
    intro a ha f hf
    by_cases c : (nextM (bs.drop a)).1 = 2
    · have k := sz_small (fun c hc => hb c (List.mem_of_mem_drop hc)) c
      obtain ⟨h1, -, h3, -, -⟩ := nextM_field c
      rw [List.length_drop] at h1
      rw [parse_cons c] at hf
      rcases List.mem_cons.1 hf with rfl | hf
      · simp only [List.length_take]; omega
      · exact ih _ (by omega) f hf
    · rw [parse_nil c] at hf
      cases hf
set_option maxRecDepth 20000 in
theorem totM_small : ∀ {l : List Fld}, (∀ x ∈ l, 4 + x.val.length ≤ 65532) → totM l ≤ l.length * 65532
  | [], _ => by decide
  | x :: l, h => by
    have := totM_small (l := l) fun y hy => h y (List.mem_cons_of_mem _ hy)
    have := h x List.mem_cons_self
    have e : totM (x :: l) = 4 + x.val.length + totM l := by unfold totM; rw [List.map_cons, List.sum_cons]
    rw [e, List.length_cons]
    omega
set_option maxRecDepth 20000 in
theorem mac_small (bs : List Int) : (if (nextM bs).1 = 1 then bs else []).length ≤ 24 := by
  by_cases c : (nextM bs).1 = 1
  · rw [if_pos c]
    unfold nextM at c
    by_cases c0 : bs.length = 0
    · omega
    rw [if_neg c0] at c
    by_cases c1 : bs.length = 4 ∨ bs.length = 20 ∨ bs.length = 24
    · omega
    rw [if_neg c1] at c
    by_cases c2 : bs.length < 28
    · rw [if_pos c2] at c; simp at c
    rw [if_neg c2] at c
    by_cases c3 : sizeM bs < 16 ∨ sizeM bs % 4 ≠ 0 ∨ (bs.length : Int) < sizeM bs
    · rw [if_pos c3] at c; simp at c
    · rw [if_neg c3] at c; simp at c
  · rw [if_neg c]; decide
set_option maxRecDepth 20000 in
theorem take_put2 {b mac : List Int} {l : List Fld} (hb : ∀ c ∈ b, 0 ≤ c ∧ c ≤ 255) (h : takeM b = (l, mac, 0)) : putM l mac = (b, 0) ∧ l.length ≤ 32 ∧ totM l + mac.length ≤ 4000000 := by
  have t0 : (takeM b).2.2 = 0 := by rw [h]
  obtain ⟨q1, q2⟩ := takeM_ok.1 t0
  have tv := takeM_val t0
  rw [h] at tv
  have e1 : l = (parse b 0).map fldOf := (Prod.mk.inj tv).1
  have e2 : mac = macM b := (Prod.mk.inj (Prod.mk.inj tv).2).1
  have ep := enc_parse b hb (b.length) 0 (by omega)
  rw [List.drop_zero, ← e1] at ep
  have hmac : b.drop (endF b 0) = mac := by
    rw [e2]
    unfold macM
    rcases nextM_cases (b.drop (endF b 0)) with c | c | c | c
    · rw [if_neg (by rw [c]; decide)]; exact macM_nil c
    · rw [if_pos c]
    · exact absurd c (nextM_end b b.length 0 (by omega))
    · exact absurd c q2
  rw [hmac] at ep
  have hs : ∀ x ∈ l, 4 + x.val.length ≤ 65532 := by
    rw [e1]
    intro x hx
    obtain ⟨f, hf, rfl⟩ := List.mem_map.1 hx
    exact parse_small hb b.length 0 (by omega) f hf
  have hl32 : l.length ≤ 32 := by rw [e1, List.length_map]; exact q1
  have hm : mac.length ≤ 24 := by rw [e2]; exact mac_small _
  have ht := totM_small hs
  refine ⟨?_, hl32, by omega⟩
  unfold putM
  have nb : ¬ l.any big = true := by
    intro h2
    obtain ⟨x, hx, hb⟩ := List.any_eq_true.1 h2
    unfold big at hb
    rw [decide_eq_true_eq] at hb
    have := hs x hx
    omega
  rw [if_neg (by omega), if_neg nb, ep, h, if_neg (by simp)]
set_option maxRecDepth 20000 in
theorem takeP_put {b : List Int} {q : Pk} (hb : ∀ c ∈ b, 0 ≤ c ∧ c ≤ 255) (h : takeP b = (q, 0)) : putP q = (b, 0) ∧ (q.e.length ≤ 32 → totM q.e + q.m.length ≤ 4000000) := by
  unfold takeP at h
  by_cases c1 : b.length < 48
  · rw [if_pos c1] at h; simp at h
  rw [if_neg c1] at h
  by_cases c2 : (takeM (b.drop 48)).2.2 = 0
  · rw [if_pos c2] at h
    obtain rfl : q = _ := ((Prod.mk.inj h).1).symm
    have t : takeM (b.drop 48) = ((takeM (b.drop 48)).1, (takeM (b.drop 48)).2.1, 0) := by rw [← c2]
    obtain ⟨p1, p2, p3⟩ := take_put2 (fun c hc => hb c (List.mem_of_mem_drop hc)) t
    have hh := hdOf_ok b hb (by omega)
    refine ⟨?_, fun _ => p3⟩
    unfold putP
    rw [if_pos hh.2]
    simp only
    rw [p1, if_pos rfl, hdB_of b hb (by omega)]
  · rw [if_neg c2] at h
    exact absurd (Prod.mk.inj h).2 c2
set_option maxRecDepth 20000 in
theorem takeP_ok' {b : List Int} (hb : ∀ c ∈ b, 0 ≤ c ∧ c ≤ 255) : HdOk (takeP b).1.h := takeP_ok b hb
end Go.Proofs.Ytofbhkodnijkjaa
/- horologelaw23.works: the document's examples. -/
namespace Go.Proofs.Ytofbhkodnijkjaa
open Go.RowKit

set_option maxRecDepth 20000 in
theorem takeM_4 : takeM (zeros 4) = ([], zeros 4, 0) := by
  have h : ¬ (nextM ((zeros 4).drop 0)).1 = 2 := by decide
  unfold takeM
  rw [parse_nil h, endF_nil h]
  rfl
set_option maxRecDepth 20000 in
theorem takeP_47 : takeP (zeros 47) = (pk0, 8) := by
  unfold takeP
  rw [if_pos (by decide)]
set_option maxRecDepth 20000 in
theorem takeP_52 : takeP (zeros 52) = (⟨hdOf (zeros 52), [], zeros 4⟩, 0) := by
  unfold takeP
  have e : (zeros 52).drop 48 = zeros 4 := by decide
  rw [if_neg (by decide), e, takeM_4, if_pos rfl]
set_option maxRecDepth 20000 in
theorem blk_alloc (w : World) (cs : Array Value) (t : TypeId) : Blk (w.alloc (.cells cs t)) w.heap.size t cs := inferInstance
def b48a : List Int := 35 :: zeros 47
def b48b : List Int := 35 :: (zeros 46 ++ [1])
set_option maxRecDepth 20000 in
theorem classP_a : (classP b48a).2 = 3 := by
  have t : takeP b48a = (⟨hdOf b48a, [], []⟩, 0) := by
    unfold takeP
    have e : b48a.drop 48 = [] := by decide
    rw [if_neg (by decide), e, take_nil, if_pos rfl]
  unfold classP
  rw [t, if_pos rfl]
  decide
set_option maxRecDepth 20000 in
theorem classP_b : (classP b48b).2 = 1 := by
  have t : takeP b48b = (⟨hdOf b48b, [], []⟩, 0) := by
    unfold takeP
    have e : b48b.drop 48 = [] := by decide
    rw [if_neg (by decide), e, take_nil, if_pos rfl]
  unfold classP
  rw [t, if_pos rfl]
  decide
set_option maxRecDepth 20000 in
theorem byteS_byteL {w : World} {g : Nat} (bs : List Int) (h : Blk w g 5 (byteL bs).toArray) (hb : ∀ c ∈ bs, 0 ≤ c ∧ c ≤ 255) (hl : bs.length ≤ 140737488355328) : ByteS w (some ⟨g, 0, none⟩) bs.length bs := byteS_blk h bs rfl hb hl
set_option maxRecDepth 20000 in
theorem zeros_byte (n : Nat) : ∀ c ∈ zeros n, 0 ≤ c ∧ c ≤ 255 := by
  intro c hc
  rw [List.eq_of_mem_replicate hc]
  omega
/-- the datagram that is none but for its bytes -/
def dgZ (bs : List Int) : Dg := ⟨wd0, en0, en0, bs⟩
set_option maxRecDepth 20000 in
theorem fits_wd0 : Fits (ksOf 24) wd0.toList := by
  have e : ksOf 24 = [.i .i64, .i .u64] := by kernel_rfl
  rw [e]
  exact ⟨⟨rfl, rfl⟩, ⟨rfl, rfl⟩, trivial⟩
set_option maxRecDepth 20000 in
theorem fits_en0 : Fits (ksOf 30) en0.toList := by
  have e : ksOf 30 = .b :: (List.replicate 16 (.i .u8) ++ [.i .u16]) := by kernel_rfl
  rw [e]
  exact ⟨trivial, ⟨rfl, rfl⟩, ⟨rfl, rfl⟩, ⟨rfl, rfl⟩, ⟨rfl, rfl⟩, ⟨rfl, rfl⟩, ⟨rfl, rfl⟩, ⟨rfl, rfl⟩, ⟨rfl, rfl⟩, ⟨rfl, rfl⟩, ⟨rfl, rfl⟩, ⟨rfl, rfl⟩, ⟨rfl, rfl⟩, ⟨rfl, rfl⟩, ⟨rfl, rfl⟩, ⟨rfl, rfl⟩, ⟨rfl, rfl⟩, ⟨rfl, rfl⟩, trivial⟩
set_option maxRecDepth 20000 in
theorem dgZ_ok (bs : List Int) : DgOk (dgZ bs) := ⟨fits_wd0, fits_en0, fits_en0⟩
set_option maxRecDepth 20000 in
theorem run_build_dg3 (A : Option Addr) (n c : Nat) (w : World) : (buildF 33 #[(3, .slice A n c)]).run Try.prog w = .ok (.agg (dgC wd0 en0 en0 (.slice A n c))) w := run_build w _ _ _ (by kernel_rfl)
attribute [local go_sem] blk_cell' blk_frozen'
attribute [local go_sem ↓] storeAt_pk buildF_dg
attribute [local go_sem] run_storePk run_build_dg3
set_option maxRecDepth 20000 in
set_option maxHeartbeats 8000000 in
theorem works23_any (W : World) : Calls Try.prog 9 #[] W fun e w' => e = .returned (.bool true) ∧ Mo W w' := by
  have m47 : ∀ w : World, (Instr.makeSlice 31 (.int .i64 47) (.int .i64 47)).run Try.prog w = .ok (.slice (some ⟨w.heap.size, 0, none⟩) 47 47) (w.alloc (.cells (byteL (zeros 47)).toArray 5)) := make_byteN 47 (by omega)
  have m52 : ∀ w : World, (Instr.makeSlice 31 (.int .i64 52) (.int .i64 52)).run Try.prog w = .ok (.slice (some ⟨w.heap.size, 0, none⟩) 52 52) (w.alloc (.cells (byteL (zeros 52)).toArray 5)) := make_byteN 52 (by omega)
  have m48 : ∀ w : World, (Instr.makeSlice 31 (.int .i64 48) (.int .i64 48)).run Try.prog w = .ok (.slice (some ⟨w.heap.size, 0, none⟩) 48 48) (w.alloc (.cells (byteL (zeros 48)).toArray 5)) := make_byteN 48 (by omega)
  go_enter Try.func9, Try.ntmps9
  go_wp2_with fail
  refine (ptake_any 47 47 (some ⟨W.heap.size, 0, none⟩) (zeros 47) _ rfl (byteS_byteL (zeros 47) inferInstance (zeros_byte _) (by decide))).mono ?_
  rw [takeP_47]
  rintro e w1 ⟨v1, rfl, ⟨a1, c1, a2, c2, rfl, X1, X2⟩, M1⟩
  have M1' := Mo.trans (Mor.out : Mo W _) M1
  clear M1 X1 X2 m47
  simp only [pk0, List.length_nil]
  go_upto_region 2 with (fail)
  refine wp_name ?_
  intro w2 hw2
  have M2' : Mo W w2 := by rw [hw2]; exact M1'.trans Mor.out
  clear hw2 M1'
  go_wp2_with fail
  refine (ptake_any 52 52 (some ⟨w2.heap.size, 0, none⟩) (zeros 52) _ rfl (byteS_byteL (zeros 52) inferInstance (zeros_byte _) (by decide))).mono ?_
  rw [takeP_52]
  rintro e w3 ⟨v1, rfl, ⟨a1, c1, a2, c2, rfl, X1, X2⟩, M1⟩
  have M3' := M2'.trans (Mo.trans (Mor.out : Mo w2 _) M1)
  clear M1 X1 X2 m52 M2'
  simp only [List.length_nil, List.length_replicate]
  generalize hdOf (zeros 52) = h52
  go_upto_region 3 with (fail)
  refine wp_name ?_
  intro w4 hw4
  have B4 : Blk w4 w3.heap.size 42 (pkL h52 (.slice a1 0 c1) (.slice a2 4 c2)).toArray := by rw [hw4]; infer_instance
  have M4' : Mo W w4 := by rw [hw4]; exact M3'.trans Mor.out
  clear hw4 M3'
  go_upto_region 5 with (fail)
  refine wp_name ?_
  intro w5 hw5
  have B5 : Blk w5 w4.heap.size 5 (byteL b48a).toArray := by rw [hw5]; exact blk_alloc w4 (byteL b48a).toArray _
  have C5 : Blk w5 w3.heap.size 42 (pkL h52 (.slice a1 0 c1) (.slice a2 4 c2)).toArray := by rw [hw5]; infer_instance
  have M5' : Mo W w5 := by rw [hw5]; exact M4'.trans Mor.out
  clear hw5 m48
  go_wp2_with fail
  refine (class_any (dgZ b48a) _ _ ⟨some ⟨w4.heap.size, 0, none⟩, 48, rfl, byteS_byteL b48a inferInstance (by decide) (by decide)⟩ (dgZ_ok _)).mono ?_
  rintro e w6 ⟨u, rfl, X, M6⟩
  rw [show (classP (dgZ b48a).bs).2 = 3 from classP_a]
  obtain ⟨f1, g1, f2, g2, rfl, -, -⟩ := X
  have N6 := Mo.trans (Mor.out : Mo w5 _) M6
  have B6 : Blk w6 w4.heap.size 5 (byteL b48a).toArray := N6.blk B5
  have C6 : Blk w6 w3.heap.size 42 (pkL h52 (.slice a1 0 c1) (.slice a2 4 c2)).toArray := N6.blk C5
  have M6' := M5'.trans N6
  clear M6 N6 B5 C5 M5'
  generalize (classP (dgZ b48a).bs).1 = q6 at *
  obtain ⟨h6, e6, m6⟩ := q6
  simp only
  generalize e6.length = n6
  generalize m6.length = n7
  go_upto_region 6 with (fail)
  refine wp_name ?_
  intro w7 hw7
  have l6 := B6.lt
  have l6' := C6.lt
  have B7 : Blk w7 w4.heap.size 5 (byteL b48a).toArray := by rw [hw7]; infer_instance
  have C7 : Blk w7 w3.heap.size 42 (pkL h52 (.slice a1 0 c1) (.slice a2 4 c2)).toArray := by rw [hw7]; infer_instance
  have M7' : Mo W w7 := by rw [hw7]; exact M6'.trans Mor.out
  clear hw7 M6' B6 C6
  go_upto_region 7 with (fail)
  refine wp_name ?_
  intro w8 hw8
  have l7 : w3.heap.size ≠ w4.heap.size := by have := B4.lt; omega
  have B8 : Blk w8 w4.heap.size 5 (byteL b48b).toArray := by rw [hw8]; exact blk_setCell (cs := (byteL b48a).toArray) inferInstance 47 _
  have C8 : Blk w8 w3.heap.size 42 (pkL h52 (.slice a1 0 c1) (.slice a2 4 c2)).toArray := by rw [hw8]; exact blk_setCell_ne inferInstance (Ne.symm l7) 47 _
  have M8' : Mo W w8 := by rw [hw8]; exact mo_setCell (M7'.trans Mor.out) (by have := M4'.size; omega) _ _
  clear hw8 M7' B7 C7
  go_wp2_with fail
  refine (class_any (dgZ b48b) _ _ ⟨some ⟨w4.heap.size, 0, none⟩, 48, rfl, byteS_byteL b48b inferInstance (by decide) (by decide)⟩ (dgZ_ok _)).mono ?_
  rintro e w9 ⟨u, rfl, X, M9⟩
  rw [show (classP (dgZ b48b).bs).2 = 1 from classP_b]
  obtain ⟨f3, g3, f4, g4, rfl, -, -⟩ := X
  have N9 := Mo.trans (Mor.out : Mo w8 _) M9
  have C9 : Blk w9 w3.heap.size 42 (pkL h52 (.slice a1 0 c1) (.slice a2 4 c2)).toArray := N9.blk C8
  have M9' := M8'.trans N9
  clear M9 N9 B8 C8 M8'
  generalize (classP (dgZ b48b).bs).1 = q9 at *
  obtain ⟨h9, e9, m9⟩ := q9
  simp only
  generalize e9.length = n9
  generalize m9.length = n10
  go_upto_region 8 with (fail)
  refine wp_name ?_
  intro wA hwA
  have l9 := C9.lt
  have CA : Blk wA w3.heap.size 42 (pkL h52 (.slice a1 0 c1) (.slice a2 4 c2)).toArray := by rw [hwA]; infer_instance
  have MA' : Mo W wA := by rw [hwA]; exact M9'.trans Mor.out
  clear hwA M9' C9
  go_wp2_with fail
  try go_ret
  exact ⟨rfl, MA'.trans Mor.out⟩
end Go.Proofs.Ytofbhkodnijkjaa
/- law23: what the walks of its laws share. -/
namespace Go.Proofs.Ytofbhkodnijkjaa
open Go.RowKit

set_option maxRecDepth 20000 in
theorem loadF_pk (v : Value) : Instr.loadAt 42 v = loadF 42 v := rfl
set_option maxRecDepth 20000 in
theorem buildF_pk (l : Array (Nat × Value)) : Instr.build 42 l = buildF 42 l := rfl
set_option maxRecDepth 20000 in
theorem run_build_pk0 (w : World) : (buildF 42 #[]).run Try.prog w = .ok (pkV ⟨0, 0, 0, 0, 0, 0, 0, 0, 0, 0, 0, 0, 0, 0, 0, 0⟩ (.slice none 0 0) (.slice none 0 0)) w := run_build w _ _ _ (by kernel_rfl)
set_option maxRecDepth 20000 in
theorem eqlF_key (x y : Value) : binOp .eql 55 x y = eqlF 55 x y := rfl
set_option maxRecDepth 20000 in
theorem eqlF_ends (x y : Value) : binOp .eql 30 x y = eqlF 30 x y := rfl
set_option maxRecDepth 20000 in
theorem eqlF_wide (x y : Value) : binOp .eql 24 x y = eqlF 24 x y := rfl
set_option maxRecDepth 20000 in
theorem pkv0 (w : World) : PkV w pk0 (pkV ⟨0, 0, 0, 0, 0, 0, 0, 0, 0, 0, 0, 0, 0, 0, 0, 0⟩ (.slice none 0 0) (.slice none 0 0)) := ⟨none, 0, none, 0, rfl, extS_none w, byteS_none w⟩
set_option maxRecDepth 20000 in
theorem PkF.at {b : Nat} {w : World} {p : Pk} {v : Value} (h : PkF b w p v) : PkV w p v := (h.r w).at (Mo.refl w)
set_option maxRecDepth 20000 in
theorem classP_fst (bs : List Int) : (classP bs).1 = (takeP bs).1 := by
  unfold classP
  by_cases c : (takeP bs).2 = 0
  · rw [if_pos c]
  · rw [if_neg c]
    unfold takeP at c ⊢
    by_cases c1 : bs.length < 48
    · rw [if_pos c1]
    · rw [if_neg c1] at c ⊢
      by_cases c2 : (takeM (bs.drop 48)).2.2 = 0
      · rw [if_pos c2] at c; exact absurd rfl c
      · rw [if_neg c2]
set_option maxRecDepth 20000 in
theorem ks_key : ksOf 55 = ksOf 30 ++ (ksOf 30 ++ [.i .u64]) := by
  have e : ksOf 30 = .b :: (List.replicate 16 (.i .u8) ++ [.i .u16]) := by kernel_rfl
  have e' : ksOf 55 = (.b :: (List.replicate 16 (.i .u8) ++ [.i .u16])) ++ ((.b :: (List.replicate 16 (.i .u8) ++ [.i .u16])) ++ [.i .u64]) := by kernel_rfl
  rw [e', e]
set_option maxRecDepth 20000 in
theorem fits_ky {s t : Array Value} {n : Int} (hs : Fits (ksOf 30) s.toList) (ht : Fits (ksOf 30) t.toList) (h1 : 0 ≤ n ∧ n ≤ 18446744073709551615) : Fits (ksOf 55) (kyC s t n).toList := by
  rw [ks_key]
  unfold kyC
  simp only [Array.toList_append, List.append_assoc]
  exact fits_append hs (fits_append ht ⟨fit_int h1.1 h1.2, trivial⟩)
set_option maxRecDepth 20000 in
theorem fits_key {d : Dg} {h : Hd} (kd : DgOk d) (kh : HdOk h) : Fits (ksOf 55) (keyC d h).toList := by
  unfold keyC
  by_cases c : h.m = 3
  · rw [if_pos c]; exact fits_ky kd.src kd.dst kh.x
  · rw [if_neg c]
    by_cases c : h.m = 4
    · rw [if_pos c]; exact fits_ky kd.dst kd.src kh.o
    · rw [if_neg c]; exact fits_ky fits_en0 fits_en0 (by decide)
set_option maxRecDepth 20000 in
theorem run_eqlF_self {T : TypeId} {n : Nat} (h : FlatT T n) (w : World) {xs : Array Value} (hx : Fits (ksOf T) xs.toList) : (eqlF T (.agg xs) (.agg xs)).run Try.prog w = .ok (.bool true) w := by
  have := run_eql_flat h w hx hx
  rwa [eqA_self] at this
set_option maxRecDepth 20000 in
theorem same_self (p : Pk) (v u : Value) (W : World) (hv : PkV W p v) (hu : PkV W p u) (kp : HdOk p.h) :
    Calls Try.prog 12 #[v, u] W fun e w' => e = .returned (.bool true) ∧ Mo W w' := by
  have := same23_any p p v u W hv hu kp kp
  rwa [decide_eq_true rfl] at this
end Go.Proofs.Ytofbhkodnijkjaa
/- horologelaw21: arguments: fields, bytes, opened. -/
namespace Go.Proofs.Ytofbhkodnijkjaa
open Go.RowKit Go.ChangeShapes Go.WideShapes Go.Deep

section
variable {H : Type} {enc : TypeId × Value → H} {w : World} {base : Nat} {spare : Nat → Bool} {held : Bool}
set_option maxRecDepth 20000 in
theorem weightsAll_mem {P : Program} {e : TypeId} : ∀ {l : List (DataW H)} {d : DataW H}, d ∈ l → ∀ n ∈ d.weights P e, n ∈ DataW.weightsAll P e l
  | x :: xs, d, h, n, hn => by
    rw [DataW.weightsAll]
    rcases List.mem_cons.1 h with rfl | h
    · exact List.mem_append_left _ hn
    · exact List.mem_append_right _ (weightsAll_mem h n hn)
set_option maxRecDepth 20000 in
/-- a slice: its cells, how each reads, what it weighs -/
theorem open_rowsW {t e : TypeId} {fuel n : Nat} {v : Value} {x : DataW H × List MemPlace} (ht : Try.prog.underlying t = some (.slice e)) (hC : Try.prog.cellsOf e = n) (hn : 0 < n) (h : DataW.trod enc Try.prog w base spare held fuel t [v] = some x)
    (hz : ∀ k ∈ x.1.weights Try.prog t, k ≤ reachBytes) :
    (v = .slice none 0 0) ∨ ∃ (a : Addr) (len cap : Nat), v = .slice (some a) len cap ∧ len ≤ cap ∧ len * Try.prog.bytesOf e ≤ reachBytes ∧ (0 < len → a.spot = none) ∧
      ∀ i, i < len → ∃ (cs : List Value) (m : Nat) (y : DataW H × List MemPlace), cs.length = n ∧ (∀ j, j < n → w.cell? ⟨a.block, a.off + i * n + j, none⟩ = cs[j]?) ∧ DataW.trod enc Try.prog w base spare held m e cs = some y ∧ ∀ k ∈ y.1.weights Try.prog e, k ≤ reachBytes := by
  rcases open_slice ht h with ⟨h0, _⟩ | ⟨a, len, cap, m, q, D, Pl, hcs, hb, hl, hm, hmm, hx, hi⟩
  · exact .inl (by simpa using h0)
  · rw [hC] at hi
    subst hx
    rw [DataW.weights, ht] at hz
    simp only at hz
    have hle : len ≤ m := by rw [hmm]; split <;> omega
    have hsp : 0 < len → a.spot = none := fun hp => by
      obtain ⟨cs, hc, -⟩ := hi 0 (by omega)
      obtain ⟨_, hlen, hat⟩ := World.cells?_some hc
      have := hat 0 hn
      rw [List.getElem?_eq_getElem (by omega)] at this
      simpa [Addr.add] using World.cell?_spot this
    have hw := hz _ (List.mem_cons_self ..)
    simp only [List.length_map, List.length_range] at hw
    refine .inr ⟨a, len, cap, by simpa using hcs, hl, Nat.le_trans (Nat.mul_le_mul_right _ (by omega)) hw, hsp, fun i him => ?_⟩
    obtain ⟨cs, hc, ht'⟩ := hi i (by omega)
    obtain ⟨_, hlen, hat⟩ := World.cells?_some hc
    refine ⟨cs, q, _, hlen, fun j hj => ?_, ht', fun k hk => hz k (List.mem_cons_of_mem _ (List.mem_append_left _ (weightsAll_mem (List.mem_map.2 ⟨i, List.mem_range.2 him, rfl⟩) k hk)))⟩
    have hs := hsp (by omega)
    obtain ⟨b, off, spot⟩ := a
    simp only at hs
    subst hs
    rw [← hat j hj, Go.WideShapes.add_plain, Go.WideShapes.add_plain]
set_option maxRecDepth 20000 in
theorem cellsB21 : Try.prog.cellsOf 5 = 1 := by kernel_rfl
set_option maxRecDepth 20000 in
theorem cellsE21 : Try.prog.cellsOf 70 = 2 := by kernel_rfl
set_option maxRecDepth 20000 in
theorem bytesB21 : Try.prog.bytesOf 5 = 1 := by kernel_rfl
set_option maxRecDepth 20000 in
theorem bytesE21 : Try.prog.bytesOf 70 = 32 := by kernel_rfl
set_option maxRecDepth 20000 in
theorem reach21 : reachBytes = 140737488351232 := by decide
set_option maxRecDepth 20000 in
theorem one_cell {cs : List Value} (h : cs.length = 1) : ∃ a, cs = [a] := by
  match cs, h with
  | [a], _ => exact ⟨a, rfl⟩
set_option maxRecDepth 20000 in
theorem two_cells {cs : List Value} (h : cs.length = 2) : ∃ a b, cs = [a, b] := by
  match cs, h with
  | [a, b], _ => exact ⟨a, b, rfl⟩
set_option maxRecDepth 20000 in
theorem open_bytes21 {fuel : Nat} {v : Value} {x : DataW H × List MemPlace} (h : DataW.trod enc Try.prog w base spare held fuel 31 [v] = some x) (hz : ∀ k ∈ x.1.weights Try.prog 31, k ≤ reachBytes) :
    ∃ A bs cap, v = .slice A bs.length cap ∧ ByteS w A cap bs := by
  rcases open_rowsW Try.underlying31 cellsB21 (by decide) h hz with rfl | ⟨a, len, cap, rfl, hl, hb, hs, hi⟩
  · exact ⟨none, [], 0, rfl, by simp, by simp, by simp, fun _ => rfl, .inl rfl⟩
  · rw [bytesB21, reach21] at hb
    have hex : ∀ i, ∃ c : Int, i < len → (0 ≤ c ∧ c ≤ 255) ∧ w.cell? ⟨a.block, a.off + i, none⟩ = some (.int .u8 c) := fun i => by
      by_cases h : i < len
      · obtain ⟨cs, m, y, hl, hc, ht, _⟩ := hi i h
        obtain ⟨u, rfl⟩ := one_cell hl
        obtain ⟨c, e0, _, w0⟩ := DataW.trod_int Try.underlying5 ht
        obtain rfl : u = _ := by simpa using e0
        refine ⟨c, fun _ => ⟨?_, ?_⟩⟩
        · simp [Lit.wf, IntKind.min, IntKind.max, IntKind.signed, IntKind.bits] at w0
          omega
        · have := hc 0 (by omega)
          rw [Nat.mul_one, Nat.add_zero] at this
          rw [this]; rfl
      · exact ⟨0, fun k => absurd k h⟩
    obtain ⟨F, hF⟩ := Classical.axiomOfChoice hex
    have hlen : ((List.range len).map F).length = len := by simp
    refine ⟨some a, (List.range len).map F, cap, by rw [hlen], by rw [hlen]; exact hl, by rw [hlen]; omega, fun c hc => ?_, fun e => (by cases e), ?_⟩
    · obtain ⟨i, hi', rfl⟩ := List.mem_map.1 hc
      exact (hF i (List.mem_range.1 hi')).1
    · by_cases z : len = 0
      · subst z; exact .inl rfl
      · have hsp := hs (by omega)
        obtain ⟨b, off, spot⟩ := a
        simp only at hsp
        subst hsp
        refine .inr ⟨b, off, rfl, fun j hj => ?_⟩
        have hj' : j < len := by rw [hlen] at hj; exact hj
        have e : ((List.range len).map F)[j] = F j := by simp
        rw [e]
        exact (hF j hj').2
set_option maxRecDepth 20000 in
theorem open_exts21 {fuel : Nat} {v : Value} {x : DataW H × List MemPlace} (h : DataW.trod enc Try.prog w base spare held fuel 40 [v] = some x) (hz : ∀ k ∈ x.1.weights Try.prog 40, k ≤ reachBytes) :
    ∃ A l cap, v = .slice A l.length cap ∧ ExtS w A cap l := by
  rcases open_rowsW Try.underlying40 cellsE21 (by decide) h hz with rfl | ⟨a, len, cap, rfl, hl, hb, hs, hi⟩
  · exact ⟨none, [], 0, rfl, by simp, by simp, fun _ => rfl, .inl rfl⟩
  · rw [bytesE21, reach21] at hb
    have hex : ∀ i, ∃ c : Fld, i < len → w.cell? ⟨a.block, a.off + i * 2, none⟩ = some (.int .u16 c.kind) ∧ 0 ≤ c.kind ∧ c.kind ≤ 65535 ∧ ∃ u, w.cell? ⟨a.block, a.off + i * 2 + 1, none⟩ = some u ∧ ByteV w u c.val := fun i => by
      by_cases h : i < len
      · obtain ⟨cs, m, y, hl, hc, ht, hw⟩ := hi i h
        obtain ⟨u, u', rfl⟩ := two_cells hl
        obtain ⟨y0, y1, n, rfl, _, f0, f1⟩ := trod_struct2 Try.underlying70 ht
        replace f0 : DataW.trod enc Try.prog w base spare held n 28 [u] = some y0 := f0
        replace f1 : DataW.trod enc Try.prog w base spare held n 31 [u'] = some y1 := f1
        obtain ⟨c, e0, _, w0⟩ := DataW.trod_int Try.underlying28 f0
        obtain rfl : u = _ := by simpa using e0
        obtain ⟨A, bs, cp, rfl, hB⟩ := open_bytes21 f1 (fun k hk => hw k (by
          rw [DataW.weights, Try.underlying70]
          show k ∈ DataW.weightsEach Try.prog [28, 31] [y0.1, y1.1]
          rw [DataW.weightsEach, DataW.weightsEach]
          exact List.mem_append_right _ (List.mem_append_left _ hk)))
        have c0 := hc 0 (by omega)
        have c1 := hc 1 (by omega)
        refine ⟨⟨c, bs⟩, fun _ => ⟨by rw [Nat.add_zero] at c0; rw [c0]; rfl, ?_, ?_, _, by rw [c1]; rfl, A, cp, rfl, hB⟩⟩
        all_goals (simp [Lit.wf, IntKind.min, IntKind.max, IntKind.signed, IntKind.bits] at w0; simp only; omega)
      · exact ⟨⟨0, []⟩, fun k => absurd k h⟩
    obtain ⟨F, hF⟩ := Classical.axiomOfChoice hex
    have hlen : ((List.range len).map F).length = len := by simp
    refine ⟨some a, (List.range len).map F, cap, by rw [hlen], by rw [hlen]; exact hl, by rw [hlen]; omega, fun e => (by cases e), ?_⟩
    by_cases z : len = 0
    · subst z; exact .inl rfl
    · have hsp := hs (by omega)
      obtain ⟨b, off, spot⟩ := a
      simp only at hsp
      subst hsp
      refine .inr ⟨b, off, rfl, fun j hj => ?_⟩
      have hj' : j < len := by rw [hlen] at hj; exact hj
      have e : ((List.range len).map F)[j] = F j := by simp
      rw [e]
      exact hF j hj'
set_option maxRecDepth 20000 in
theorem open_ext21 {r : Reach} {b0 : Nat} {v : Value} {d : DataW H} {p : List MemPlace} (hv : Value.okWide Try.prog w r b0 70 v) (h : DataW.Trod enc Try.prog w base spare held 70 v d p) (hz : ∀ k ∈ d.weights Try.prog 70, k ≤ reachBytes) :
    ∃ (x : Fld) (u : Value), v = .agg #[.int .u16 x.kind, u] ∧ (0 ≤ x.kind ∧ x.kind ≤ 65535) ∧ ByteV w u x.val := by
  obtain ⟨c0, c1, y0, y1, n, rfl, rfl, _, f0, f1⟩ := Go.Joins.open_agg2 Try.underlying70 (by kernel_rfl) cellsE21 hv h
  replace f0 : DataW.trod enc Try.prog w base spare held n 28 [c0] = some y0 := f0
  replace f1 : DataW.trod enc Try.prog w base spare held n 31 [c1] = some y1 := f1
  obtain ⟨c, e0, _, w0⟩ := DataW.trod_int Try.underlying28 f0
  obtain rfl : c0 = _ := by simpa using e0
  obtain ⟨A, bs, cp, rfl, hB⟩ := open_bytes21 f1 (fun k hk => hz k (by
    rw [DataW.weights, Try.underlying70]
    show k ∈ DataW.weightsEach Try.prog [28, 31] [y0.1, y1.1]
    rw [DataW.weightsEach, DataW.weightsEach]
    exact List.mem_append_right _ (List.mem_append_left _ hk)))
  refine ⟨⟨c, bs⟩, _, rfl, ?_, A, cp, rfl, hB⟩
  simp [Lit.wf, IntKind.min, IntKind.max, IntKind.signed, IntKind.bits] at w0
  simp only
  omega
end
end Go.Proofs.Ytofbhkodnijkjaa
/- horologelaw23: arguments: packets and datagrams, opened. -/
namespace Go.Proofs.Ytofbhkodnijkjaa
open Go.RowKit Go.ChangeShapes Go.WideShapes Go.Deep

set_option maxRecDepth 20000 in
theorem fits_cons_int {k : IntKind} {ks : List CK} {vs : List Value} (h : Fits (.i k :: ks) vs) : ∃ n t, vs = .int k n :: t ∧ (k.min ≤ n ∧ n ≤ k.max) ∧ Fits ks t := by
  match vs, h with
  | .int q n :: t, h =>
    obtain ⟨⟨rfl, hw⟩, ht⟩ := h
    simp only [Lit.wf, Bool.and_eq_true, decide_eq_true_eq] at hw
    exact ⟨n, t, rfl, hw, ht⟩
set_option maxRecDepth 20000 in
theorem hd_of_fits {cs : List Value} (h : Fits (ksOf 39) cs) : ∃ hd : Hd, cs = (hdC hd).toList ∧ HdOk hd := by
  rw [ks_head] at h
  obtain ⟨n0, t, rfl, b0, h⟩ := fits_cons_int h
  obtain ⟨n1, t, rfl, b1, h⟩ := fits_cons_int h
  obtain ⟨n2, t, rfl, b2, h⟩ := fits_cons_int h
  obtain ⟨n3, t, rfl, b3, h⟩ := fits_cons_int h
  obtain ⟨n4, t, rfl, b4, h⟩ := fits_cons_int h
  obtain ⟨n5, t, rfl, b5, h⟩ := fits_cons_int h
  obtain ⟨n6, t, rfl, b6, h⟩ := fits_cons_int h
  obtain ⟨n7, t, rfl, b7, h⟩ := fits_cons_int h
  obtain ⟨n8, t, rfl, b8, h⟩ := fits_cons_int h
  obtain ⟨n9, t, rfl, b9, h⟩ := fits_cons_int h
  obtain ⟨n10, t, rfl, b10, h⟩ := fits_cons_int h
  obtain ⟨n11, t, rfl, b11, h⟩ := fits_cons_int h
  obtain ⟨n12, t, rfl, b12, h⟩ := fits_cons_int h
  obtain ⟨n13, t, rfl, b13, h⟩ := fits_cons_int h
  obtain ⟨n14, t, rfl, b14, h⟩ := fits_cons_int h
  obtain ⟨n15, t, rfl, b15, h⟩ := fits_cons_int h
  match t, h with
  | [], _ => exact ⟨⟨n0, n1, n2, n3, n4, n5, n6, n7, n8, n9, n10, n11, n12, n13, n14, n15⟩, rfl, ⟨b0, b1, b2, b3, b4, b5, b6, b7, b8, b9, b10, b11, b12, b13, b14, b15⟩⟩
section
variable {H : Type} {enc : TypeId × Value → H} {w : World} {base : Nat} {spare : Nat → Bool} {held : Bool}
set_option maxRecDepth 20000 in
theorem flat_trod {T : TypeId} {n : Nat} (k : FlatT T n) {fuel : Nat} {cs : List Value} {x : DataW H × List MemPlace} (h : DataW.trod enc Try.prog w base spare held fuel T cs = some x) : Fits (ksOf T) cs := kinds_trod _ fuel T _ k.ks cs x h
set_option maxRecDepth 20000 in
theorem cellsPk : Try.prog.cellsOf 42 = 18 := by kernel_rfl
set_option maxRecDepth 20000 in
theorem cellsDg : Try.prog.cellsOf 33 = 39 := by kernel_rfl
set_option maxRecDepth 20000 in
theorem cellsWd : Try.prog.cellsOf 24 = 2 := by kernel_rfl
set_option maxRecDepth 20000 in
theorem cellsEn : Try.prog.cellsOf 30 = 18 := by kernel_rfl
set_option maxRecDepth 20000 in
theorem open_pk23 {r : Reach} {b0 : Nat} {v : Value} {d : DataW H} {p : List MemPlace} (hv : Value.okWide Try.prog w r b0 42 v) (h : DataW.Trod enc Try.prog w base spare held 42 v d p) (hz : ∀ k ∈ d.weights Try.prog 42, k ≤ reachBytes) :
    ∃ q : Pk, PkV w q v ∧ PkOk q := by
  obtain ⟨cs, rfl, hsz⟩ := okWide_struct Try.underlying42 hv
  rw [cellsPk] at hsz
  obtain ⟨x0, x1, x2, x3, x4, x5, x6, x7, x8, x9, x10, x11, x12, x13, x14, x15, u, m, rfl⟩ := arr18 hsz
  obtain ⟨fuel, hf⟩ := h
  obtain ⟨y0, y1, y2, n, hx, _, f0, f1, f2⟩ := trod_struct3 Try.underlying42 hf
  simp only [Prod.mk.injEq] at hx
  replace f0 : DataW.trod enc Try.prog w base spare held n 39 [x0, x1, x2, x3, x4, x5, x6, x7, x8, x9, x10, x11, x12, x13, x14, x15] = some y0 := f0
  replace f1 : DataW.trod enc Try.prog w base spare held n 40 [u] = some y1 := f1
  replace f2 : DataW.trod enc Try.prog w base spare held n 31 [m] = some y2 := f2
  obtain ⟨hd, e0, ok⟩ := hd_of_fits (flat_trod fl_head f0)
  have hw : ∀ k ∈ DataW.weightsEach Try.prog [39, 40, 31] [y0.1, y1.1, y2.1], k ≤ reachBytes := fun k hk => hz k (by
    rw [hx.1, DataW.weights, Try.underlying42]
    exact hk)
  rw [DataW.weightsEach, DataW.weightsEach, DataW.weightsEach] at hw
  obtain ⟨A, l, cp, rfl, hE⟩ := open_exts21 f1 (fun k hk => hw k (List.mem_append_right _ (List.mem_append_left _ hk)))
  obtain ⟨A', bs, cp', rfl, hB⟩ := open_bytes21 f2 (fun k hk => hw k (List.mem_append_right _ (List.mem_append_right _ (List.mem_append_left _ hk))))
  simp only [List.cons.injEq, and_true] at e0
  obtain ⟨rfl, rfl, rfl, rfl, rfl, rfl, rfl, rfl, rfl, rfl, rfl, rfl, rfl, rfl, rfl, rfl⟩ := e0
  exact ⟨⟨hd, l, bs⟩, ⟨A, cp, A', cp', rfl, hE, hB⟩, ok, hE.ok, hB.byte⟩
set_option maxRecDepth 20000 in
theorem split39 {l : List Value} (h : l.length = 39) : ∃ m, l = (l.drop 0).take 2 ++ (l.drop 2).take 18 ++ (l.drop 20).take 18 ++ [m] ∧ (l.drop 38).take 1 = [m] := by
  have e : l = (l.drop 0).take 2 ++ (l.drop 2).take 18 ++ (l.drop 20).take 18 ++ l.drop 38 := by
    have e1 := List.take_append_drop 2 l
    have e2 := List.take_append_drop 18 (l.drop 2)
    have e3 := List.take_append_drop 18 (l.drop 20)
    rw [List.drop_drop] at e2 e3
    rw [List.drop_zero, List.append_assoc, List.append_assoc, e3, e2, e1]
  have hl : (l.drop 38).length = 1 := by rw [List.length_drop, h]
  obtain ⟨m, hm⟩ := one_cell hl
  exact ⟨m, by rw [← hm]; exact e, by rw [hm]; rfl⟩
set_option maxRecDepth 20000 in
theorem open_dg23 {r : Reach} {b0 : Nat} {v : Value} {d : DataW H} {p : List MemPlace} (hv : Value.okWide Try.prog w r b0 33 v) (h : DataW.Trod enc Try.prog w base spare held 33 v d p) (hz : ∀ k ∈ d.weights Try.prog 33, k ≤ reachBytes) :
    ∃ q : Dg, DgV w q v ∧ DgOk q := by
  obtain ⟨cs, rfl, hsz⟩ := okWide_struct Try.underlying33 hv
  rw [cellsDg] at hsz
  obtain ⟨l⟩ := cs
  replace hsz : l.length = 39 := hsz
  obtain ⟨fuel, hf⟩ := h
  obtain ⟨y0, y1, y2, y3, n, hx, _, f0, f1, f2, f3⟩ := Go.Joins.trod_struct4 Try.underlying33 hf
  simp only [Prod.mk.injEq] at hx
  replace f0 : DataW.trod enc Try.prog w base spare held n 24 ((l.drop 0).take (Try.prog.cellsOf 24)) = some y0 := f0
  replace f1 : DataW.trod enc Try.prog w base spare held n 30 ((l.drop 2).take (Try.prog.cellsOf 30)) = some y1 := f1
  replace f2 : DataW.trod enc Try.prog w base spare held n 30 ((l.drop 20).take (Try.prog.cellsOf 30)) = some y2 := f2
  replace f3 : DataW.trod enc Try.prog w base spare held n 31 ((l.drop 38).take (Try.prog.cellsOf 31)) = some y3 := f3
  rw [cellsWd] at f0
  rw [cellsEn] at f1 f2
  rw [show Try.prog.cellsOf 31 = 1 by kernel_rfl] at f3
  obtain ⟨m, e, em⟩ := split39 hsz
  rw [em] at f3
  have hw : ∀ k ∈ DataW.weightsEach Try.prog [24, 30, 30, 31] [y0.1, y1.1, y2.1, y3.1], k ≤ reachBytes := fun k hk => hz k (by
    rw [hx.1, DataW.weights, Try.underlying33]
    exact hk)
  rw [DataW.weightsEach, DataW.weightsEach, DataW.weightsEach, DataW.weightsEach] at hw
  obtain ⟨A, bs, cp, rfl, hB⟩ := open_bytes21 f3 (fun k hk => hw k (List.mem_append_right _ (List.mem_append_right _ (List.mem_append_right _ (List.mem_append_left _ hk)))))
  have k0 := flat_trod fl_wide f0
  have k1 := flat_trod fl_ends f1
  have k2 := flat_trod fl_ends f2
  refine ⟨⟨((l.drop 0).take 2).toArray, ((l.drop 2).take 18).toArray, ((l.drop 20).take 18).toArray, bs⟩, ⟨A, cp, ?_, hB⟩, k0, k1, k2⟩
  congr 1
  unfold dgC
  simp only [List.append_toArray, ← e]
end
end Go.Proofs.Ytofbhkodnijkjaa
