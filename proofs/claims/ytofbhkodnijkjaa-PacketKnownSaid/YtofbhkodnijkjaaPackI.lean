/- packet.Put: the bytes of a packet. -/
import Derived.Test.YtofbhkodnijkjaaPackD
import Derived.Test.YtofbhkodnijkjaaConcB
import Derived.Test.YtofbhkodnijkjaaExtK
import Derived.Test.YtofbhkodnijkjaaPackW
import Derived.Test.YtofbhkodnijkjaaExtM
namespace Go.Proofs.Ytofbhkodnijkjaa
open Go.RowKit

/-- a packet's bytes, or an error's number -/
def putP (p : Pk) : List Int × Int := if mayH p.h = true then (if (putM p.e p.m).2 = 0 then (hdB p.h ++ (putM p.e p.m).1, 0) else ([], (putM p.e p.m).2)) else ([], 2)
set_option maxRecDepth 20000 in
theorem putM_len {l : List Fld} {mac : List Int} (h : l.length ≤ 32 → totM l + mac.length ≤ 4000000) : (putM l mac).1.length ≤ 4000000 := by
  unfold putM
  by_cases c : 32 < l.length
  · rw [if_pos c]; simp
  · rw [if_neg c]
    have := h (by omega)
    split
    · simp
    · split
      · simp
      · rw [List.length_append, encM_len]; omega
set_option maxRecDepth 20000 in
theorem extPut_any (A A' : Option Addr) (cap cap' : Nat) (l : List Fld) (mac : List Int) (W : World) (h : ExtS W A cap l) (h' : ByteS W A' cap' mac) (ht : l.length ≤ 32 → totM l + mac.length ≤ 4000000) :
    Calls Try.prog 27 #[.slice A l.length cap, .slice A' mac.length cap'] W (PutRet (putM l mac) W) := by
  by_cases c : l.length ≤ 32
  · exact put_wide A A' _ _ cap cap' l mac W rfl rfl h h' c (ht c)
  · exact put_long A A' _ _ cap cap' l mac W rfl (by omega) (by have := h.lim; omega)
set_option maxRecDepth 20000 in
theorem refExtPut_any (A A' : Option Addr) (cap cap' : Nat) (l : List Fld) (mac : List Int) (W : World) (h : ExtS W A cap l) (h' : ByteS W A' cap' mac) (ht : l.length ≤ 32 → totM l + mac.length ≤ 100000) :
    Calls Try.prog 29 #[.slice A l.length cap, .slice A' mac.length cap'] W (PutRet (putM l mac) W) := by
  rw [← refPut_eq l mac h.ok h'.byte]
  by_cases c : l.length ≤ 32
  · exact refPut_any A A' _ _ cap cap' l mac W rfl rfl h h' c (ht c)
  · exact refPut_long A A' _ _ cap cap' l mac W rfl (by omega) (by have := h.lim; omega)
attribute [local go_sem] blk_cell' blk_frozen'
set_option maxRecDepth 20000 in
set_option maxHeartbeats 8000000 in
theorem pput_any (p : Pk) (v : Value) (W : World) (hv : PkV W p v) (ok : HdOk p.h) (ht : p.e.length ≤ 32 → totM p.e + p.m.length ≤ 4000000) :
    Calls Try.prog 19 #[v] W (PutRet (putP p) W) := by
  have hl := putM_len ht
  obtain ⟨a1, c1, a2, c2, rfl, x1, x2⟩ := hv
  obtain ⟨r, hr⟩ : ∃ r, putP p = r := ⟨_, rfl⟩
  rw [hr]
  unfold putP at hr
  obtain ⟨R, hR⟩ : ∃ R, PutRet r W = R := ⟨_, rfl⟩
  rw [hR]
  have RR := Lib.hid hR
  clear hR
  obtain ⟨ph, pe, pm⟩ := p
  simp only at ok ht x1 x2 hr hl ⊢
  have HP := Lib.hid (hput_any ph ok)
  have EP := Lib.hid (fun w (M : Mo W w) => extPut_any a1 a2 c1 c2 pe pm w (x1.mo M) (x2.mo M) ht)
  clear x1 x2 ht ok
  generalize pe.length = n1 at *
  generalize pm.length = n2 at *
  obtain ⟨rp, hrp⟩ : ∃ rp, putM pe pm = rp := ⟨_, rfl⟩
  rw [hrp] at hr EP hl
  clear hrp
  by_cases may : mayH ph = true
  · rw [if_pos may] at hr
    go_enter Try.func19, Try.ntmps19
    go_wp2_with fail
    refine (HP.out _).mono ?_
    rintro e w1 ⟨v1, rfl, B1, M1⟩
    have B0 : Blk w1 W.heap.size 42 (pkL ph (.slice a1 n1 c1) (.slice a2 n2 c2)).toArray := M1.blk inferInstance
    have M1' := (Mor.out : Mo W _).trans M1
    rw [if_pos may] at B1 ⊢
    obtain ⟨b1, d1, rfl, s1⟩ := B1
    have S1 := Lib.hid s1
    rw [hdB_len]
    clear M1 s1 may
    go_wp2_with fail
    refine (EP.out _ M1').mono ?_
    rintro e w2 ⟨v2, rfl, B2, M2⟩
    obtain ⟨rb, rc⟩ := rp
    simp only at B2 hr hl ⊢
    obtain ⟨b2, d2, rfl, s2⟩ := B2
    have S1' := Lib.hid (S1.out.mo M2)
    have M2' := M1'.trans M2
    have S2 := Lib.hid s2
    clear M2 s2 S1
    generalize hrl : rb.length = m at *
    have HM := Lib.hid hrl
    clear hrl
    by_cases c0 : rc = 0
    · subst c0
      rw [if_pos rfl] at hr
      have HR := Lib.hid hr
      clear hr
      go_wp2_with fail
      refine (concatB_any w2.heap.size 48 m d1 d2 b1 b2 (hdB ph) rb _ inferInstance (hdB_len ph) HM.out (S1'.out.mo Mor.out) (S2.out.mo Mor.out) (by omega)).mono ?_
      rintro e w3 ⟨v3, rfl, B3, M3⟩
      go_wp2_with fail
      try go_ret
      rw [← RR.out, ← HR.out]
      exact ⟨_, rfl, B3, M2'.trans ((Mor.out : Mo w2 _).trans M3)⟩
    · have d0 : (rc != 0) = true := by simp [c0]
      rw [if_neg c0] at hr
      have HR := Lib.hid hr
      clear hr c0
      go_wp2_with fail
      try go_ret
      rw [← RR.out, ← HR.out]
      exact ⟨_, rfl, byteV_nil _, M2'⟩
  · rw [if_neg may] at hr
    have HR := Lib.hid hr
    clear hr
    go_enter Try.func19, Try.ntmps19
    go_wp2_with fail
    refine (HP.out _).mono ?_
    rintro e w1 ⟨v1, rfl, B1, M1⟩
    have M1' := (Mor.out : Mo W _).trans M1
    rw [if_neg may] at B1 ⊢
    clear M1 B1 may
    go_wp2_with fail
    try go_ret
    rw [← RR.out, ← HR.out]
    exact ⟨_, rfl, byteV_nil _, M1'⟩
end Go.Proofs.Ytofbhkodnijkjaa
