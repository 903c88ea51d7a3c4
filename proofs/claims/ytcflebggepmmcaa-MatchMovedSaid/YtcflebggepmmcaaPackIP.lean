/- packet.Put once more: its bytes are a row of the call's own (printed by gen/genpackip.py out of XConcB and XPackI). -/
import Derived.Test.YtcflebggepmmcaaPackT
import Derived.Test.YtcflebggepmmcaaPackJP
namespace Go.Proofs.Ytcflebggepmmcaa
open Go.RowKit

attribute [local go_sem] blk_cell' blk_frozen'
set_option maxRecDepth 20000 in
set_option maxHeartbeats 4000000 in
theorem concatB_row (g n1 n2 c1 c2 : Nat) (A1 A2 : Option Addr) (b1 b2 : List Int) (W : World) (hB : Blk W g 39 #[.slice A1 n1 c1, .slice A2 n2 c2]) (e1 : b1.length = n1) (e2 : b2.length = n2) (h1 : ByteS W A1 c1 b1) (h2 : ByteS W A2 c2 b2) (hn : n1 + n2 ≤ 5000000) :
    Calls Try.prog 86 #[.slice (some ⟨g, 0, none⟩) 2 2] W fun e w' => ∃ v, e = .returned v ∧ w'.ownsRow W.heap.size 5 1 v (n1 + n2) (byteL (b1 ++ b2)) ∧ (∀ c ∈ b1 ++ b2, 0 ≤ c ∧ c ≤ 255) ∧ Mo W w' := by
  have E1 := Lib.hid e1
  have E2 := Lib.hid e2
  have H1 := Lib.hid h1
  have H2 := Lib.hid h2
  clear e1 e2 h1 h2
  go_enter Try.func86, Try.ntmps86
  go_wp2_with fail
  refine wp_loop_rounds 3 ?_
  rw [rounds_succ]
  go_wp2_with fail
  rw [rounds_succ]
  go_wp2_with fail
  rw [rounds_succ]
  go_wp2_with fail
  refine (growB_any (n1 + n2) _ hn).mono ?_
  rintro e w1 ⟨v1, rfl, O1, M1⟩
  have B1 := M1.blk hB
  go_wp2_with fail
  refine wp_loop_rounds 3 ?_
  rw [rounds_succ]
  have HO1 := Lib.hid O1
  clear O1
  go_wp2_with (at_builtin; refine wpList_append_bytes rfl _ _ rfl W.heap.size _ _ _ rfl HO1.out _ _ _ _ E1.out rfl (H1.out.mo M1) ?c1 M1.size ?_)
  case c1 => omega
  intro v2 w2 O2 G2
  have M2 : Mo W w2 := mo_grown M1 G2 (fun j e => (HO1.out.lt j e).1)
  have B2 := M2.blk hB
  have HO2 := Lib.hid O2
  clear G2 O2 B1
  go_wp2_with fail
  rw [rounds_succ]
  go_wp2_with (at_builtin; refine wpList_append_bytes rfl _ _ rfl W.heap.size _ _ _ rfl HO2.out _ _ _ _ E2.out rfl (H2.out.mo M2) ?c2 M2.size ?_)
  case c2 => omega
  intro v3 w3 O3 G3
  have M3 : Mo W w3 := mo_grown M2 G3 (fun j e => (HO2.out.lt j e).1)
  have B3 := M3.blk hB
  have HO3 := Lib.hid O3
  clear G3 O3 B2
  go_wp2_with fail
  rw [rounds_succ]
  go_wp2_with fail
  go_ret
  refine ⟨_, rfl, (by have := HO3.out; unfold byteL at this ⊢; rw [List.map_append]; simpa using this), ?_, M3⟩
  intro c hc
  rcases List.mem_append.1 hc with h | h
  · exact H1.out.byte c h
  · exact H2.out.byte c h
set_option maxRecDepth 20000 in
set_option maxHeartbeats 8000000 in
theorem pput_row (p : Pk) (v : Value) (W : World) (hv : PkV W p v) (ok : HdOk p.h) (ht : p.e.length ≤ 32 → totM p.e + p.m.length ≤ 4000000) :
    Calls Try.prog 51 #[v] W (PutRowR (putP p) W) := by
  have hl := putM_len ht
  obtain ⟨a1, c1, a2, c2, rfl, x1, x2⟩ := hv
  obtain ⟨r, hr⟩ : ∃ r, putP p = r := ⟨_, rfl⟩
  rw [hr]
  unfold putP at hr
  obtain ⟨R, hR⟩ : ∃ R, PutRowR r W = R := ⟨_, rfl⟩
  rw [hR]
  have RR := Lib.hid hR
  clear hR
  obtain ⟨ph, pe, pm⟩ := p
  simp only at ok ht x1 x2 hr hl ⊢
  have HP := Lib.hid (hput_any ph ok)
  have EP := Lib.hid (fun w (M : Mo W w) => extPut_any a1 a2 c1 c2 pe pm w (x1.mo M) (x2.mo M) ht)
  clear x1 x2 ht ok
  generalize pe.length = n1 at *
  generalize pm.length = n2 at *
  obtain ⟨rp, hrp⟩ : ∃ rp, putM pe pm = rp := ⟨_, rfl⟩
  rw [hrp] at hr EP hl
  clear hrp
  by_cases may : mayH ph = true
  · rw [if_pos may] at hr
    go_enter Try.func51, Try.ntmps51
    go_wp2_with fail
    refine (HP.out _).mono ?_
    rintro e w1 ⟨v1, rfl, B1, M1⟩
    have B0 : Blk w1 W.heap.size 66 (pkL ph (.slice a1 n1 c1) (.slice a2 n2 c2)).toArray := M1.blk inferInstance
    have M1' := (Mor.out : Mo W _).trans M1
    rw [if_pos may] at B1 ⊢
    obtain ⟨b1, d1, rfl, s1⟩ := B1
    have S1 := Lib.hid s1
    rw [hdB_len]
    clear M1 s1 may
    go_wp2_with fail
    refine (EP.out _ M1').mono ?_
    rintro e w2 ⟨v2, rfl, B2, M2⟩
    obtain ⟨rb, rc⟩ := rp
    simp only at B2 hr hl ⊢
    obtain ⟨b2, d2, rfl, s2⟩ := B2
    have S1' := Lib.hid (S1.out.mo M2)
    have M2' := M1'.trans M2
    have S2 := Lib.hid s2
    clear M2 s2 S1
    generalize hrl : rb.length = m at *
    have HM := Lib.hid hrl
    clear hrl
    by_cases c0 : rc = 0
    · subst c0
      rw [if_pos rfl] at hr
      have HR := Lib.hid hr
      clear hr
      go_wp2_with fail
      refine (concatB_row w2.heap.size 48 m d1 d2 b1 b2 (hdB ph) rb _ inferInstance (hdB_len ph) HM.out (S1'.out.mo Mor.out) (S2.out.mo Mor.out) (by omega)).mono ?_
      rintro e w3 ⟨v3, rfl, B3, BY, M3⟩
      go_wp2_with fail
      try go_ret
      rw [← RR.out, ← HR.out]
      have hlen : 48 + m = (hdB ph ++ rb).length := by rw [List.length_append, hdB_len, HM.out]
      rw [hlen] at B3
      exact ⟨_, rfl, owns_baseJ B3 (M2'.trans (Mor.out : Mo w2 _)).size, ⟨by rw [← hlen]; omega, BY⟩, M2'.trans ((Mor.out : Mo w2 _).trans M3)⟩
    · have d0 : (rc != 0) = true := by simp [c0]
      rw [if_neg c0] at hr
      have HR := Lib.hid hr
      clear hr c0
      go_wp2_with fail
      try go_ret
      rw [← RR.out, ← HR.out]
      exact ⟨_, rfl, World.ownsRow_nil _ _ _ _, ⟨by simp, fun c hc => (by cases hc)⟩, M2'⟩
  · rw [if_neg may] at hr
    have HR := Lib.hid hr
    clear hr
    go_enter Try.func51, Try.ntmps51
    go_wp2_with fail
    refine (HP.out _).mono ?_
    rintro e w1 ⟨v1, rfl, B1, M1⟩
    have M1' := (Mor.out : Mo W _).trans M1
    rw [if_neg may] at B1 ⊢
    clear M1 B1 may
    go_wp2_with fail
    try go_ret
    rw [← RR.out, ← HR.out]
    exact ⟨_, rfl, World.ownsRow_nil _ _ _ _, ⟨by simp, fun c hc => (by cases hc)⟩, M1'⟩
end Go.Proofs.Ytcflebggepmmcaa
