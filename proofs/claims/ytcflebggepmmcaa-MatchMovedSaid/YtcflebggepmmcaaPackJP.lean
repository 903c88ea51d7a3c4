/- horologeref23.Put once more: its bytes are a row of the call's own (printed out of XPackJO). -/
import Derived.Test.YtcflebggepmmcaaPackT
import Derived.Test.YtcflebggepmmcaaHeadT
import Derived.Test.YtcflebggepmmcaaExtT
namespace Go.Proofs.Ytcflebggepmmcaa
open Go.RowKit

def PutRowR (r : List Int × Int) (W : World) (e : Ending) (w' : World) : Prop := ∃ v, e = .returned (.tuple #[v, .int .i64 r.2]) ∧ w'.ownsRow W.heap.size 5 1 v r.1.length (byteL r.1) ∧ (r.1.length ≤ 140737488355328 ∧ ∀ c ∈ r.1, 0 ≤ c ∧ c ≤ 255) ∧ Mo W w'
set_option maxRecDepth 20000 in
theorem owns_baseJ {w : World} {b b' : Nat} {e : TypeId} {size : Nat} {v : Value} {n : Nat} {xs : List Value} (h : w.ownsRow b e size v n xs) (hb : b' ≤ b) : w.ownsRow b' e size v n xs := by
  refine ⟨h.1, ?_⟩
  rcases h.2 with hn | ⟨g, cap, cur, rfl, h2, rest⟩
  · exact .inl hn
  · exact .inr ⟨g, cap, cur, rfl, Nat.le_trans hb h2, rest⟩

attribute [local go_sem] blk_cell' blk_frozen'
attribute [local go_sem ↓] app_fold
set_option maxRecDepth 20000 in
set_option maxHeartbeats 8000000 in
theorem rput_row (p : Pk) (v : Value) (W : World) (hv : PkV W p v) (ok : HdOk p.h) (ht : p.e.length ≤ 32 → totM p.e + p.m.length ≤ 100000) :
    Calls Try.prog 19 #[v] W (PutRowR (putP p) W) := by
  have hl := putM_len (fun c => Nat.le_trans (ht c) (by omega))
  obtain ⟨a1, c1, a2, c2, rfl, x1, x2⟩ := hv
  obtain ⟨r, hr⟩ : ∃ r, putP p = r := ⟨_, rfl⟩
  rw [hr]
  unfold putP at hr
  obtain ⟨R, hR⟩ : ∃ R, PutRowR r W = R := ⟨_, rfl⟩
  rw [hR]
  have RR := Lib.hid hR
  clear hR
  obtain ⟨ph, pe, pm⟩ := p
  simp only at ok ht x1 x2 hr hl ⊢
  have OK := Lib.hid ok
  have EP := Lib.hid (fun w (M : Mo W w) => refExtPut_any a1 a2 c1 c2 pe pm w (x1.mo M) (x2.mo M) ht)
  clear x1 x2 ht ok
  generalize pe.length = n1 at *
  generalize pm.length = n2 at *
  obtain ⟨rp, hrp⟩ : ∃ rp, putM pe pm = rp := ⟨_, rfl⟩
  rw [hrp] at hr EP hl
  clear hrp
  by_cases may : mayH ph = true
  · have MAY := Lib.hid may
    rw [if_pos may] at hr
    go_enter Try.func19, Try.ntmps19
    go_wp2_with fail
    refine (refMay_any ph _).mono ?_
    rintro e w1 ⟨rfl, M1⟩
    have B0 : Blk w1 W.heap.size 66 (pkL ph (.slice a1 n1 c1) (.slice a2 n2 c2)).toArray := M1.blk inferInstance
    have M1' := (Mor.out : Mo W _).trans M1
    rw [may]
    clear M1 may
    go_wp2_with fail
    refine (EP.out _ M1').mono ?_
    rintro e w2 ⟨v2, rfl, B2, M2⟩
    have B0' : Blk w2 W.heap.size 66 (pkL ph (.slice a1 n1 c1) (.slice a2 n2 c2)).toArray := M2.blk inferInstance
    obtain ⟨rb, rc⟩ := rp
    simp only at B2 hr hl ⊢
    obtain ⟨b2, d2, rfl, s2⟩ := B2
    have M2' := M1'.trans M2
    have S2 := Lib.hid s2
    clear M2 s2 B0
    generalize hrl : rb.length = m at *
    have HM := Lib.hid hrl
    clear hrl
    by_cases c0 : rc = 0
    · subst c0
      rw [if_pos rfl] at hr
      have HR := Lib.hid hr
      clear hr
      go_wp2_with fail
      refine (refPut20_any ph OK.out MAY.out _).mono ?_
      rintro e w3 ⟨v3, rfl, OW, M3⟩
      have S3 := Lib.hid (S2.out.mo M3)
      have M3' := M2'.trans M3
      have SZ := M3.size
      have OWH := Lib.hid OW
      clear M3 OW
      go_wp2_with (at_builtin; refine wpList_append_bytes rfl _ _ rfl w2.heap.size _ _ _ rfl OWH.out _ _ _ _ HM.out rfl S3.out ?c1 ?c2 ?_)
      case c1 => omega
      case c2 => exact SZ
      intro v' w4 hown hgrow
      have hM : Mo W w4 := mo_grown M3' hgrow (by
        intro k hk
        have := OWH.out
        obtain ⟨-, h2⟩ := this
        have := M2'.size
        rcases h2 with ⟨e, -⟩ | ⟨g, cap, cur, e, hb, -⟩
        · rw [e] at hk; simp [Value.ownBlock] at hk
        · rw [e] at hk; simp [Value.ownBlock] at hk; omega)
      have HO := Lib.hid hown
      clear hown hgrow
      go_wp2_with fail
      try go_ret
      rw [← RR.out, ← HR.out]
      have h1 := HO.out
      have h2 : byteL (hdB ph) ++ byteL rb = byteL (hdB ph ++ rb) := by simp [byteL]
      rw [h2] at h1
      have hlen : 48 + m = (hdB ph ++ rb).length := by rw [List.length_append, hdB_len, HM.out]
      rw [hlen] at h1
      refine ⟨_, rfl, owns_baseJ h1 M2'.size, ⟨?_, ?_⟩, hM⟩
      · rw [← hlen]; omega
      · intro c hc
        rcases List.mem_append.1 hc with h | h
        · exact hdB_byte ph OK.out MAY.out c h
        · exact S2.out.byte c h
    · have d0 : (rc != 0) = true := by simp [c0]
      rw [if_neg c0] at hr
      have HR := Lib.hid hr
      clear hr c0
      go_wp2_with fail
      try go_ret
      rw [← RR.out, ← HR.out]
      exact ⟨_, rfl, World.ownsRow_nil _ _ _ _, ⟨by simp, fun c hc => (by cases hc)⟩, M2'⟩
  · have may' : mayH ph = false := by simpa using may
    rw [if_neg may] at hr
    have HR := Lib.hid hr
    clear hr
    go_enter Try.func19, Try.ntmps19
    go_wp2_with fail
    refine (refMay_any ph _).mono ?_
    rintro e w1 ⟨rfl, M1⟩
    have M1' := (Mor.out : Mo W _).trans M1
    rw [may']
    clear M1 may may'
    go_wp2_with fail
    try go_ret
    rw [← RR.out, ← HR.out]
    exact ⟨_, rfl, World.ownsRow_nil _ _ _ _, ⟨by simp, fun c hc => (by cases hc)⟩, M1'⟩
end Go.Proofs.Ytcflebggepmmcaa
