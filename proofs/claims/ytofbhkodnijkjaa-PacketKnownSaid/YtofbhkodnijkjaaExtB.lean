/- Fields in memory; ext.same; slices.EqualFunc of fields. -/
import Derived.Test.YtofbhkodnijkjaaByteC
namespace Go.Proofs.Ytofbhkodnijkjaa
open Go.RowKit

structure Fld where
  kind : Int
  val : List Int
  deriving DecidableEq
/-- a slice of fields -/
structure ExtS (W : World) (A : Option Addr) (cap : Nat) (l : List Fld) : Prop where
  le : l.length ≤ cap
  lim : l.length ≤ 4398046511104
  nil : A = none → cap = 0
  at_ : l = [] ∨ ∃ g off, A = some ⟨g, off, none⟩ ∧ ∀ i, (h : i < l.length) → W.cell? ⟨g, off + i * 2, none⟩ = some (.int .u16 l[i].kind) ∧ 0 ≤ l[i].kind ∧ l[i].kind ≤ 65535 ∧ ∃ u, W.cell? ⟨g, off + i * 2 + 1, none⟩ = some u ∧ ByteV W u l[i].val
set_option maxRecDepth 20000 in
theorem ExtS.mo {W w : World} {A : Option Addr} {cap : Nat} {l : List Fld} (h : ExtS W A cap l) (k : Mo W w) : ExtS w A cap l := by
  refine ⟨h.le, h.lim, h.nil, ?_⟩
  rcases h.at_ with e | ⟨g, off, rfl, hc⟩
  · exact .inl e
  · refine .inr ⟨g, off, rfl, fun i hi => ?_⟩
    obtain ⟨h1, h2, h3, u, h4, h5⟩ := hc i hi
    have : LtW g W := LtW.of_cell h1
    exact ⟨by rw [k.cell, h1], h2, h3, u, by rw [k.cell, h4], h5.mo k⟩
set_option maxRecDepth 20000 in
theorem ExtS.get {W : World} {A : Option Addr} {cap : Nat} {l : List Fld} (h : ExtS W A cap l) (p : 0 < l.length) : ∃ g off, A = some ⟨g, off, none⟩ ∧ LtW g W ∧ ∀ i, (h : i < l.length) → ∃ a n c, W.cell? ⟨g, off + i * 2, none⟩ = some (.int .u16 l[i].kind) ∧ 0 ≤ l[i].kind ∧ l[i].kind ≤ 65535 ∧ W.cell? ⟨g, off + i * 2 + 1, none⟩ = some (.slice a n c) ∧ l[i].val.length = n ∧ ByteS W a c l[i].val := by
  rcases h.at_ with e | ⟨g, off, rfl, hc⟩
  · rw [e] at p; simp at p
  · refine ⟨g, off, rfl, LtW.of_cell (hc 0 p).1, fun i hi => ?_⟩
    obtain ⟨h1, h2, h3, u, h4, a, c, rfl, h5⟩ := hc i hi
    exact ⟨a, _, c, h1, h2, h3, h4, rfl, h5⟩
/-- a slice value that reads as fields -/
def ExtV (W : World) (v : Value) (l : List Fld) : Prop := ∃ A cap, v = .slice A l.length cap ∧ ExtS W A cap l
set_option maxRecDepth 20000 in
theorem ExtV.mo {W w : World} {v : Value} {l : List Fld} (h : ExtV W v l) (k : Mo W w) : ExtV w v l := by
  obtain ⟨A, cap, e, hb⟩ := h
  exact ⟨A, cap, e, hb.mo k⟩
set_option maxRecDepth 20000 in
theorem extV_nil (W : World) : ExtV W (.slice none 0 0) [] := ⟨none, 0, rfl, by simp, by simp, fun _ => rfl, .inl rfl⟩
set_option maxRecDepth 20000 in
set_option maxHeartbeats 1000000 in
theorem same_any (kx ky : Int) (vx vy : List Int) (A A' : Option Addr) (n n' c c' : Nat) (W : World) (hn : vx.length = n) (hn' : vy.length = n') (h : ByteS W A c vx) (h' : ByteS W A' c' vy) :
    Calls Try.prog 40 #[.agg #[.int .u16 kx, .slice A n c], .agg #[.int .u16 ky, .slice A' n' c']] W fun e w' => e = .returned (.bool (decide ((⟨kx, vx⟩ : Fld) = ⟨ky, vy⟩))) ∧ Mo W w' := by
  obtain ⟨r, hr⟩ : ∃ r : Bool, decide ((⟨kx, vx⟩ : Fld) = ⟨ky, vy⟩) = r := ⟨_, rfl⟩
  rw [hr]
  by_cases e : kx = ky
  · subst e
    have hr2 : decide (vx = vy) = r := by rw [← hr]; congr 1; simp
    have E := Lib.hid (fun w (k : Mo W w) => equalB_any A A' n n' c c' vx vy w hn hn' (h.mo k) (h'.mo k))
    rw [hr2] at E
    clear hr hr2 hn hn' h h'
    go_enter Try.func40, Try.ntmps40
    go_wp2_with fail
    refine (E.out _ Mor.out).mono ?_
    rintro e w1 ⟨rfl, M1⟩
    go_wp2_with fail
    go_ret
    exact ⟨rfl, (Mor.out : Mo W _).trans M1⟩
  · have hf : r = false := by rw [← hr, decide_eq_false_iff_not]; intro x; exact e (by injection x)
    subst hf
    clear hr hn hn' h h'
    have d0 : (kx == ky) = false := by simp [e]
    clear e
    go_enter Try.func40, Try.ntmps40
    go_wp2_with fail
    go_ret
    exact ⟨rfl, Mor.out⟩
set_option maxRecDepth 20000 in
set_option maxHeartbeats 1000000 in
theorem equalF_any (A A' : Option Addr) (n n' cap cap' : Nat) (l l' : List Fld) (W : World) (hn : l.length = n) (hn' : l'.length = n') (h : ExtS W A cap l) (h' : ExtS W A' cap' l') :
    Calls Try.prog 39 #[.slice A n cap, .slice A' n' cap', .func (.func 40) #[] #[]] W fun e w' => e = .returned (.bool (decide (l = l'))) ∧ Mo W w' := by
  have hlim := h.lim
  have hlim' := h'.lim
  rw [hn] at hlim
  rw [hn'] at hlim'
  have HN := Lib.hid hn
  have HN' := Lib.hid hn'
  obtain ⟨r, hr⟩ : ∃ r : Bool, decide (l = l') = r := ⟨_, rfl⟩
  rw [hr]
  have RR := Lib.hid hr
  clear hr
  by_cases c : n = n'
  · subst c
    clear hn hn'
    have HB := Lib.hid h
    have HB' := Lib.hid h'
    clear h h'
    go_enter Try.func39, Try.ntmps39
    go_wp2_with fail
    go_loopw [17] (fun i wr => ∃ k : Nat, k ≤ n ∧ i = .int .i64 k ∧ (l.take k = l'.take k) ∧ Mo W wr) (fun i _ => n - (intOf i).toNat)
    case atStart => exact ⟨0, by omega, rfl, by rw [List.take_zero, List.take_zero], Mor.out⟩
    case round =>
      obtain ⟨k, hk, rfl, ht, hM⟩ := hrel
      have HT := Lib.hid ht
      clear ht
      by_cases ck : k < n
      · obtain ⟨g, off, rfl, LG, hc⟩ := (HB.out.mo hM).get (by rw [HN.out]; omega)
        obtain ⟨g', off', rfl, LG', hc'⟩ := (HB'.out.mo hM).get (by rw [HN'.out]; omega)
        have hk1 : k < l.length := by rw [HN.out]; exact ck
        have hk2 : k < l'.length := by rw [HN'.out]; exact ck
        obtain ⟨xa, xn, xc, a1, a2, a3, a4, a5, a6⟩ := hc k hk1
        obtain ⟨ya, yn, yc, b1, b2, b3, b4, b5, b6⟩ := hc' k hk2
        have t1 : l.take (k + 1) = l.take k ++ [l[k]] := by rw [List.take_add_one, List.getElem?_eq_getElem hk1]; rfl
        have t2 : l'.take (k + 1) = l'.take k ++ [l'[k]] := by rw [List.take_add_one, List.getElem?_eq_getElem hk2]; rfl
        have hne : l[k] ≠ l'[k] → ¬ l = l' := fun hne e => hne (by subst e; rfl)
        have T1 := Lib.hid t1
        have T2 := Lib.hid t2
        have NE := Lib.hid hne
        clear hc hc' t1 t2 hne
        have i0 : (0 : Int) ≤ k := by omega
        have i1 : (k : Int) < n := by omega
        generalize l[k] = x at *
        generalize l'[k] = y at *
        obtain ⟨xk, xv⟩ := x
        obtain ⟨yk, yv⟩ := y
        simp only at a1 a2 a3 a5 a6 b1 b2 b3 b5 b6
        have E := Lib.hid (fun w (k : Mo wr w) => same_any xk yk xv yv xa ya xn yn xc yc w a5 b5 (a6.mo k) (b6.mo k))
        clear a5 a6 b5 b6
        by_cases e : (⟨xk, xv⟩ : Fld) = ⟨yk, yv⟩
        · rw [decide_eq_true e] at E
          have EE := Lib.hid e
          clear NE e
          go_wp2_with fail
          refine (E.out _ Mor.out).mono ?_
          rintro e w1 ⟨rfl, M1⟩
          go_wp2_with fail
          go_roundw
          case rel => exact ⟨k + 1, by omega, by go_num, by rw [T1.out, T2.out, HT.out, EE.out], (hM.trans Mor.out).trans M1⟩
          case measure => simp [intOf]; omega
        · have ne := NE.out e
          have ND := Lib.hid (decide_eq_false ne)
          rw [decide_eq_false e] at E
          clear NE ne e
          go_wp2_with fail
          refine (E.out _ Mor.out).mono ?_
          rintro e w1 ⟨rfl, M1⟩
          go_wp2_with fail
          go_ret
          exact ⟨by rw [← RR.out, ND.out]; rfl, (hM.trans Mor.out).trans M1⟩
      · have hkn : k = n := by omega
        subst hkn
        have e : l = l' := by
          have := HT.out
          rwa [List.take_of_length_le (by rw [HN.out]; omega), List.take_of_length_le (by rw [HN'.out]; omega)] at this
        have ND := Lib.hid (decide_eq_true e)
        clear e
        go_wp2_with fail
        go_ret
        exact ⟨by rw [← RR.out, ND.out]; rfl, hM⟩
  · have ne : ¬ l = l' := fun e => c (by rw [← hn, ← hn', e])
    have ND := Lib.hid (decide_eq_false ne)
    clear ne hn hn' h h'
    have d0 : ((n : Int) != n') = true := by simp; omega
    go_enter Try.func39, Try.ntmps39
    go_wp2_with fail
    go_ret
    exact ⟨by rw [← RR.out, ND.out]; rfl, Mor.out⟩
end Go.Proofs.Ytofbhkodnijkjaa
