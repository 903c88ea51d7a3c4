/- Bytes as strings; horologeref21.Same. -/
import Derived.Test.YtofbhkodnijkjaaExtB
import Derived.Laws.BytesArg
namespace Go.Proofs.Ytofbhkodnijkjaa
open Go.RowKit

set_option maxRecDepth 20000 in
theorem strOf_inj {xs ys : List Int} (hx : ∀ c ∈ xs, 0 ≤ c ∧ c ≤ 255) (hy : ∀ c ∈ ys, 0 ≤ c ∧ c ≤ 255) (h : strOfNums xs = strOfNums ys) : xs = ys := by
  have h1 : xs.map (fun n => UInt8.ofNat n.toNat) = ys.map fun n => UInt8.ofNat n.toNat := by
    have := congrArg (fun s : ByteArray => s.data.toList) h
    simpa [strOfNums_data] using this
  induction xs generalizing ys with
  | nil => cases ys with
    | nil => rfl
    | cons y ys => simp at h1
  | cons x xs ih => cases ys with
    | nil => simp at h1
    | cons y ys =>
      simp only [List.map_cons, List.cons.injEq] at h1
      obtain ⟨e1, e2⟩ := h1
      have bx := hx x (by simp)
      have b2 := hy y (by simp)
      have exy : x = y := by
        have := congrArg UInt8.toNat e1
        rw [UInt8.toNat_ofNat', UInt8.toNat_ofNat', Nat.mod_eq_of_lt (by omega), Nat.mod_eq_of_lt (by omega)] at this
        omega
      rw [exy, ih (fun c hc => hx c (by simp [hc])) (fun c hc => hy c (by simp [hc])) (by
        unfold strOfNums
        rw [e2]) e2]
set_option maxRecDepth 20000 in
theorem strOf_eq {xs ys : List Int} (hx : ∀ c ∈ xs, 0 ≤ c ∧ c ≤ 255) (hy : ∀ c ∈ ys, 0 ≤ c ∧ c ≤ 255) : ((strOfNums xs).toList == (strOfNums ys).toList) = decide (xs = ys) := by
  by_cases e : xs = ys
  · subst e; simp
  · rw [decide_eq_false e]
    have : ¬ (strOfNums xs).toList = (strOfNums ys).toList := fun h => e (strOf_inj hx hy (by
      rw [ByteArray.toList_eq, ByteArray.toList_eq] at h
      have h' : (strOfNums xs).data = (strOfNums ys).data := Array.toList_inj.1 h
      generalize strOfNums xs = u at h' ⊢
      generalize strOfNums ys = v at h' ⊢
      cases u; cases v
      simpa using h'))
    simpa using this
set_option maxRecDepth 20000 in
/-- string(b) -/
theorem str_conv {W : World} {A : Option Addr} {n cap : Nat} {bs : List Int} (h : ByteS W A cap bs) (hn : bs.length = n) : (convert 31 9 (.slice A n cap)).run Try.prog W = .ok (.string (strOfNums bs)) W := by
  cases A with
  | none =>
    have hc := h.nil rfl
    have hle := h.le
    obtain rfl : bs = [] := List.eq_nil_of_length_eq_zero (by omega)
    exact run_convert_bytes_nil W _ _ Try.underlying31 Try.underlying5 _ _ _ Try.underlying9
  | some ad =>
    by_cases z : bs = []
    · subst z
      subst hn
      rw [run_convert_bytes_string W _ _ _ _ _ _ Try.underlying31 Try.underlying5 Try.underlying9, run_bytesToString W ad _ cap [] (by simpa using run_loadCells_list (P := Try.prog) W ad [] (fun j v hj => by simp at hj))]
      rfl
    · rcases h.at_ with e | ⟨g, off, e, hc⟩
      · exact absurd e z
      · obtain rfl : ad = ⟨g, off, none⟩ := by simpa using e
        exact run_convert_bytes_arg W _ _ Try.underlying31 Try.underlying5 g off n cap bs hn (fun i hi => by
          have hi' : i < bs.length := by omega
          rw [hc i hi']
          simp [List.getD, hi']) _ Try.underlying9
set_option maxRecDepth 20000 in
set_option maxHeartbeats 2000000 in
theorem refSame_any (A A' : Option Addr) (n n' cap cap' : Nat) (l l' : List Fld) (W : World) (hn : l.length = n) (hn' : l'.length = n') (h : ExtS W A cap l) (h' : ExtS W A' cap' l') :
    Calls Try.prog 25 #[.slice A n cap, .slice A' n' cap'] W fun e w' => e = .returned (.bool (decide (l = l'))) ∧ Mo W w' := by
  have hlim := h.lim
  have hlim' := h'.lim
  rw [hn] at hlim
  rw [hn'] at hlim'
  have HN := Lib.hid hn
  have HN' := Lib.hid hn'
  obtain ⟨r, hr⟩ : ∃ r : Bool, decide (l = l') = r := ⟨_, rfl⟩
  rw [hr]
  have RR := Lib.hid hr
  clear hr
  by_cases c : n = n'
  · subst c
    clear hn hn'
    have HB := Lib.hid h
    have HB' := Lib.hid h'
    clear h h'
    go_enter Try.func25, Try.ntmps25
    go_wp2_with fail
    go_loopw [5, 6] (fun b i wr => ∃ (k : Nat) (q : Bool), k ≤ n ∧ i = .int .i64 k ∧ b = .bool q ∧ decide (l.take k = l'.take k) = q ∧ Mo W wr) (fun b i _ => (n - (intOf i).toNat) )
    case atStart => exact ⟨0, true, by omega, rfl, rfl, by simp, Mor.out⟩
    case round =>
      obtain ⟨k, q, hk, rfl, rfl, ht, hM⟩ := hrel
      have HT := Lib.hid ht
      clear ht
      by_cases ck : k < n
      · cases q with
        | false =>
          have hne : ¬ l = l' := fun e => by have := HT.out; rw [e] at this; simp at this
          have hrf : r = false := by rw [← RR.out]; exact decide_eq_false hne
          subst hrf
          clear hne
          have i1 : (k : Int) < n := by omega
          go_wp2_with fail
          go_ret
          exact ⟨rfl, hM⟩
        | true =>
          obtain ⟨g, off, rfl, LG, hc⟩ := (HB.out.mo hM).get (by rw [HN.out]; omega)
          obtain ⟨g', off', rfl, LG', hc'⟩ := (HB'.out.mo hM).get (by rw [HN'.out]; omega)
          have hk1 : k < l.length := by rw [HN.out]; exact ck
          have hk2 : k < l'.length := by rw [HN'.out]; exact ck
          obtain ⟨xa, xn, xc, a1, a2, a3, a4, a5, a6⟩ := hc k hk1
          obtain ⟨ya, yn, yc, b1, b2, b3, b4, b5, b6⟩ := hc' k hk2
          have t1 : l.take (k + 1) = l.take k ++ [l[k]] := by rw [List.take_add_one, List.getElem?_eq_getElem hk1]; rfl
          have t2 : l'.take (k + 1) = l'.take k ++ [l'[k]] := by rw [List.take_add_one, List.getElem?_eq_getElem hk2]; rfl
          have T1 := Lib.hid t1
          have T2 := Lib.hid t2
          clear hc hc' t1 t2
          have i0 : (0 : Int) ≤ k := by omega
          have i1 : (k : Int) < n := by omega
          generalize l[k] = x at *
          generalize l'[k] = y at *
          obtain ⟨xk, xv⟩ := x
          obtain ⟨yk, yv⟩ := y
          simp only at a1 a2 a3 a5 a6 b1 b2 b3 b5 b6
          have s1 : ∀ j, (convert 31 9 (.slice xa xn xc)).run Try.prog (wr.drewN j) = .ok (.string (strOfNums xv)) (wr.drewN j) := fun j => str_conv (a6.mo Mor.out) a5
          have s2 : ∀ j, (convert 31 9 (.slice ya yn yc)).run Try.prog (wr.drewN j) = .ok (.string (strOfNums yv)) (wr.drewN j) := fun j => str_conv (b6.mo Mor.out) b5
          have se := strOf_eq a6.byte b6.byte
          have ST : Hid (decide (l.take (k + 1) = l'.take (k + 1)) = (decide (xk = yk) && decide (xv = yv))) := Lib.hid (by
            have h0 : l.take k = l'.take k := by simpa using HT.out
            rw [T1.out, T2.out, h0, Bool.eq_iff_iff]
            simp)
          clear a5 a6 b5 b6
          by_cases e : xk = yk
          · subst e
            have d0 : (xk == xk) = true := by simp
            have ST2 : Hid (decide (l.take (k + 1) = l'.take (k + 1)) = decide (xv = yv)) := Lib.hid (by rw [ST.out]; simp)
            clear ST
            obtain ⟨q, hq⟩ : ∃ q : Bool, decide (xv = yv) = q := ⟨_, rfl⟩
            rw [hq] at se
            have SQ := Lib.hid hq
            clear hq
            go_upto_region 5 with (fail)
            go_quiet (fail)
            go_wp2_with fail
            go_roundw
            case rel => exact ⟨k + 1, q, by omega, by go_num, rfl, by rw [ST2.out, SQ.out], hM.trans Mor.out⟩
            case measure => simp [intOf]; omega
          · have d0 : (xk == yk) = false := by simp [e]
            have ST2 : Hid (decide (l.take (k + 1) = l'.take (k + 1)) = false) := Lib.hid (by rw [ST.out]; simp [e])
            clear ST e
            go_upto_region 5 with (fail)
            go_quiet (fail)
            go_wp2_with fail
            go_roundw
            case rel => exact ⟨k + 1, false, by omega, by go_num, rfl, ST2.out, hM.trans Mor.out⟩
            case measure => simp [intOf]; omega
      · have hkn : k = n := by omega
        subst hkn
        have hq : r = q := by
          have := HT.out
          rw [List.take_of_length_le (by rw [HN.out]; omega), List.take_of_length_le (by rw [HN'.out]; omega)] at this
          rw [← RR.out, this]
        subst hq
        cases r
        all_goals
          go_wp2_with fail
          go_ret
          exact ⟨rfl, hM⟩
  · have ne : ¬ l = l' := fun e => c (by rw [← hn, ← hn', e])
    have hrf : r = false := by rw [← RR.out]; exact decide_eq_false ne
    subst hrf
    clear ne hn hn' h h'
    have d0 : ((n : Int) == n') = false := by simp; omega
    go_enter Try.func25, Try.ntmps25
    go_wp2_with fail
    refine wp_loop_rounds 1 ?_
    rw [rounds_succ]
    by_cases z : 0 < n
    all_goals
      go_wp2_with fail
      go_ret
      exact ⟨rfl, Mor.out⟩
end Go.Proofs.Ytofbhkodnijkjaa
