/- horologelaw35.EpochPuts: the maker and the reference's, put by put. -/
import Derived.Test.YtdgmcgfkammioaaEpE
import Derived.Test.YtdgmcgfkammioaaEpY
import Derived.Test.YtdgmcgfkammioaaEpA
namespace Go.Proofs.Ytdgmcgfkammioaa
open Go.RowKit Go.Maps

/-- the maker that has kept these samples -/
noncomputable def mkR (wd : Int) (sv : Nat) (L : List RS) : MkS := if L = [] then mk0 wd sv else ⟨wd, sv, true, lastN wd L, bestL (flS wd (lastN wd L) L)⟩
def Rises (wd : Int) (L : List RS) : Prop := ∀ x ∈ L, nOf wd x.at_ ≤ lastN wd L
set_option maxRecDepth 20000 in
theorem lastN_snoc (wd : Int) (L : List RS) (x : RS) : lastN wd (L ++ [x]) = nOf wd x.at_ := by
  unfold lastN
  rw [List.getLast?_append]
  rfl
set_option maxRecDepth 20000 in
theorem rises_nil (wd : Int) : Rises wd [] := fun x h => by cases h
set_option maxRecDepth 20000 in
theorem rises_snoc {wd : Int} {L : List RS} {x : RS} (h : Rises wd L) (c : L ≠ [] → lastN wd L ≤ nOf wd x.at_) : Rises wd (L ++ [x]) := fun y hy => by
  rw [lastN_snoc]
  rcases List.mem_append.1 hy with hy | hy
  · have h1 := h y hy
    have h2 := c (List.ne_nil_of_mem hy)
    omega
  · rw [List.mem_singleton] at hy
    rw [hy]
    exact Int.le_refl _
set_option maxRecDepth 20000 in
theorem flS_above {wd n : Int} {L : List RS} (h : Rises wd L) (c : L ≠ [] → lastN wd L < n) : flS wd n L = [] := by
  unfold flS
  rw [List.map_eq_nil_iff, List.filter_eq_nil_iff]
  intro x hx
  have h1 := h x hx
  have h2 := c (List.ne_nil_of_mem hx)
  simp
  omega
set_option maxRecDepth 20000 in
theorem mkR_sv (wd : Int) (sv : Nat) (L : List RS) : (mkR wd sv L).sv = sv := by unfold mkR; split <;> rfl
set_option maxRecDepth 20000 in
theorem mkR_wd (wd : Int) (sv : Nat) (L : List RS) : (mkR wd sv L).wd = wd := by unfold mkR; split <;> rfl
set_option maxRecDepth 20000 in
theorem snoc_ne {α : Type} (L : List α) (x : α) : L ++ [x] ≠ [] := by simp
set_option maxRecDepth 20000 in
theorem mkR_first (wd : Int) (sv : Nat) (x : RS) : mkR wd sv ([] ++ [x]) = { mkR wd sv [] with some := true, num := nOf wd x.at_, f := bestPut (mkR wd sv []).f x.s.toNat x.o x.d } := by
  unfold mkR
  rw [if_neg (snoc_ne _ _), if_pos rfl, lastN_snoc, flS_snoc, if_pos rfl]
  rfl
set_option maxRecDepth 20000 in
theorem mkR_same {wd : Int} {sv : Nat} {L : List RS} {x : RS} (h : L ≠ []) (c : nOf wd x.at_ = lastN wd L) : mkR wd sv (L ++ [x]) = { mkR wd sv L with some := true, num := nOf wd x.at_, f := bestPut (mkR wd sv L).f x.s.toNat x.o x.d } := by
  unfold mkR
  rw [if_neg (snoc_ne _ _), if_neg h, lastN_snoc, flS_snoc, if_pos rfl, bestL_snoc]
  simp only
  rw [← c]
  rfl
set_option maxRecDepth 20000 in
theorem mkR_next {wd : Int} {sv : Nat} {L : List RS} {x : RS} (hr : Rises wd L) (h : L ≠ []) (c : lastN wd L < nOf wd x.at_) : mkR wd sv (L ++ [x]) = { mkR wd sv L with some := true, num := nOf wd x.at_, f := bestPut b0F x.s.toNat x.o x.d } := by
  unfold mkR
  rw [if_neg (snoc_ne _ _), if_neg h, lastN_snoc, flS_snoc, if_pos rfl, flS_above hr fun _ => c]
  rfl
abbrev epC (E : Ep) (A : Option Addr) (c : Nat) (D : Option Addr) (d : Nat) : Array Value := #[.int .i64 E.num, .slice A E.srv.length c, .bool E.maj, .int .i64 E.lo, .int .i64 E.hi, .int .i64 (E.fl : Nat), .slice D E.tr.length d]
def PutM (M B : Nat) (wd : Int) (sv : Nat) (L' : List RS) (eb : Bool) (what nn : Int) (w : World) (e : Ending) (w' : World) : Prop :=
  ∃ E A c D d, e = .returned (.tuple #[.agg (epC E A c D d), .bool eb, .int .u8 what]) ∧ IntT w' A (natI E.srv) ∧ IntT w' D (natI E.tr) ∧ MkIs w' M B (mkR wd sv L') ∧ KpS (fun i => i = M ∨ i = B) w w' ∧ (eb = false → E = ep0) ∧ (eb = true → IsTold nn sv (bestL (flS wd nn L')) E)
def PutQ (R : Nat) (v : Value) (wd : Int) (sv : Nat) (L' : List RS) (eb : Bool) (what nn : Int) (U w : World) (e : Ending) (w' : World) : Prop :=
  ∃ v', e = .returned (.tuple #[.int .i64 nn, .bool eb, .int .u8 what]) ∧ RfIs w' R U.heap.size v' wd sv L' ∧ KpS (fun i => i = R ∨ v.ownBlock = some i) w w'
set_option maxRecDepth 20000 in
theorem keep_no {wd : Int} {sv : Nat} {L : List RS} {M B : Nat} {what : Int} {w w' : World} (h : MkIs w M B (mkR wd sv L)) (m : Mo w w') : PutM M B wd sv L false what 0 w (.returned (.tuple #[.agg epz, .bool false, .int .u8 what])) w' :=
  ⟨ep0, none, 0, none, 0, rfl, .inl rfl, .inl rfl, h.mo m, KpS.of_mo m, fun _ => rfl, fun q => by cases q⟩
set_option maxRecDepth 20000 in
/-- both puts -/
theorem step35 (wd : Int) (sv : Nat) (L : List RS) (x : RS) (w0 : 1 ≤ wd) (w1 : wd ≤ 1152921504606846976) (hr : Rises wd L) (ok : RsOk x) (hl : L.length ≤ 1000) :
    ∃ (eb : Bool) (what nn : Int) (L' : List RS), L'.length ≤ L.length + 1 ∧ Rises wd L' ∧
      (∀ M B w, MkIs w M B (mkR wd sv L) → Calls Try.prog PutF #[pM M, .int .i64 x.s, WV x.at_, .int .i64 x.o, .int .i64 x.d] w (PutM M B wd sv L' eb what nn w)) ∧
      (∀ R v U w, RfIs w R U.heap.size v wd sv L → U.heap.size ≤ w.heap.size → Calls Try.prog 12 #[.pointer (some ⟨R, 0, none⟩), .agg #[.int .i64 x.s, .int .i64 (hiW x.at_), .int .u64 (loW x.at_), .int .i64 x.o, .int .i64 x.d]] w (PutQ R v wd sv L' eb what nn U w)) := by
  obtain ⟨s, a, o, d⟩ := x
  obtain ⟨os, oa, oo, od⟩ := ok
  simp only at *
  by_cases c1 : s < 0 ∨ (sv : Int) ≤ s
  · refine ⟨false, 3, 0, L, by omega, hr, fun M B w h => ?_, fun R v U w h hU => ?_⟩
    · refine (eput_other M B (mkR wd sv L) s a o d w h (by rw [mkR_sv]; exact c1)).mono ?_
      rintro e w' ⟨rfl, m⟩
      exact keep_no h m
    · refine (rput_other R v wd sv s a o d w h.m c1).mono ?_
      rintro e w' ⟨rfl, m⟩
      exact ⟨v, rfl, h.mo m, KpS.of_mo m⟩
  obtain ⟨n, rfl⟩ : ∃ n : Nat, s = n := ⟨s.toNat, by omega⟩
  have hn : n < sv := by omega
  have etn : (n : Int).toNat = n := Int.toNat_natCast n
  by_cases c2 : L = []
  · subst c2
    refine ⟨false, 1, 0, [] ++ [⟨n, a, o, d⟩], by simp, rises_snoc (rises_nil wd) fun q => absurd rfl q, fun M B w h => ?_, fun R v U w h hU => ?_⟩
    · refine (eput_same M B n (mkR wd sv []) a o d w h (by rw [mkR_sv]; exact hn) oa oo od (fun q => by unfold mkR at q; rw [if_pos rfl] at q; cases q)).mono ?_
      rintro e w' ⟨rfl, hI, hK⟩
      rw [mkR_wd] at hI
      have e1 := mkR_first wd sv ⟨n, a, o, d⟩
      simp only [etn] at e1
      exact ⟨ep0, none, 0, none, 0, rfl, .inl rfl, .inl rfl, by rw [e1]; exact hI, hK, fun _ => rfl, fun q => by cases q⟩
    · refine (rput_kept R n v wd sv [] a o d U w h hl w0 w1 hn oa oo od (fun q => by cases q) hU).mono ?_
      rintro e w' ⟨v', hI, hK, rfl⟩
      refine ⟨v', ?_, hI, hK⟩
      rw [if_neg (fun q => by cases q.1)]
  have hem : L.isEmpty = false := by cases L with | nil => exact absurd rfl c2 | cons _ _ => rfl
  have isome : (mkR wd sv L).some = true := by unfold mkR; rw [if_neg c2]
  have inum : (mkR wd sv L).num = lastN wd L := by unfold mkR; rw [if_neg c2]
  have iff' : (mkR wd sv L).f = bestL (flS wd (lastN wd L) L) := by unfold mkR; rw [if_neg c2]
  by_cases c3 : nOf wd a < lastN wd L
  · refine ⟨false, 2, 0, L, by omega, hr, fun M B w h => ?_, fun R v U w h hU => ?_⟩
    · refine (eput_late M B n (mkR wd sv L) a o d w h (by rw [mkR_sv]; exact hn) oa isome (by rw [mkR_wd, inum]; exact c3)).mono ?_
      rintro e w' ⟨rfl, m⟩
      exact keep_no h m
    · refine (rput_late R U.heap.size n v wd sv L a o d w h hl w0 w1 hn oa hem c3).mono ?_
      rintro e w' ⟨rfl, m⟩
      exact ⟨v, rfl, h.mo m, KpS.of_mo m⟩
  by_cases c4 : nOf wd a = lastN wd L
  · refine ⟨false, 1, 0, L ++ [⟨n, a, o, d⟩], by simp, rises_snoc hr fun _ => by rw [c4]; exact Int.le_refl _, fun M B w h => ?_, fun R v U w h hU => ?_⟩
    · refine (eput_same M B n (mkR wd sv L) a o d w h (by rw [mkR_sv]; exact hn) oa oo od (fun q => by rw [mkR_wd, inum]; exact c4)).mono ?_
      rintro e w' ⟨rfl, hI, hK⟩
      rw [mkR_wd] at hI
      have e1 := mkR_same (sv := sv) (x := ⟨n, a, o, d⟩) c2 c4
      simp only [etn] at e1
      exact ⟨ep0, none, 0, none, 0, rfl, .inl rfl, .inl rfl, by rw [e1, mkR_wd]; exact hI, hK, fun _ => rfl, fun q => by cases q⟩
    · refine (rput_kept R n v wd sv L a o d U w h hl w0 w1 hn oa oo od (fun q => by rw [c4]; exact Int.le_refl _) hU).mono ?_
      rintro e w' ⟨v', hI, hK, rfl⟩
      refine ⟨v', ?_, hI, hK⟩
      rw [if_neg (fun q => by have := q.2; omega)]
  · have c5 : lastN wd L < nOf wd a := by omega
    have efl : flS wd (lastN wd L) (L ++ [(⟨n, a, o, d⟩ : RS)]) = flS wd (lastN wd L) L := by
      rw [flS_snoc, if_neg (by simp only; omega), List.append_nil]
    refine ⟨true, 1, lastN wd L, L ++ [⟨n, a, o, d⟩], by simp, rises_snoc hr fun _ => by simp only; omega, fun M B w h => ?_, fun R v U w h hU => ?_⟩
    · refine (eput_end M B n (mkR wd sv L) a o d w h (by rw [mkR_sv]; exact hn) oa oo od isome (by rw [mkR_wd, inum]; exact c5)).mono ?_
      rintro e w' ⟨E, v, hE, rfl, ⟨A, c, D, d', rfl, h1, h2⟩, hI, hK⟩
      rw [mkR_wd] at hI
      rw [inum, mkR_sv, iff'] at hE
      have e1 := mkR_next (sv := sv) (x := ⟨n, a, o, d⟩) hr c2 c5
      simp only [etn] at e1
      exact ⟨E, A, c, D, d', rfl, h1, h2, by rw [e1, mkR_wd]; exact hI, hK, (fun q => by cases q), fun _ => by rw [efl]; exact hE⟩
    · refine (rput_kept R n v wd sv L a o d U w h hl w0 w1 hn oa oo od (fun q => by omega) hU).mono ?_
      rintro e w' ⟨v', hI, hK, rfl⟩
      refine ⟨v', ?_, hI, hK⟩
      rw [if_pos ⟨hem, c5⟩]
end Go.Proofs.Ytdgmcgfkammioaa
