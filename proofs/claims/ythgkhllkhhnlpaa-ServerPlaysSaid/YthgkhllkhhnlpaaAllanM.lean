/- allan: Put, Told and Live of a list of slots. -/
import Derived.Test.YthgkhllkhhnlpaaGridS
import Derived.Test.YthgkhllkhhnlpaaGrid7
namespace Go.Proofs.Ythgkhllkhhnlpaa
open Go.RowKit

structure MOk (M : List Slot) (n : Nat) : Prop where
  fine : ∀ s ∈ M, Fine s
  rises : Rises M
  len : M.length ≤ n
def nwOf (M : List Slot) : Slot := M.getLast?.getD slot0
/-- a grid that has taken these slots -/
structure GAt (W : World) (p r C o : Nat) (x : Int) (M : List Slot) : Prop where
  at_ : GridAt W p r (2 ^ o + 1) C o x (nwOf M) (held (2 ^ o + 1) o M.dropLast).2 (held (2 ^ o + 1) o M.dropLast).1
  ne : p ≠ r
  o1 : 1 ≤ o
  o2 : o ≤ 10
  x1 : 1 ≤ x
  x2 : x ≤ 9223372036854775807
set_option maxRecDepth 20000 in
theorem GAt.mo {W w : World} {p r C o : Nat} {x : Int} {M : List Slot} (h : GAt W p r C o x M) (k : Mo W w) : GAt w p r C o x M := ⟨⟨k.blk h.at_.g, k.ring h.at_.r⟩, h.ne, h.o1, h.o2, h.x1, h.x2⟩
set_option maxRecDepth 20000 in
theorem mok_nil (n : Nat) : MOk [] n := ⟨fun s h => (by cases h), List.Pairwise.nil, Nat.zero_le _⟩
set_option maxRecDepth 20000 in
theorem R_bd {o : Nat} (h : o ≤ 10) : 0 < 2 ^ o + 1 ∧ 2 ^ o + 1 ≤ 1025 := by
  have h1 : (2 : Nat) ^ o ≤ 2 ^ 10 := Nat.pow_le_pow_right (by decide) h
  have h2 : (2 : Nat) ^ 10 = 1024 := by decide
  exact ⟨Nat.succ_pos _, by omega⟩
set_option maxRecDepth 20000 in
theorem near0 : Near 0 := ⟨by decide, by decide⟩
set_option maxRecDepth 20000 in
theorem held_near {R o : Nat} {L : List Slot} (hF : ∀ s ∈ L, Fine s) (hr : Rises L) (i : Nat) : Near ((held R o L).1 i).off := by
  have ok := ringOk (R := R) (o := o) L hF hr
  by_cases c : ((held R o L).1 i).some = true
  · exact (hF _ (ok.in_ i c).1).near
  · rw [ok.zero i (by simpa using c)]; exact near0
set_option maxRecDepth 20000 in
theorem held_bd {o : Nat} {L : List Slot} (ho : o ≤ 10) (hF : ∀ s ∈ L, Fine s) (hr : Rises L) (hl : L.length ≤ 1000) (k : Nat) :
    0 ≤ ((held (2 ^ o + 1) o L).2 k).1 ∧ ((held (2 ^ o + 1) o L).2 k).1 ≤ 1000000 ∧ 0 ≤ ((held (2 ^ o + 1) o L).2 k).2 ∧ ((held (2 ^ o + 1) o L).2 k).2 ≤ 85070591730234615865843651857942052864 := by
  rw [held_tot L ho rfl k hF hr]
  by_cases c : k < o
  · rw [if_pos c]
    obtain ⟨a1, a2, a3, a4⟩ := sumN_bd k L hF L.length (Nat.le_refl _)
    have : (L.length : Int) * 316912650057057350374175801344 ≤ 1000 * 316912650057057350374175801344 := Int.mul_le_mul_of_nonneg_right (by omega) (by decide)
    omega
  · rw [if_neg c]; decide
set_option maxRecDepth 20000 in
theorem dropLast_ok {M : List Slot} {n : Nat} (h : MOk M n) : MOk M.dropLast n :=
  ⟨fun s hs => h.fine s ((List.dropLast_sublist M).subset hs), List.Pairwise.sublist (List.dropLast_sublist M) h.rises, Nat.le_trans (by simp) h.len⟩
set_option maxRecDepth 20000 in
theorem split_last {M : List Slot} (h : M ≠ []) : ∃ L s, M = L ++ [s] := ⟨M.dropLast, M.getLast h, (List.dropLast_concat_getLast h).symm⟩
set_option maxRecDepth 20000 in
theorem nw_snoc (L : List Slot) (s : Slot) : nwOf (L ++ [s]) = s ∧ (L ++ [s]).dropLast = L := ⟨by simp [nwOf], by simp⟩
set_option maxRecDepth 20000 in
theorem snoc_ok {L : List Slot} {s : Slot} {n : Nat} (h : MOk (L ++ [s]) n) : MOk L n ∧ Fine s ∧ ∀ a ∈ L, a.num < s.num :=
  ⟨⟨fun a ha => h.fine a (by simp [ha]), (List.pairwise_append.1 h.rises).1, by have := h.len; simp at this; omega⟩, h.fine s (by simp), fun a ha => (List.pairwise_append.1 h.rises).2.2 a ha s (by simp)⟩
set_option maxRecDepth 20000 in
theorem mok_snoc {L : List Slot} {s : Slot} {n : Nat} (h : MOk L n) (hs : Fine s) (hl : ∀ a ∈ L, a.num < s.num) : MOk (L ++ [s]) (n + 1) :=
  ⟨fun a ha => by
    rcases List.mem_append.1 ha with k | k
    · exact h.fine a k
    · have : a = s := by simpa using k
      rw [this]; exact hs,
   List.pairwise_append.2 ⟨h.rises, List.pairwise_singleton _ _, fun a ha b hb => by
     have : b = s := by simpa using hb
     rw [this]; exact hl a ha⟩,
   by have := h.len; simp; omega⟩

/-! ### Told -/
noncomputable def tauN (M : List Slot) (k : Nat) : Tau := ⟨2 ^ k, (sumN k M M.length).1, (sumN k M M.length).2, devT (sumN k M M.length).1 (sumN k M M.length).2⟩
noncomputable def taus (M : List Slot) (o : Nat) : List Tau := (List.range o).map (tauN M)
set_option maxRecDepth 20000 in
theorem taus_len (M : List Slot) (o : Nat) : (taus M o).length = o := by unfold taus; simp
set_option maxRecDepth 20000 in
theorem withM {M : List Slot} {o : Nat} (ho : o ≤ 10) (hM : MOk M 1000) (k : Nat) (hk : k < o) : withK (2 ^ o + 1) (held (2 ^ o + 1) o M.dropLast).1 (nwOf M) (held (2 ^ o + 1) o M.dropLast).2 o k = sumN k M M.length := by
  by_cases z : M = []
  · subst z
    rw [withK_none _ _ _ _ _ rfl]
    rfl
  · obtain ⟨L, s, rfl⟩ := split_last z
    obtain ⟨hL, hs, hl⟩ := snoc_ok hM
    rw [(nw_snoc L s).1, (nw_snoc L s).2, withK_con ho rfl hL.fine hL.rises s hs hl _ o (Nat.le_refl _) k, if_pos hk, held_tot L ho rfl k hL.fine hL.rises, if_pos hk, List.length_append, List.length_singleton, sumN_snoc]
set_option maxRecDepth 20000 in
theorem tausT_M {M : List Slot} {o : Nat} (ho : o ≤ 10) (hM : MOk M 1000) : tausT (withK (2 ^ o + 1) (held (2 ^ o + 1) o M.dropLast).1 (nwOf M) (held (2 ^ o + 1) o M.dropLast).2 o) o = taus M o := by
  unfold tausT taus
  refine List.map_congr_left fun k hk => ?_
  rw [List.mem_range] at hk
  unfold tauT tauN
  rw [withM ho hM k hk]
set_option maxRecDepth 20000 in
theorem nw_bd {M : List Slot} {n : Nat} (hM : MOk M n) : -9223372036854775808 ≤ (nwOf M).num ∧ (nwOf M).num ≤ 9223372036854775807 ∧ Near (nwOf M).off := by
  by_cases z : M = []
  · subst z; exact ⟨by decide, by decide, near0⟩
  · obtain ⟨L, s, rfl⟩ := split_last z
    obtain ⟨hL, hs, hl⟩ := snoc_ok hM
    rw [(nw_snoc L s).1]
    exact ⟨hs.n1, hs.n2, hs.near⟩
set_option maxRecDepth 20000 in
theorem told_M (p r C o : Nat) (x : Int) (M : List Slot) (W : World) (hG : GAt W p r C o x M) (hM : MOk M 1000) :
    Calls Try.prog 36 #[.pointer (some ⟨p, 0, none⟩)] W (ToldRet (taus M o) W) := by
  obtain ⟨n1, n2, n3⟩ := nw_bd hM
  have hD := dropLast_ok hM
  have ho := hG.o2
  rw [← tausT_M ho hM]
  refine told_grid p r (2 ^ o + 1) C o x (nwOf M) _ _ _ W (R_bd ho).1 (R_bd ho).2 ho n1 n2 n3 (held_near hD.fine hD.rises) (fun k _ => held_bd ho hD.fine hD.rises hD.len k) (fun k hk => ?_) hG.at_.g hG.at_.r
  by_cases c : k < o
  · rw [withM ho hM k c]
    obtain ⟨a1, a2, a3, a4⟩ := sumN_bd k M hM.fine M.length (Nat.le_refl _)
    have hl := hM.len
    have : (M.length : Int) * 316912650057057350374175801344 ≤ 1000 * 316912650057057350374175801344 := Int.mul_le_mul_of_nonneg_right (by omega) (by decide)
    exact ⟨a1, by omega, by unfold InW; omega⟩
  · rw [withK_above _ _ _ _ _ _ (by omega)]
    have := held_bd ho hD.fine hD.rises hD.len k
    exact ⟨this.1, this.2.1, by unfold InW; omega⟩

/-! ### Live -/
def nearTo (a : Int) (o : Nat) (s : Slot) : Bool := decide (a - s.num ≤ 2 ^ o)
set_option maxRecDepth 20000 in
theorem nigh_fine {a : Int} {o : Nat} {s : Slot} (h : Fine s) (a1 : s.num < a) (a2 : a ≤ 9223372036854775807) : nigh a o s = nearTo a o s := by
  unfold nigh nearTo
  have := h.n1
  rw [h.some, Bool.true_and, show (a - s.num) % 18446744073709551616 = a - s.num by omega]
set_option maxRecDepth 20000 in
theorem liveN_upd (f : Nat → Slot) (a : Int) (o i : Nat) (s : Slot) (h : nigh a o (f i) = false) (n : Nat) : liveN (updF f i s) a o n = liveN f a o n + (if i < n ∧ nigh a o s = true then 1 else 0) := by
  induction n with
  | zero => rw [if_neg (by omega)]; rfl
  | succ n ih =>
    have e1 : liveN (updF f i s) a o (n + 1) = liveN (updF f i s) a o n + (if nigh a o (updF f i s n) = true then 1 else 0) := rfl
    have e2 : liveN f a o (n + 1) = liveN f a o n + (if nigh a o (f n) = true then 1 else 0) := rfl
    rw [e1, e2, ih]
    by_cases e : n = i
    · subst e
      rw [updF_same, h, if_neg (show ¬ (n < n ∧ nigh a o s = true) by omega), if_neg (show ¬ (false = true) by decide)]
      by_cases c : nigh a o s = true
      · rw [if_pos c, if_pos ⟨by omega, c⟩]
      · rw [if_neg c, if_neg (fun k => c k.2)]
    · rw [updF_ne _ _ e]
      by_cases c : i < n ∧ nigh a o s = true
      · rw [if_pos c, if_pos (show i < n + 1 ∧ nigh a o s = true from ⟨by omega, c.2⟩)]; omega
      · rw [if_neg c, if_neg (show ¬ (i < n + 1 ∧ nigh a o s = true) from fun k => c ⟨by omega, k.2⟩)]; omega
set_option maxRecDepth 20000 in
theorem live_held {R o : Nat} (hRo : R = 2 ^ o + 1) (a : Int) (a2 : a ≤ 9223372036854775807) (L : List Slot) : (∀ s ∈ L, Fine s) → Rises L → (∀ s ∈ L, s.num < a) → liveN (held R o L).1 a o R = L.countP (nearTo a o) := by
  have hR' : (R : Int) = 2 ^ o + 1 := by rw [hRo]; simp
  have hR : 0 < R := by rw [hRo]; exact Nat.succ_pos _
  refine snoc_ind (P := fun L => (∀ s ∈ L, Fine s) → Rises L → (∀ s ∈ L, s.num < a) → liveN (held R o L).1 a o R = L.countP (nearTo a o)) ?_ ?_ L
  · intro _ _ _
    have : ∀ n, liveN (fun _ => slot0) a o n = 0 := fun n => by
      induction n with
      | zero => rfl
      | succ n ih => unfold liveN; rw [ih]; rfl
    exact this R
  · intro L s ih hF hr ha
    have hF' : ∀ b ∈ L, Fine b := fun b hb => hF b (by simp [hb])
    have hr' : Rises L := (List.pairwise_append.1 hr).1
    have hlast : ∀ b ∈ L, b.num < s.num := fun b hb => (List.pairwise_append.1 hr).2.2 b hb s (by simp)
    have ih := ih hF' hr' (fun b hb => ha b (by simp [hb]))
    have ok := ringOk (R := R) (o := o) L hF' hr'
    rw [held_snoc]
    unfold push
    simp only
    have hq : nigh a o ((held R o L).1 (idx R s.num)) = false := by
      by_cases c : ((held R o L).1 (idx R s.num)).some = true
      · obtain ⟨i1, i2⟩ := ok.in_ _ c
        have f1 := hF' _ i1
        have h1 := hlast _ i1
        have h2 := ha s (by simp)
        rw [nigh_fine f1 (by omega) a2]
        have := idx_far hR i2 h1
        unfold nearTo
        rw [decide_eq_false_iff_not]
        omega
      · unfold nigh; rw [Bool.and_eq_false_iff]; left; simpa using c
    rw [liveN_upd _ _ _ _ _ hq, ih, List.countP_append, nigh_fine (hF s (by simp)) (ha s (by simp)) a2]
    congr 1
    have hi := idx_lt hR s.num
    by_cases c : nearTo a o s = true
    · rw [if_pos ⟨hi, c⟩]; simp [c]
    · rw [if_neg (fun k => c k.2)]; simp [c]
def liveM (M : List Slot) (o : Nat) : Nat := M.countP (nearTo (nwOf M).num o)
set_option maxRecDepth 20000 in
theorem live_M (p r C o : Nat) (x : Int) (M : List Slot) (W : World) (hG : GAt W p r C o x M) (hM : MOk M 1000) :
    Calls Try.prog 44 #[.pointer (some ⟨p, 0, none⟩)] W fun e w' => e = .returned (.int .i64 (liveM M o)) ∧ Mo W w' := by
  by_cases z : M = []
  · subst z
    exact live_none p r _ C o x _ _ _ W rfl hG.at_.g
  · obtain ⟨L, s, rfl⟩ := split_last z
    obtain ⟨hL, hs, hl⟩ := snoc_ok hM
    have ho := hG.o2
    have hg := hG.at_
    rw [(nw_snoc L s).1, (nw_snoc L s).2] at hg
    have := live_grid p r (2 ^ o + 1) C o x s _ _ _ W (R_bd ho).1 (R_bd ho).2 ho hs.some hg.g hg.r
    rw [live_held rfl s.num hs.n2 L hL.fine hL.rises hl] at this
    have e : (liveM (L ++ [s]) o : Int) = (L.countP (nearTo s.num o) : Int) + 1 := by
      unfold liveM
      rw [(nw_snoc L s).1, List.countP_append]
      have : nearTo s.num o s = true := by
        unfold nearTo
        rw [decide_eq_true_eq]
        have := two_pow_pos o
        omega
      simp [this]
    rw [e]
    exact this

/-! ### Put -/
set_option maxRecDepth 20000 in
instance (x : Int) : Decidable (Near x) := by unfold Near; infer_instance
/-- what becomes of an offset -/
def putM (M : List Slot) (n off del : Int) : List Slot × Int :=
  if Near off then
    if M = [] then ([⟨true, n, off, del⟩], 1)
    else if (nwOf M).num < n then (M ++ [⟨true, n, off, del⟩], 1)
    else if n < (nwOf M).num then (M, 3)
    else if del < (nwOf M).del then (M.dropLast ++ [⟨true, n, off, del⟩], 1)
    else (M, 1)
  else (M, 2)
set_option maxRecDepth 20000 in
theorem clip_bd (x : Int) : -9223372036854775808 ≤ clip x ∧ clip x ≤ 9223372036854775807 := by unfold clip; split <;> (try split) <;> omega
set_option maxRecDepth 20000 in
theorem putM_ok {M : List Slot} {k : Nat} (h : MOk M k) (n off del : Int) (n1 : -9223372036854775808 ≤ n) (n2 : n ≤ 9223372036854775807) : MOk (putM M n off del).1 (k + 1) := by
  have hw : MOk M (k + 1) := ⟨h.fine, h.rises, by have := h.len; omega⟩
  unfold putM
  by_cases hn : Near off
  · rw [if_pos hn]
    have hs : Fine ⟨true, n, off, del⟩ := ⟨rfl, n1, n2, hn⟩
    by_cases z : M = []
    · rw [if_pos z]
      exact ⟨fun s hs' => by
        have : s = ⟨true, n, off, del⟩ := by simpa using hs'
        rw [this]; exact hs, List.pairwise_singleton _ _, by simp⟩
    · obtain ⟨L, s, rfl⟩ := split_last z
      obtain ⟨hL, fs, hl⟩ := snoc_ok h
      rw [if_neg z, (nw_snoc L s).1, (nw_snoc L s).2]
      by_cases c1 : s.num < n
      · rw [if_pos c1]
        exact mok_snoc h hs (fun a ha => by
          rcases List.mem_append.1 ha with k | k
          · have := hl a k; show a.num < n; omega
          · have : a = s := by simpa using k
            rw [this]; exact c1)
      · rw [if_neg c1]
        by_cases c2 : n < s.num
        · rw [if_pos c2]; exact hw
        · rw [if_neg c2]
          by_cases c3 : del < s.del
          · rw [if_pos c3]
            have := mok_snoc hL hs (fun a ha => by have := hl a ha; show a.num < n; omega)
            exact this
          · rw [if_neg c3]; exact hw
  · rw [if_neg hn]; exact hw
def PutMRet (c : Int) (p r C o : Nat) (x : Int) (M : List Slot) (W : World) (e : Ending) (w' : World) : Prop := e = .returned (.int .u8 c) ∧ GAt w' p r C o x M ∧ Kept2 p r W w'
set_option maxRecDepth 20000 in
theorem put_M (p r C o : Nat) (x : Int) (M : List Slot) (a off del : Int) (W : World) (hG : GAt W p r C o x M) (hM : MOk M 1000) (ha : InW a) :
    Calls Try.prog 32 #[.pointer (some ⟨p, 0, none⟩), WV a, .int .i64 off, .int .i64 del] W (PutMRet (putM M (clip (a / x)) off del).2 p r C o x (putM M (clip (a / x)) off del).1 W) := by
  obtain ⟨n1, n2⟩ := clip_bd (a / x)
  obtain ⟨m1, m2, m3⟩ := nw_bd hM
  have ho := hG.o2
  have hD := dropLast_ok hM
  have hg := hG.at_
  have hx1 := hG.x1
  have hx2 := hG.x2
  obtain ⟨R1, R2⟩ := R_bd ho
  have mk : ∀ (c : Int) (nw : Slot) (t : Tot) (f : Nat → Slot) (M' : List Slot) (e : Ending) (w' : World), PutRet c p r (2 ^ o + 1) C o x nw t f W e w' → nw = nwOf M' → t = (held (2 ^ o + 1) o M'.dropLast).2 → f = (held (2 ^ o + 1) o M'.dropLast).1 → PutMRet c p r C o x M' W e w' := by
    rintro c nw t f M' e w' ⟨h1, h2, h3⟩ rfl rfl rfl
    exact ⟨h1, ⟨h2, hG.ne, hG.o1, hG.o2, hG.x1, hG.x2⟩, h3⟩
  unfold putM
  by_cases hn : Near off
  · rw [if_pos hn]
    have near := held_near (R := 2 ^ o + 1) (o := o) hD.fine hD.rises
    have bd := fun k (_ : k < 10) => held_bd ho hD.fine hD.rises hD.len k
    by_cases z : M = []
    · subst z
      rw [if_pos rfl]
      exact (put_first p r _ C o x _ _ _ a off del _ W R1 R2 ho (by omega) hx2 ha hg hG.ne hn rfl rfl m1 m2 m3 near bd).mono fun e w' h => mk _ _ _ _ _ _ _ h rfl rfl rfl
    · obtain ⟨L, s, rfl⟩ := split_last z
      obtain ⟨hL, fs, hl⟩ := snoc_ok hM
      rw [if_neg z]
      rw [(nw_snoc L s).1] at hg m1 m2 m3 ⊢
      rw [(nw_snoc L s).2] at hg near bd ⊢
      by_cases c1 : s.num < clip (a / x)
      · rw [if_pos c1]
        exact (put_later p r _ C o x s _ _ a off del _ W R1 R2 ho (by omega) hx2 ha hg hG.ne hn rfl fs.some c1 m1 m2 m3 near bd).mono fun e w' h => mk _ _ _ _ _ _ _ h (by rw [(nw_snoc (L ++ [s]) _).1]) (by rw [(nw_snoc (L ++ [s]) _).2, held_snoc]; rfl) (by rw [(nw_snoc (L ++ [s]) _).2, held_snoc]; rfl)
      · rw [if_neg c1]
        by_cases c2 : clip (a / x) < s.num
        · rw [if_pos c2]
          exact (put_late p r _ C o x s _ _ a off del _ W R1 (by omega) hx2 ha hg hn rfl fs.some c2).mono fun e w' h => mk _ _ _ _ _ _ _ h (nw_snoc L s).1.symm (by rw [(nw_snoc L s).2]) (by rw [(nw_snoc L s).2])
        · rw [if_neg c2]
          by_cases c3 : del < s.del
          · rw [if_pos c3]
            exact (put_less p r _ C o x s _ _ a off del _ W R1 (by omega) hx2 ha hg hG.ne hn rfl fs.some (by omega) c3).mono fun e w' h => mk _ _ _ _ _ _ _ h (nw_snoc L _).1.symm (by rw [(nw_snoc L _).2]) (by rw [(nw_snoc L _).2])
          · rw [if_neg c3]
            exact (put_not p r _ C o x s _ _ a off del _ W R1 (by omega) hx2 ha hg hn rfl fs.some (by omega) c3).mono fun e w' h => mk _ _ _ _ _ _ _ h (nw_snoc L s).1.symm (by rw [(nw_snoc L s).2]) (by rw [(nw_snoc L s).2])
  · rw [if_neg hn]
    exact (put_wild p r _ C o x _ _ _ a off del W R1 hg hn).mono fun e w' h => mk _ _ _ _ _ _ _ h rfl rfl rfl
end Go.Proofs.Ythgkhllkhhnlpaa
