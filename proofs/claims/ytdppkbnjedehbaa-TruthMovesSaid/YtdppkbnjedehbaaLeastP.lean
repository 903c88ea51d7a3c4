/- law33: what the stage's theorem asks, plainly; within, slices.Contains. -/
import Derived.Test.YtdppkbnjedehbaaKnown33
namespace Go.Proofs.Ytdppkbnjedehbaa
open Go.RowKit

/-- what the stage's theorem asks of what is found -/
structure LeastF (l : List Iv) (i : Iv) (f : Nat) : Prop where
  half : 2 * f < l.length
  le : i.lo ≤ i.hi
  lo : l.length - f ≤ had l i.lo
  hi : l.length - f ≤ had l i.hi
  lo1 : had l (i.lo - 1) < l.length - f
  hi1 : had l (i.hi + 1) < l.length - f
  few : ∀ y ∈ l, 0 < f → had l y.lo ≤ l.length - f
  within : ∀ y ∈ l, l.length - f ≤ had l y.lo → i.lo ≤ y.lo ∧ y.lo ≤ i.hi
  many : l.length - f ≤ (trueL l i).length
set_option maxRecDepth 20000 in
theorem least_of {l : List Iv} {i : Iv} {f : Nat} (h : IsFind l (some (i, f))) : LeastF l i f := by
  obtain ⟨h1, h2, h3⟩ := h
  have hm : 0 < l.length - f := by omega
  refine ⟨h1, agr_le hm h2, h2.1.2.1, h2.2.2.1, ?_, ?_, fun y hy h0 => ?_, fun y hy q => agr_within hm h2 q, ?_⟩
  · rcases Nat.lt_or_ge (had l (i.lo - 1)) (l.length - f) with c | c
    · exact c
    · have := agr_within hm h2 c
      omega
  · rcases Nat.lt_or_ge (had l (i.hi + 1)) (l.length - f) with c | c
    · exact c
    · have := agr_within hm h2 c
      omega
  · have := h3 (f - 1) (by omega)
    have := this y hy
    omega
  · unfold trueL
    rw [trueL_count]
    refine Nat.le_trans h2.1.2.1 ?_
    unfold had
    refine List.countP_mono_left fun x _ k => ?_
    have hle := agr_le hm h2
    unfold meets
    simp at k ⊢
    omega
set_option maxRecDepth 20000 in
theorem mem_trueL {l : List Iv} {i : Iv} {k : Nat} (hk : k < l.length) : k ∈ trueL l i ↔ l[k].lo ≤ i.hi ∧ i.lo ≤ l[k].hi := by
  unfold trueL
  rw [List.mem_filter, List.mem_range, List.getElem?_eq_getElem hk]
  simp [meets, hk]
set_option maxRecDepth 20000 in
theorem mem_natI {xs : List Nat} {k : Nat} : (k : Int) ∈ natI xs ↔ k ∈ xs := by
  unfold natI
  rw [List.mem_map]
  constructor
  · rintro ⟨a, ha, e⟩
    have : a = k := by omega
    rwa [← this]
  · intro h
    exact ⟨k, h, rfl⟩
def Within (l : List Iv) (b : Int) : Prop := ∀ x ∈ l, -b < x.lo ∧ x.hi < b
attribute [local go_sem] blk_cell' blk_frozen'
set_option maxRecDepth 20000 in
set_option maxHeartbeats 4000000 in
theorem within_any (l : List Iv) (A : Option Addr) (c : Nat) (b : Int) (W : World) (hR : IvRow W A l) (hl : l.length ≤ 65536) (hb : 0 ≤ b ∧ b ≤ 9223372036854775807) :
    Calls Try.prog 16 #[.slice A l.length c, .int .i64 b] W fun e w' => (∃ q : Bool, e = .returned (.bool q) ∧ (q = true ↔ Within l b)) ∧ Mo W w' := by
  have HR := Lib.hid hR
  clear hR
  obtain ⟨N, hN⟩ : ∃ N, l.length = N := ⟨_, rfl⟩
  have HN := Lib.hid hN
  rw [hN] at hl ⊢
  clear hN
  have wb : IntKind.i64.wrap (-b) = -b := by rw [IntKind.wrap_i64]; omega
  go_enter Try.func16, Try.ntmps16
  go_wp2_with fail
  go_loopw [9] (fun i wr => ∃ j : Nat, j ≤ N ∧ i = .int .i64 j ∧ (∀ k (h : k < l.length), k < j → -b < l[k].lo ∧ l[k].hi < b) ∧ Mo W wr) (fun i _ => N - (intOf i).toNat)
  case atStart => exact ⟨0, by omega, rfl, fun k _ h => absurd h (by omega), Mo.refl _⟩
  case round =>
    obtain ⟨j, hj, rfl, hp, hM⟩ := hrel
    have HP := Lib.hid hp
    clear hp
    by_cases cj : j < N
    · have hjl : j < l.length := by rw [HN.out]; exact cj
      obtain ⟨g, off, rfl, hc⟩ := (HR.out.mo hM).resolve_left (fun e => by rw [e] at hjl; simp at hjl)
      obtain ⟨y0, y1⟩ := hc j hjl
      clear hc
      have z0 : LtW g wr := LtW.of_cell y0
      have e0 : (0 : Int) ≤ j := by omega
      have e1 : (j : Int) < N := by omega
      have HB := Lib.hid (fun (h : ¬ (-b < l[j].lo ∧ l[j].hi < b)) => (show ¬ Within l b from fun k => h (k _ (List.getElem_mem hjl))))
      have HG : Hid ((-b < l[j].lo ∧ l[j].hi < b) → ∀ k (h : k < l.length), k < j + 1 → -b < l[k].lo ∧ l[k].hi < b) := Lib.hid (fun q k hk h => by
        by_cases e : k = j
        · subst e; exact q
        · exact HP.out k hk (by omega))
      obtain ⟨lo, elo⟩ : ∃ x, l[j].lo = x := ⟨_, rfl⟩
      obtain ⟨hi, ehi⟩ : ∃ x, l[j].hi = x := ⟨_, rfl⟩
      rw [elo] at y0 HB HG
      rw [ehi] at y1 HB HG
      clear elo ehi hjl
      by_cases c1 : lo ≤ -b
      · have d1 : decide (lo ≤ -b) = true := decide_eq_true c1
        have HB' := Lib.hid (HB.out (by omega))
        clear HB HG c1
        go_wp2_with fail
        go_ret
        exact ⟨⟨false, rfl, by simp [HB'.out]⟩, hM.trans Mor.out⟩
      · have d1 : decide (lo ≤ -b) = false := decide_eq_false c1
        by_cases c2 : b ≤ hi
        · have d2 : decide (b ≤ hi) = true := decide_eq_true c2
          have HB' := Lib.hid (HB.out (by omega))
          clear HB HG c1 c2
          go_wp2_with fail
          go_ret
          exact ⟨⟨false, rfl, by simp [HB'.out]⟩, hM.trans Mor.out⟩
        · have d2 : decide (b ≤ hi) = false := decide_eq_false c2
          have HG' := Lib.hid (HG.out (by omega))
          clear HB HG c1 c2
          go_wp2_with fail
          go_roundw
          case rel => exact ⟨j + 1, by omega, by go_num, HG'.out, hM.trans Mor.out⟩
          case measure => simp [intOf]; omega
    · obtain rfl : j = N := by omega
      have HY : Hid (Within l b) := Lib.hid (fun x hx => by
        obtain ⟨k, hk, rfl⟩ := List.getElem_of_mem hx
        exact HP.out k hk (by rw [← HN.out]; exact hk))
      go_wp2_with fail
      go_ret
      exact ⟨⟨true, rfl, by simp [HY.out]⟩, hM.trans Mor.out⟩
set_option maxRecDepth 20000 in
set_option maxHeartbeats 4000000 in
theorem index_any (xs : List Int) (x : Int) (A : Option Addr) (c : Nat) (W : World) (hR : IntRow W A xs) (hl : xs.length ≤ 65536) :
    Calls Try.prog 25 #[.slice A xs.length c, .int .i64 x] W fun e w' => (∃ r : Int, e = .returned (.int .i64 r) ∧ (0 ≤ r ↔ x ∈ xs)) ∧ W = w' := by
  have HR := Lib.hid hR
  clear hR
  obtain ⟨N, hN⟩ : ∃ N, xs.length = N := ⟨_, rfl⟩
  have HN := Lib.hid hN
  rw [hN] at hl ⊢
  clear hN
  go_enter Try.func25, Try.ntmps25
  go_wp2_with fail
  go_loopw [8] (fun i wr => ∃ j : Nat, j ≤ N ∧ i = .int .i64 j ∧ (∀ k (h : k < xs.length), k < j → xs[k] ≠ x) ∧ W = wr) (fun i _ => N - (intOf i).toNat)
  case atStart => exact ⟨0, by omega, rfl, fun k _ h => absurd h (by omega), rfl⟩
  case round =>
    obtain ⟨j, hj, rfl, hp, rfl⟩ := hrel
    have HP := Lib.hid hp
    clear hp
    by_cases cj : j < N
    · have hjl : j < xs.length := by rw [HN.out]; exact cj
      obtain ⟨g, off, rfl, hc⟩ := HR.out.resolve_left (fun e => by rw [e] at hjl; simp at hjl)
      have y0 := hc j hjl
      clear hc
      have e0 : (0 : Int) ≤ j := by omega
      have e1 : (j : Int) < N := by omega
      have HB := Lib.hid (fun (h : xs[j] = x) => (show x ∈ xs from h ▸ List.getElem_mem hjl))
      have HG : Hid (xs[j] ≠ x → ∀ k (h : k < xs.length), k < j + 1 → xs[k] ≠ x) := Lib.hid (fun q k hk h => by
        by_cases e : k = j
        · subst e; exact q
        · exact HP.out k hk (by omega))
      obtain ⟨y, ey⟩ : ∃ y, xs[j] = y := ⟨_, rfl⟩
      rw [ey] at y0 HB HG
      clear ey hjl
      by_cases c1 : x = y
      · have d1 : (x == y) = true := by simp [c1]
        have HB' := Lib.hid (HB.out c1.symm)
        clear HB HG c1
        go_wp2_with fail
        go_ret
        exact ⟨⟨j, rfl, by simp [HB'.out]⟩, by first | rfl | trivial⟩
      · have d1 : (x == y) = false := by simp [c1]
        have HG' := Lib.hid (HG.out (Ne.symm c1))
        clear HB HG c1
        go_wp2_with fail
        go_roundw
        case rel => exact ⟨j + 1, by omega, by go_num, HG'.out, by first | rfl | trivial⟩
        case measure => simp [intOf]; omega
    · obtain rfl : j = N := by omega
      have HY : Hid (x ∉ xs) := Lib.hid (fun hx => by
        obtain ⟨k, hk, e⟩ := List.getElem_of_mem hx
        exact HP.out k hk (by rw [← HN.out]; exact hk) e)
      go_wp2_with fail
      go_ret
      exact ⟨⟨-1, rfl, by simp [HY.out]⟩, by first | rfl | trivial⟩
set_option maxRecDepth 20000 in
set_option maxHeartbeats 4000000 in
theorem contains_any (xs : List Int) (x : Int) (A : Option Addr) (c : Nat) (W : World) (hR : IntRow W A xs) (hl : xs.length ≤ 65536) :
    Calls Try.prog 18 #[.slice A xs.length c, .int .i64 x] W fun e w' => e = .returned (.bool (decide (x ∈ xs))) ∧ W = w' := by
  have HI := Lib.hid (index_any xs x A c W hR hl)
  clear hR
  obtain ⟨q, hq⟩ : ∃ q, decide (x ∈ xs) = q := ⟨_, rfl⟩
  rw [hq]
  have HQ := Lib.hid hq
  clear hq
  generalize xs.length = N at *
  go_enter Try.func18, Try.ntmps18
  go_wp2_with fail
  refine HI.out.mono ?_
  rintro e w1 ⟨⟨r, rfl, hr⟩, rfl⟩
  have E : decide (0 ≤ r) = q := by rw [← HQ.out]; exact decide_eq_decide.2 hr
  clear hr HQ
  go_wp2_with fail
  go_ret
  exact ⟨rfl, by first | rfl | trivial⟩
end Go.Proofs.Ytdppkbnjedehbaa
