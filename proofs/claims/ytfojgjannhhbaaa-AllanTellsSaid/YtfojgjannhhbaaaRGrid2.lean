/- horologeref32.Grid: behind, Live. -/
import Derived.Test.YtfojgjannhhbaaaRGrid
namespace Go.Proofs.Ytfojgjannhhbaaa
open Go.RowKit

set_option maxRecDepth 20000 in
theorem lk_first {L : List Slot} {y : Int} {i : Nat} (hi : i < L.length) (h : L[i].num = y) (hb : ∀ k (hk : k < i), L[k].num ≠ y) : lk L y = some L[i] := by
  unfold lk
  rw [List.find?_eq_some_iff_getElem]
  refine ⟨by simp [h], i, hi, rfl, fun k hk => ?_⟩
  simp [hb k hk]
set_option maxRecDepth 20000 in
theorem lk_no {L : List Slot} {y : Int} (h : ∀ k (hk : k < L.length), L[k].num ≠ y) : lk L y = none := by
  unfold lk
  rw [List.find?_eq_none]
  intro a ha
  obtain ⟨k, hk, rfl⟩ := List.getElem_of_mem ha
  simp [h k hk]
def BehRet (M : List Slot) (j : Nat) (m : Int) (W : World) (e : Ending) (w' : World) : Prop :=
  (∃ r : Int, e = .returned (.int .i64 r) ∧ ((r = -1 ∧ lk (M.take j) ((M.getD j slot0).num - m) = none) ∨ ∃ i : Nat, i < j ∧ r = i ∧ lk (M.take j) ((M.getD j slot0).num - m) = some (M.getD i slot0))) ∧ Mo W w'
set_option maxRecDepth 20000 in
theorem num_at {w : World} {P base : Nat} {x o : Int} {M : List Slot} {vN vO vD : Value} (h : RG w P base x o M vN vO vD) (h0 : 0 < M.length) : ∃ g c cur, vN = .slice (some ⟨g, 0, none⟩) M.length c ∧ Blk w g 2 cur ∧ ∀ j, j < M.length → cur[j]? = some (.int .i64 (M.getD j slot0).num) := by
  obtain ⟨g, c, cur, e, _, B, _, hc⟩ := row_at h.n h0
  refine ⟨g, c, cur, e, B, fun j hj => ?_⟩
  rw [hc j (by rw [List.length_map]; exact hj)]
  simp [List.getD, List.getElem?_eq_getElem hj]
attribute [local go_sem] blk_cell' blk_frozen'
set_option maxRecDepth 20000 in
set_option maxHeartbeats 8000000 in
theorem behind_any (P base : Nat) (x o : Int) (M : List Slot) (vN vO vD : Value) (j : Nat) (m : Int) (W : World) (hG : RG W P base x o M vN vO vD) (hF : ∀ s ∈ M, Fine s) (hr : Rises M) (hj : j < M.length) (hl : M.length ≤ 1000) (m1 : 1 ≤ m) (m2 : m ≤ 1048576) :
    Calls Try.prog 32 #[.pointer (some ⟨P, 0, none⟩), .int .i64 (j : Int), .int .i64 m] W (BehRet M j m W) := by
  obtain ⟨PO, hPO⟩ : ∃ Q, BehRet M j m W = Q := ⟨_, rfl⟩
  rw [hPO]
  have RR := Lib.hid hPO
  clear hPO
  have HG := Lib.hid hG
  have wm : IntKind.u64.wrap m = m := by rw [IntKind.wrap_u64]; omega
  obtain ⟨AN, cN, eN⟩ := row_sl hG.n
  subst eN
  have bP := hG.g
  obtain ⟨N, hN⟩ : ∃ N, M.length = N := ⟨_, rfl⟩
  have HN := Lib.hid hN
  have RI := Lib.hid hr
  have FI := Lib.hid hF
  rw [hN] at hj hl bP
  clear hG hN hr hF
  go_enter Try.func32, Try.ntmps32
  go_wp2_with fail
  go_loopw [7] (fun s wr => ∃ i : Nat, i ≤ j ∧ s = .int .i64 i ∧ (∀ k, k < i → (M.getD k slot0).num ≠ (M.getD j slot0).num - m) ∧ Mo W wr) (fun s _ => j - (intOf s).toNat)
  case atStart => exact ⟨0, by omega, rfl, fun k h => absurd h (by omega), Mo.refl _⟩
  case round =>
    obtain ⟨i, hi, rfl, hne, hM⟩ := hrel
    have NE := Lib.hid hne
    clear hne
    by_cases ci : i < j
    · have BQ := hM.blk bP
      obtain ⟨g, c', cur, e1, B, hc⟩ := num_at (HG.out.mo hM) (by rw [HN.out]; omega)
      rw [HN.out] at e1 hc
      injection e1 with e1 e1a e1b
      subst e1 e1b
      have yi := hc i (by omega)
      have yj := hc j hj
      have b1 := (FI.out (M.getD i slot0) (by rw [List.getD, List.getElem?_eq_getElem (by rw [HN.out]; omega)]; exact List.getElem_mem _))
      have b2 := (FI.out (M.getD j slot0) (by rw [List.getD, List.getElem?_eq_getElem (by rw [HN.out]; omega)]; exact List.getElem_mem _))
      have lt : (M.getD i slot0).num < (M.getD j slot0).num := by
        have h1 : i < M.length := by rw [HN.out]; omega
        have h2 : j < M.length := by rw [HN.out]; omega
        have := List.pairwise_iff_getElem.1 RI.out i j h1 h2 ci
        simpa [List.getD, List.getElem?_eq_getElem h1, List.getElem?_eq_getElem h2] using this
      have q1 := b1.n1
      have q2 := b1.n2
      have q3 := b2.n1
      have q4 := b2.n2
      obtain ⟨si, hsi⟩ : ∃ s, (M.getD i slot0).num = s := ⟨_, rfl⟩
      obtain ⟨sj, hsj⟩ : ∃ s, (M.getD j slot0).num = s := ⟨_, rfl⟩
      have PY : Hid (sj - si = m → lk (M.take j) (sj - m) = some (M.getD i slot0)) := Lib.hid (fun e => by
        have h1 : i < (M.take j).length := by rw [List.length_take, HN.out]; omega
        have e2 : (M.take j)[i] = M.getD i slot0 := by
          rw [List.getElem_take]
          simp [List.getD, List.getElem?_eq_getElem (show i < M.length by rw [HN.out]; omega)]
        have := lk_first (L := M.take j) (y := sj - m) h1 (by rw [e2, hsi]; omega) (fun k hk => by
          have h3 := NE.out k hk
          rw [hsj] at h3
          have e3 : (M.take j)[k] = M.getD k slot0 := by
            rw [List.getElem_take]
            simp [List.getD, List.getElem?_eq_getElem (show k < M.length by rw [HN.out]; omega)]
          rw [e3]
          exact h3)
        rw [this, e2])
      have PN : Hid (¬ sj - si = m → ∀ k, k < i + 1 → (M.getD k slot0).num ≠ (M.getD j slot0).num - m) := Lib.hid (fun e k hk => by
        by_cases q : k = i
        · subst q
          rw [hsi, hsj]
          omega
        · exact NE.out k (by omega))
      have HSJ := Lib.hid hsj
      rw [hsi] at yi lt q1 q2
      rw [hsj] at yj lt q3 q4
      have wd : IntKind.u64.wrap (wrap64 (sj - si)) = sj - si := by rw [IntKind.wrap_u64]; unfold wrap64; omega
      have i0 : (0 : Int) ≤ i := by omega
      have i1 : (i : Int) < N := by omega
      have i2 : (0 : Int) ≤ j := by omega
      have i3 : (j : Int) < N := by omega
      have dij : decide ((i : Int) < j) = true := decide_eq_true (by omega)
      clear hc hsi hsj b1 b2 lt q1 q2 q3 q4 e1a
      by_cases cc : sj - si = m
      · have bb : (sj - si == m) = true := by simp [cc]
        have PY' := Lib.hid (PY.out cc)
        clear PY PN cc
        go_upto_region 4 with (fail)
        go_region
        go_wp2_with fail
        rw [← RR.out]
        exact ⟨⟨i, rfl, .inr ⟨i, ci, rfl, by rw [HSJ.out]; exact PY'.out⟩⟩, hM.trans Mor.out⟩
      · have bb : (sj - si == m) = false := by simp [cc]
        have PN' := Lib.hid (PN.out cc)
        clear PY PN cc
        go_upto_region 4 with (fail)
        go_region
        go_wp2_with fail
        go_roundw
        case rel => exact ⟨i + 1, by omega, by go_num, PN'.out, hM.trans Mor.out⟩
        case measure => simp [intOf]; omega
    · obtain rfl : i = j := by omega
      go_wp2_with fail
      rw [← RR.out]
      refine ⟨⟨-1, rfl, .inl ⟨rfl, lk_no fun k hk => ?_⟩⟩, hM.trans Mor.out⟩
      have hk' : k < i := by rw [List.length_take] at hk; omega
      have := NE.out k hk'
      rw [List.getElem_take]
      have e : M[k]'(by rw [HN.out]; omega) = M.getD k slot0 := by simp [List.getD, List.getElem?_eq_getElem (show k < M.length by rw [HN.out]; omega)]
      rw [e]
      exact this
set_option maxRecDepth 20000 in
theorem nw_get (M : List Slot) : nwOf M = M.getD (M.length - 1) slot0 := by
  unfold nwOf
  rw [List.getLast?_eq_getElem?]
  rfl
set_option maxRecDepth 20000 in
theorem cnt_take (M : List Slot) (p : Slot → Bool) (i : Nat) (hi : i < M.length) : (M.take (i + 1)).countP p = (M.take i).countP p + if p (M.getD i slot0) then 1 else 0 := by
  rw [List.take_add_one, List.getElem?_eq_getElem hi, List.countP_append]
  simp [List.getD, List.getElem?_eq_getElem hi, List.countP_cons]
set_option maxRecDepth 20000 in
set_option maxHeartbeats 8000000 in
theorem rlive_any (P base o : Nat) (x : Int) (M : List Slot) (vN vO vD : Value) (W : World) (hG : RG W P base x o M vN vO vD) (hF : ∀ s ∈ M, Fine s) (hr : Rises M) (hl : M.length ≤ 1000) (ho : o ≤ 10) :
    Calls Try.prog 13 #[.pointer (some ⟨P, 0, none⟩)] W fun e w' => e = .returned (.int .i64 (liveM M o : Nat)) ∧ Mo W w' := by
  obtain ⟨r, hr'⟩ : ∃ r, liveM M o = r := ⟨_, rfl⟩
  rw [hr']
  have RR := Lib.hid hr'
  clear hr'
  have HG := Lib.hid hG
  obtain ⟨AN, cN, eN⟩ := row_sl hG.n
  subst eN
  have bP := hG.g
  obtain ⟨N, hN⟩ : ∃ N, M.length = N := ⟨_, rfl⟩
  have HN := Lib.hid hN
  have RI := Lib.hid hr
  have FI := Lib.hid hF
  rw [hN] at hl bP
  clear hG hN hr hF
  go_enter Try.func13, Try.ntmps13
  go_wp2_with fail
  go_loopw [3, 4] (fun s3 s4 wr => ∃ k : Nat, k ≤ o ∧ s4 = .int .i64 k ∧ s3 = .int .u64 ((2 ^ k : Nat) : Int) ∧ Mo W wr) (fun _ s _ => o - (intOf s).toNat)
  case atStart => exact ⟨0, by omega, rfl, rfl, Mo.refl _⟩
  case round =>
    obtain ⟨k, hk, rfl, rfl, hM⟩ := hrel
    have BQ := hM.blk bP
    have hp : (2 : Nat) ^ k ≤ 1024 := Nat.le_trans (Nat.pow_le_pow_right (by decide) (by omega : k ≤ 10)) (by decide)
    have hp1 : 1 ≤ (2 : Nat) ^ k := Nat.one_le_two_pow
    have hs : (2 : Nat) ^ (k + 1) = 2 * 2 ^ k := by rw [Nat.pow_succ]; omega
    obtain ⟨q, hq⟩ : ∃ q : Nat, 2 ^ k = q := ⟨_, rfl⟩
    rw [hq] at hp hp1 hs ⊢
    by_cases ck : k < o
    · have d0 : decide ((k : Int) < o) = true := decide_eq_true (by omega)
      have w2 : IntKind.u64.wrap (2 * (q : Int)) = 2 * q := by rw [IntKind.wrap_u64]; omega
      have HS := Lib.hid hs
      clear hq hs
      go_wp2_with fail
      go_roundw
      case rel => exact ⟨k + 1, by omega, by go_num, by rw [HS.out]; congr 1, hM⟩
      case measure => simp [intOf]; omega
    · obtain rfl : k = o := by omega
      clear hs
      have HQ := Lib.hid hq
      clear hq
      go_wp2_with fail
      go_loopw [5, 6] (fun n i w => ∃ j : Nat, j ≤ N ∧ i = .int .i64 j ∧ n = .int .i64 (((M.take j).countP (nearTo (nwOf M).num k) : Nat) : Int) ∧ Mo W w) (fun _ i _ => N - (intOf i).toNat)
      case atStart => exact ⟨0, by omega, rfl, rfl, hM⟩
      case round =>
        clear hM BQ
        obtain ⟨j, hj, rfl, rfl, hM⟩ := hrel
        have BQ := hM.blk bP
        have hcn : (M.take j).countP (nearTo (nwOf M).num k) ≤ j := Nat.le_trans List.countP_le_length (by rw [List.length_take]; omega)
        by_cases cj : j < N
        · have hjl : j < M.length := by rw [HN.out]; exact cj
          obtain ⟨g, c', cur, e1, B, hc⟩ := num_at (HG.out.mo hM) (by omega)
          rw [HN.out] at e1 hc
          injection e1 with e1 e1a e1b
          subst e1 e1b
          have yj := hc j cj
          have yn := hc (N - 1) (by omega)
          have en : M.getD (N - 1) slot0 = nwOf M := by rw [nw_get, HN.out]
          rw [en] at yn
          have b1 := FI.out (M.getD j slot0) (by rw [List.getD, List.getElem?_eq_getElem hjl]; exact List.getElem_mem _)
          have b2 := FI.out (nwOf M) (by rw [← en, List.getD, List.getElem?_eq_getElem (by rw [HN.out]; omega)]; exact List.getElem_mem _)
          have lt : (M.getD j slot0).num ≤ (nwOf M).num := by
            rw [← en]
            by_cases q1 : j = N - 1
            · rw [q1]; exact Int.le_refl _
            · have h2 : N - 1 < M.length := by rw [HN.out]; omega
              have := List.pairwise_iff_getElem.1 RI.out j (N - 1) hjl h2 (by omega)
              have h3 : (M.getD j slot0).num < (M.getD (N - 1) slot0).num := by simpa [List.getD, List.getElem?_eq_getElem hjl, List.getElem?_eq_getElem h2] using this
              omega
          have CT := cnt_take M (nearTo (nwOf M).num k) j hjl
          have q1 := b1.n1
          have q2 := b1.n2
          have q3 := b2.n1
          have q4 := b2.n2
          have pk : (2 : Int) ^ k = (q : Int) := by rw [← HQ.out]; simp
          unfold nearTo at CT hcn ⊢
          rw [pk] at CT hcn ⊢
          obtain ⟨sj, hsj⟩ : ∃ s, (M.getD j slot0).num = s := ⟨_, rfl⟩
          obtain ⟨sa, hsa⟩ : ∃ s, (nwOf M).num = s := ⟨_, rfl⟩
          rw [hsj] at yj lt q1 q2 CT
          rw [hsa] at yn lt q3 q4 CT hcn ⊢
          obtain ⟨cn, hcn'⟩ : ∃ n, (M.take j).countP (fun s => decide (sa - s.num ≤ (q : Int))) = n := ⟨_, rfl⟩
          rw [hcn'] at CT hcn ⊢
          have wd : IntKind.u64.wrap (wrap64 (sa - sj)) = sa - sj := by rw [IntKind.wrap_u64]; unfold wrap64; omega
          have wl : IntKind.i64.wrap ((N : Int) - 1) = ((N - 1 : Nat) : Int) := by rw [IntKind.wrap_i64]; omega
          have wc : IntKind.i64.wrap ((cn : Int) + 1) = cn + 1 := by rw [IntKind.wrap_i64]; omega
          have i0 : (0 : Int) ≤ j := by omega
          have i1 : (j : Int) < N := by omega
          have i2 : (0 : Int) ≤ ((N - 1 : Nat) : Int) := by omega
          have i3 : ((N - 1 : Nat) : Int) < N := by omega
          have CT' := Lib.hid CT
          clear hc hsj hsa b1 b2 lt q1 q2 q3 q4 e1a en hcn' CT hjl pk
          by_cases cc : sa - sj ≤ (q : Int)
          · have bb : decide (sa - sj ≤ (q : Int)) = true := decide_eq_true cc
            rw [bb] at CT'
            clear cc
            go_upto_region 10 with (fail)
            go_region
            go_wp2_with fail
            go_roundw
            case rel => exact ⟨j + 1, by omega, by go_num, by rw [CT'.out]; rfl, hM.trans Mor.out⟩
            case measure => simp [intOf]; omega
          · have bb : decide (sa - sj ≤ (q : Int)) = false := decide_eq_false cc
            rw [bb] at CT'
            clear cc
            go_upto_region 10 with (fail)
            go_region
            go_wp2_with fail
            go_roundw
            case rel => exact ⟨j + 1, by omega, by go_num, by rw [CT'.out]; rfl, hM.trans Mor.out⟩
            case measure => simp [intOf]; omega
        · obtain rfl : j = N := by omega
          have e : M.take j = M := List.take_of_length_le (by rw [HN.out]; exact Nat.le_refl _)
          rw [e, show M.countP (nearTo (nwOf M).num k) = r from RR.out]
          go_wp2_with fail
          go_ret
          exact ⟨rfl, hM.trans Mor.out⟩
end Go.Proofs.Ytfojgjannhhbaaa
