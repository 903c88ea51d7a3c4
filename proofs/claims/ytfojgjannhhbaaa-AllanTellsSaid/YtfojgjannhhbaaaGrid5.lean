/- allan: Told. -/
import Derived.Test.YtfojgjannhhbaaaGrid4
import Derived.Test.YtfojgjannhhbaaaRootV
import Derived.Laws.AppendOwn
namespace Go.Proofs.Ytfojgjannhhbaaa
open Go.RowKit

structure Tau where
  slots : Int
  count : Int
  sum : Int
  dev : Int
abbrev tauC (t : Tau) : Array Value := #[.int .i64 t.slots, .int .i64 t.count, .int .i64 (hiW t.sum), .int .u64 (loW t.sum), .int .u64 t.dev]
abbrev tauL (t : Tau) : List Value := [.int .i64 t.slots, .int .i64 t.count, .int .i64 (hiW t.sum), .int .u64 (loW t.sum), .int .u64 t.dev]
noncomputable def devT (c s : Int) : Int := if 0 < c then rootV (s / (2 * c)) else 0
noncomputable def tauT (t : Tot) (k : Nat) : Tau := ⟨2 ^ k, (t k).1, (t k).2, devT (t k).1 (t k).2⟩
noncomputable def tausT (t : Tot) (o : Nat) : List Tau := (List.range o).map (tauT t)
def tauRow (l : List Tau) : List Value := l.flatMap tauL
set_option maxRecDepth 20000 in
theorem tauRow_snoc (l : List Tau) (x : Tau) : tauRow (l ++ [x]) = tauRow l ++ tauL x := by unfold tauRow; simp
set_option maxRecDepth 20000 in
theorem tausT_succ (t : Tot) (k : Nat) : tausT t (k + 1) = tausT t k ++ [tauT t k] := by unfold tausT; rw [List.range_succ, List.map_append]; rfl
set_option maxRecDepth 20000 in
theorem tausT_len (t : Tot) (k : Nat) : (tausT t k).length = k := by unfold tausT; simp
set_option maxRecDepth 20000 in
theorem tauRow_len (l : List Tau) : (tauRow l).length = l.length * 5 := by
  unfold tauRow
  induction l with
  | nil => rfl
  | cons x xs ih => rw [List.flatMap_cons, List.length_append, ih, List.length_cons]; simp; omega
set_option maxRecDepth 20000 in
theorem news_of_blk {w : World} {g : Nat} {t : TypeId} {cs : Array Value} (h : Blk w g t cs) (l : List Value) (hl : l = cs.toList) : ∀ j u, l[j]? = some u → w.cell? ((⟨g, 0, none⟩ : Addr).add j) = some u := by
  intro j u hj
  have e : (⟨g, 0, none⟩ : Addr).add j = ⟨g, j, none⟩ := by rw [Addr.add_mid, Nat.zero_add]
  rw [e, blk_cell h, ← Array.getElem?_toList, ← hl]
  exact hj
set_option maxRecDepth 20000 in
theorem infoTau : (Try.prog.info? 48).map (fun i => (i.zero, i.size, i.bytes)) = some (some (.agg (tauC ⟨0, 0, 0, 0⟩)), 5, 40) := by kernel_rfl
set_option maxRecDepth 20000 in
theorem divzero (c s : Int) (h : ¬ 0 < c) : devT c s = 0 := by unfold devT; rw [if_neg h]
set_option maxRecDepth 20000 in
theorem divpos (c s : Int) (h : 0 < c) : devT c s = rootV (s / (2 * c)) := by unfold devT; rw [if_pos h]

set_option maxRecDepth 20000 in
theorem owns_base {w : World} {b b' : Nat} {e : TypeId} {size : Nat} {v : Value} {n : Nat} {xs : List Value} (h : w.ownsRow b e size v n xs) (hb : b' ≤ b) : w.ownsRow b' e size v n xs := by
  refine ⟨h.1, ?_⟩
  rcases h.2 with hn | ⟨g, cap, cur, rfl, hg, rest⟩
  · exact .inl hn
  · exact .inr ⟨g, cap, cur, rfl, Nat.le_trans hb hg, rest⟩
/-- what Told returns -/
def ToldRet (l : List Tau) (W : World) (e : Ending) (w' : World) : Prop := ∃ v, e = .returned v ∧ w'.ownsRow W.heap.size 48 5 v l.length (tauRow l) ∧ Mo W w'
set_option maxRecDepth 20000 in
set_option maxHeartbeats 4000000 in
theorem told_grid (p r R C o : Nat) (x : Int) (nw : Slot) (t : Tot) (ty : TypeId) (f : Nat → Slot) (W : World) (hR : 0 < R) (hR2 : R ≤ 1025) (ho : o ≤ 10)
    (n1 : -9223372036854775808 ≤ nw.num) (n2 : nw.num ≤ 9223372036854775807) (o1 : Near nw.off) (hf : ∀ i, Near (f i).off)
    (hc : ∀ k, k < 10 → 0 ≤ (t k).1 ∧ (t k).1 ≤ 1000000 ∧ 0 ≤ (t k).2 ∧ (t k).2 ≤ 85070591730234615865843651857942052864)
    (hc' : ∀ k, k < 10 → 0 ≤ (withK R f nw t o k).1 ∧ (withK R f nw t o k).1 ≤ 1000000 ∧ InW (withK R f nw t o k).2)
    (hB : Blk W p ty (gridC x o r R C nw t)) (hB' : RingAt W r R f) :
    Calls Try.prog 15 #[.pointer (some ⟨p, 0, none⟩)] W (ToldRet (tausT (withK R f nw t o) o) W) := by
  have c1 : W.cell? ⟨p, 1, none⟩ = some (.int .i64 o) := by rw [blk_cell hB, gridC_lo _ _ _ _ _ _ _ _ (by omega)]; rfl
  have c3 : W.cell? ⟨p, 3, none⟩ = some (.bool nw.some) := by rw [blk_cell hB, gridC_lo _ _ _ _ _ _ _ _ (by omega)]; rfl
  have c4 : W.cell? ⟨p, 4, none⟩ = some (.int .i64 nw.num) := by rw [blk_cell hB, gridC_lo _ _ _ _ _ _ _ _ (by omega)]; rfl
  have c5 : W.cell? ⟨p, 5, none⟩ = some (.int .i64 nw.off) := by rw [blk_cell hB, gridC_lo _ _ _ _ _ _ _ _ (by omega)]; rfl
  have c6 : W.cell? ⟨p, 6, none⟩ = some (.int .i64 nw.del) := by rw [blk_cell hB, gridC_lo _ _ _ _ _ _ _ _ (by omega)]; rfl
  have LP : LtW p W := LtW.of_cell c1
  have WI := Lib.hid (with_any p r R C o x nw nw t ty f W hR hR2 ho n1 n2 o1 hf hc hB hB')
  have HC := Lib.hid hc'
  clear hc hf hB hB' hc' n1 n2 o1
  generalize withK R f nw t o = tt at *
  obtain ⟨sm, nm, of, dl⟩ := nw
  simp only at c3 c4 c5 c6
  obtain ⟨i0, hi, hz0, hz1, hz2⟩ := info_parts infoTau
  go_enter Try.func15, Try.ntmps15
  go_wp2_with fail
  refine WI.out.mono ?_; rintro e w1 ⟨rfl, J1, d1, rfl⟩
  go_wp2_with fail
  have IH : Hid (∃ V, V = (more W J1 d1).alloc (.cells (totC tt) 60)) := Lib.hid ⟨_, rfl⟩
  obtain ⟨V, hV⟩ := IH.out
  rw [← hV]
  have MV : Mo W V := by rw [hV]; exact Mor.out
  have BV : Blk V (W.heap.size + J1.size) 60 (totC tt) := by rw [hV]; infer_instance
  clear hV IH
  generalize W.heap.size + J1.size = x3 at *
  go_loopw [4, 5, 22] (fun v _ i wr => ∃ k : Nat, k ≤ o ∧ i = .int .i64 k ∧ wr.ownsRow V.heap.size 48 5 v k (tauRow (tausT tt k)) ∧ Mo V wr) (fun _ _ i _ => o - (intOf i).toNat)
  case atStart => exact ⟨0, by omega, rfl, World.ownsRow_nil _ _ _ _, Mo.refl _⟩
  case round =>
    obtain ⟨k, hk, rfl, hown, hM⟩ := hrel
    by_cases ck : k < o
    · have hB := hM.blk BV
      obtain ⟨q1, q2, q3⟩ := HC.out k (by omega)
      have LX : LtW x3 wr := ⟨hB.lt⟩
      have e0 : wr.cell? ⟨x3, k * 3, none⟩ = some (.int .i64 (tt k).1) := by rw [blk_cell hB]; exact totC_g0 tt k (by omega)
      have e1 : wr.cell? ⟨x3, k * 3 + 1, none⟩ = some (.int .i64 (hiW (tt k).2)) := by rw [blk_cell hB]; exact totC_g1 tt k (by omega)
      have e2 : wr.cell? ⟨x3, k * 3 + 2, none⟩ = some (.int .u64 (loW (tt k).2)) := by rw [blk_cell hB]; exact totC_g2 tt k (by omega)
      have HT := Lib.hid (tausT_succ tt k)
      unfold tauT at HT
      generalize tt k = q at *
      obtain ⟨c, s⟩ := q
      simp only at q1 q2 q3 e0 e1 e2 HT
      obtain ⟨m, hm⟩ : ∃ m : Int, (2 : Int) ^ k = m := ⟨_, rfl⟩
      have hmb := two_pow_10 (show k < 10 by omega)
      rw [hm] at HT hmb
      have hm2 : wrap64 (2 ^ k) = m := by rw [hm]; unfold wrap64; omega
      have hm3 : IntKind.i64.wrap (2 ^ k) = m := by rw [hm, IntKind.wrap_i64]; omega
      have i1 : (0 : Int) ≤ k := by omega
      have i2 : (k : Int) < 10 := by omega
      clear hm
      go_wp2_with fail
      go_region_held3 (fun w' => w'.cell? ⟨x3, k * 3, none⟩ = some (.int .i64 c) ∧ w'.cell? ⟨x3, k * 3 + 1, none⟩ = some (.int .i64 (hiW s)) ∧ w'.cell? ⟨x3, k * 3 + 2, none⟩ = some (.int .u64 (loW s))) (simp [go_sem, e0, e1, e2])
        (fail)
      all_goals
        rename_i hHeld
        clear hHeld e0 e1 e2 hm2 hm3
        by_cases cp : 0 < c
        · have D1 := Lib.hid (fun w => div_any s (2 * c) q3 (by omega) (by omega) w)
          have R1 := Lib.hid (fun w => root_any (s / (2 * c)) (inW_div q3 (by omega)) w)
          go_wp2_with fail
          refine (D1.out _).mono ?_; rintro e w1 ⟨rfl, J4, d4, rfl⟩
          go_wp2_with fail
          refine (R1.out _).mono ?_; rintro e w1 ⟨rfl, J5, d5, rfl⟩
          go_wp2_with (at_builtin; refine wpList_append_own _ rfl _ _ 40 rfl V.heap.size 48 i0 (.agg (tauC ⟨0, 0, 0, 0⟩)) 5 40 Try.underlying40 hi hz0 hz1 hz2 rfl (by decide) _ _ _ rfl (owns_mo hown (Mor.out : Mo wr _)) _ 1 1 (tauL ⟨m, c, s, rootV (s / (2 * c))⟩) rfl rfl ?c1 ?c2 ?c3 ?c4 ?c5 ?_)
          case c1 => exact news_of_blk (cs := tauC ⟨m, c, s, rootV (s / (2 * c))⟩) (t := 48) (by infer_instance) _ rfl
          case c2 => simp [Value.oneCell']
          case c3 => unfold maxLen; omega
          case c4 => omega
          case c5 => exact (hM.trans (Mor.out : Mo wr _)).size
          intro v' w2 hown1 hgrow _
          have hM2 : Mo V w2 := mo_grown (hM.trans (Mor.out : Mo wr _)) hgrow (fun k e => (hown.lt k e).1)
          have hown2 : w2.ownsRow V.heap.size 48 5 v' (k + 1) (tauRow (tausT tt (k + 1))) := by rw [HT.out, tauRow_snoc, divpos c s cp]; exact hown1
          clear hown hown1 hgrow hB hM
          go_wp2_with fail
          go_roundw
          case rel => exact ⟨k + 1, by omega, by go_num, hown2, hM2⟩
          case measure => simp [intOf]; omega
        · have DZ := divzero c s cp
          have c0 : c = 0 := by omega
          subst c0
          go_wp2_with (at_builtin; refine wpList_append_own _ rfl _ _ 40 rfl V.heap.size 48 i0 (.agg (tauC ⟨0, 0, 0, 0⟩)) 5 40 Try.underlying40 hi hz0 hz1 hz2 rfl (by decide) _ _ _ rfl (owns_mo hown (Mor.out : Mo wr _)) _ 1 1 (tauL ⟨m, 0, s, 0⟩) rfl rfl ?d1 ?d2 ?d3 ?d4 ?d5 ?_)
          try (case d1 => exact news_of_blk (cs := tauC ⟨m, 0, s, 0⟩) (t := 48) (by infer_instance) _ rfl)
          case d2 => simp [Value.oneCell']
          case d3 => unfold maxLen; omega
          case d4 => omega
          case d5 => have := hM.size; first | omega | (simp; omega)
          intro v' w2 hown1 hgrow _
          have hM2 : Mo V w2 := mo_grown (hM.trans (Mor.out : Mo wr _)) hgrow (fun k e => (hown.lt k e).1)
          have hown2 : w2.ownsRow V.heap.size 48 5 v' (k + 1) (tauRow (tausT tt (k + 1))) := by rw [HT.out, tauRow_snoc, DZ]; exact hown1
          clear hown hown1 hgrow hB hM
          go_wp2_with fail
          go_roundw
          case rel => exact ⟨k + 1, by omega, by go_num, hown2, hM2⟩
          case measure => simp [intOf]; omega
    · obtain rfl : k = o := by omega
      clear HC WI
      have hl := tausT_len tt k
      go_wp2_with fail
      go_ret
      exact ⟨_, rfl, by rw [hl]; exact owns_base hown MV.size, MV.trans hM⟩
end Go.Proofs.Ytfojgjannhhbaaa
