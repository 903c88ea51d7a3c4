/- horologeref36.Of: what it keeps in memory. -/
import Derived.Test.YthgkhllkhhnlpaaPlS
import Derived.Test.YthgkhllkhhnlpaaRefT
import Derived.Test.YthgkhllkhhnlpaaRGr
namespace Go.Proofs.Ythgkhllkhhnlpaa
open Go.RowKit Go.Maps

/-! ### the reference's grid -/
structure RGE (w : World) (P base : Nat) (x o : Int) (M : List Slot) : Prop where
  ex : ∃ vN vO vD, RG w P base x o M vN vO vD
set_option maxRecDepth 20000 in
theorem RGE.mo {W w : World} {P base : Nat} {x o : Int} {M : List Slot} (h : RGE W P base x o M) (k : Mo W w) : RGE w P base x o M := by
  obtain ⟨a, b, c, h⟩ := h.ex
  exact ⟨a, b, c, h.mo k⟩
set_option maxRecDepth 20000 in
theorem sep_nilP : Sep (.slice none 0 0) (.slice none 0 0) := fun _ h => (by simp [Value.ownBlock] at h)
set_option maxRecDepth 20000 in
theorem RGE.start {w : World} {P base : Nat} {x o : Int} (b : Blk w P 112 #[.int .i64 x, .int .i64 o, .slice none 0 0, .slice none 0 0, .slice none 0 0]) : RGE w P base x o [] :=
  ⟨_, _, _, b, ⟨rfl, .inl ⟨rfl, rfl⟩⟩, ⟨rfl, .inl ⟨rfl, rfl⟩⟩, ⟨rfl, .inl ⟨rfl, rfl⟩⟩, sep_nilP, sep_nilP, sep_nilP⟩
set_option maxRecDepth 20000 in
theorem rput_P (P base : Nat) (x o : Int) (M : List Slot) (a off del : Int) (W : World) (h : RGE W P base x o M) (hl : M.length ≤ 1000) (ha : InW a) (x1 : 1 ≤ x) (x2 : x ≤ 1152921504606846976) (hb : base ≤ W.heap.size) :
    Calls Try.prog 39 #[.pointer (some ⟨P, 0, none⟩), WV a, .int .i64 off, .int .i64 del] W fun e w' => ∃ v, e = .returned v ∧ RGE w' P base x o (putM M (clip (a / x)) off del).1 ∧ KeptR P base W w' := by
  obtain ⟨vN, vO, vD, h⟩ := h.ex
  exact (rput_any P base x o M vN vO vD a off del W h hl ha x1 x2 hb).mono fun e w' ⟨h1, h2, h3⟩ => ⟨_, h1, ⟨h2⟩, h3⟩
set_option maxRecDepth 20000 in
theorem rlive_P (P base o : Nat) (x : Int) (M : List Slot) (W : World) (h : RGE W P base x o M) (ok : MOk M 1000) (ho : o ≤ 10) :
    Calls Try.prog 43 #[.pointer (some ⟨P, 0, none⟩)] W fun e w' => e = .returned (.int .i64 (liveM M o : Nat)) ∧ Mo W w' := by
  obtain ⟨vN, vO, vD, h⟩ := h.ex
  exact rlive_any P base o x M vN vO vD W h ok.fine ok.rises ok.len ho
set_option maxRecDepth 20000 in
theorem rtold_P (P base o : Nat) (x : Int) (M : List Slot) (W : World) (h : RGE W P base x o M) (ok : MOk M 1000) (ho : o ≤ 10) :
    Calls Try.prog 40 #[.pointer (some ⟨P, 0, none⟩)] W (ToldRet (taus M o) W) := by
  obtain ⟨vN, vO, vD, h⟩ := h.ex
  exact rtold_any P base o x M vN vO vD W h ok.fine ok.rises ok.len ho
set_option maxRecDepth 20000 in
theorem grid_ok (x : Int) (l : List Smp) : MOk (gridD x l) l.length := by
  refine snoc_indD (p := fun l => MOk (gridD x l) l.length) (mok_nil 0) (fun l S ih => ?_) l
  have e : gridD x (l ++ [S]) = (putM (gridD x l) (clip (S.t4 / x)) S.o S.d).1 := by unfold gridD; rw [List.foldl_append]; rfl
  rw [e, List.length_append, List.length_singleton]
  obtain ⟨n1, n2⟩ := clip_bd (S.t4 / x)
  exact putM_ok ih _ _ _ n1 n2
set_option maxRecDepth 20000 in
theorem grid_snoc (x : Int) (l : List Smp) (j : Nat) (h : j < l.length) : gridD x (l.take (j + 1)) = (putM (gridD x (l.take j)) (clip ((l[j]).t4 / x)) (l[j]).o (l[j]).d).1 := by
  rw [List.take_add_one, List.getElem?_eq_getElem h]
  unfold gridD
  rw [List.foldl_append]
  rfl
/-! ### what is told: its cells -/
def tdL (c : Nat → Int) (A B D : List Value) (tv sv : Value) (lv : Int) : List Value := [.int .i64 (c 0), .int .i64 (c 1), .int .i64 (c 2), .int .i64 (c 3), .int .i64 (c 4), .int .i64 (c 5), .int .i64 (c 6), .int .i64 (c 7), .int .i64 (c 8)] ++ A ++ B ++ D ++ [tv, sv, .int .i64 lv]
def tdC (c : Nat → Int) (A B D : List Value) (tv sv : Value) (lv : Int) : Array Value := (tdL c A B D tv sv lv).toArray
def z6L : List Value := [.int .i64 0, .int .i64 0, .int .i64 0, .int .i64 0, .int .i64 0, .int .u64 0]
noncomputable def totS6 (S : St) : List Value := [.int .i64 S.c, .int .i64 S.w, .int .i64 S.lo, .int .i64 S.hi, .int .i64 (meanS S), .int .u64 (spreadS S)]
set_option maxRecDepth 20000 in
theorem totS6_eq (S : St) : (TV S : Value) = .agg (totS6 S).toArray := rfl
set_option maxRecDepth 20000 in
theorem len6 {A : List Value} (h : A.length = 6) : ∃ a b c d e f, A = [a, b, c, d, e, f] := by
  match A, h with
  | [a, b, c, d, e, f], _ => exact ⟨a, b, c, d, e, f, rfl⟩
section
variable {c : Nat → Int} {A B D : List Value} {tv sv : Value} {lv : Int} (hA : A.length = 6) (hB : B.length = 6) (hD : D.length = 6)
include hA hB hD
set_option maxRecDepth 20000 in
theorem td_size : (tdC c A B D tv sv lv).size = 30 := by
  unfold tdC tdL
  simp [hA, hB, hD]
set_option maxRecDepth 20000 in
theorem td_lo (k : Nat) (hk : k < 9) : (tdC c A B D tv sv lv)[k]? = some (.int .i64 (c k)) := by
  obtain ⟨a1, a2, a3, a4, a5, a6, rfl⟩ := len6 hA
  obtain ⟨b1, b2, b3, b4, b5, b6, rfl⟩ := len6 hB
  obtain ⟨d1, d2, d3, d4, d5, d6, rfl⟩ := len6 hD
  unfold tdC
  rw [List.getElem?_toArray]
  rcases (show k = 0 ∨ k = 1 ∨ k = 2 ∨ k = 3 ∨ k = 4 ∨ k = 5 ∨ k = 6 ∨ k = 7 ∨ k = 8 by omega) with rfl | rfl | rfl | rfl | rfl | rfl | rfl | rfl | rfl <;> rfl
set_option maxRecDepth 20000 in
theorem td_inc (k : Nat) (hk : k < 9) : (tdC c A B D tv sv lv).setIfInBounds k (.int .i64 (c k + 1)) = tdC (incF c k) A B D tv sv lv := by
  obtain ⟨a1, a2, a3, a4, a5, a6, rfl⟩ := len6 hA
  obtain ⟨b1, b2, b3, b4, b5, b6, rfl⟩ := len6 hB
  obtain ⟨d1, d2, d3, d4, d5, d6, rfl⟩ := len6 hD
  unfold tdC
  apply Array.toList_inj.1
  rw [Array.toList_setIfInBounds]
  rcases (show k = 0 ∨ k = 1 ∨ k = 2 ∨ k = 3 ∨ k = 4 ∨ k = 5 ∨ k = 6 ∨ k = 7 ∨ k = 8 by omega) with rfl | rfl | rfl | rfl | rfl | rfl | rfl | rfl | rfl <;> rfl
set_option maxRecDepth 20000 in
theorem td_A (A' : List Value) (h : A'.length = 6) : spliceL (tdL c A B D tv sv lv) 9 A' = tdL c A' B D tv sv lv := by
  obtain ⟨a1, a2, a3, a4, a5, a6, rfl⟩ := len6 hA
  obtain ⟨b1, b2, b3, b4, b5, b6, rfl⟩ := len6 hB
  obtain ⟨d1, d2, d3, d4, d5, d6, rfl⟩ := len6 hD
  obtain ⟨e1, e2, e3, e4, e5, e6, rfl⟩ := len6 h
  rfl
set_option maxRecDepth 20000 in
theorem td_B (A' : List Value) (h : A'.length = 6) : spliceL (tdL c A B D tv sv lv) 15 A' = tdL c A A' D tv sv lv := by
  obtain ⟨a1, a2, a3, a4, a5, a6, rfl⟩ := len6 hA
  obtain ⟨b1, b2, b3, b4, b5, b6, rfl⟩ := len6 hB
  obtain ⟨d1, d2, d3, d4, d5, d6, rfl⟩ := len6 hD
  obtain ⟨e1, e2, e3, e4, e5, e6, rfl⟩ := len6 h
  rfl
set_option maxRecDepth 20000 in
theorem td_D (A' : List Value) (h : A'.length = 6) : spliceL (tdL c A B D tv sv lv) 21 A' = tdL c A B A' tv sv lv := by
  obtain ⟨a1, a2, a3, a4, a5, a6, rfl⟩ := len6 hA
  obtain ⟨b1, b2, b3, b4, b5, b6, rfl⟩ := len6 hB
  obtain ⟨d1, d2, d3, d4, d5, d6, rfl⟩ := len6 hD
  obtain ⟨e1, e2, e3, e4, e5, e6, rfl⟩ := len6 h
  rfl
set_option maxRecDepth 20000 in
theorem td_tv (v : Value) : (tdC c A B D tv sv lv).setIfInBounds 27 v = tdC c A B D v sv lv := by
  obtain ⟨a1, a2, a3, a4, a5, a6, rfl⟩ := len6 hA
  obtain ⟨b1, b2, b3, b4, b5, b6, rfl⟩ := len6 hB
  obtain ⟨d1, d2, d3, d4, d5, d6, rfl⟩ := len6 hD
  unfold tdC
  apply Array.toList_inj.1
  rw [Array.toList_setIfInBounds]
  rfl
set_option maxRecDepth 20000 in
theorem td_sv (v : Value) : (tdC c A B D tv sv lv).setIfInBounds 28 v = tdC c A B D tv v lv := by
  obtain ⟨a1, a2, a3, a4, a5, a6, rfl⟩ := len6 hA
  obtain ⟨b1, b2, b3, b4, b5, b6, rfl⟩ := len6 hB
  obtain ⟨d1, d2, d3, d4, d5, d6, rfl⟩ := len6 hD
  unfold tdC
  apply Array.toList_inj.1
  rw [Array.toList_setIfInBounds]
  rfl
set_option maxRecDepth 20000 in
theorem td_lv (x : Int) : (tdC c A B D tv sv lv).setIfInBounds 29 (.int .i64 x) = tdC c A B D tv sv x := by
  obtain ⟨a1, a2, a3, a4, a5, a6, rfl⟩ := len6 hA
  obtain ⟨b1, b2, b3, b4, b5, b6, rfl⟩ := len6 hB
  obtain ⟨d1, d2, d3, d4, d5, d6, rfl⟩ := len6 hD
  unfold tdC
  apply Array.toList_inj.1
  rw [Array.toList_setIfInBounds]
  rfl
set_option maxRecDepth 20000 in
theorem td_27 : (tdC c A B D tv sv lv)[27]? = some tv := by
  obtain ⟨a1, a2, a3, a4, a5, a6, rfl⟩ := len6 hA
  obtain ⟨b1, b2, b3, b4, b5, b6, rfl⟩ := len6 hB
  obtain ⟨d1, d2, d3, d4, d5, d6, rfl⟩ := len6 hD
  unfold tdC
  rw [List.getElem?_toArray]
  rfl
set_option maxRecDepth 20000 in
theorem td_28 : (tdC c A B D tv sv lv)[28]? = some sv := by
  obtain ⟨a1, a2, a3, a4, a5, a6, rfl⟩ := len6 hA
  obtain ⟨b1, b2, b3, b4, b5, b6, rfl⟩ := len6 hB
  obtain ⟨d1, d2, d3, d4, d5, d6, rfl⟩ := len6 hD
  unfold tdC
  rw [List.getElem?_toArray]
  rfl
set_option maxRecDepth 20000 in
theorem td_29 : (tdC c A B D tv sv lv)[29]? = some (.int .i64 lv) := by
  obtain ⟨a1, a2, a3, a4, a5, a6, rfl⟩ := len6 hA
  obtain ⟨b1, b2, b3, b4, b5, b6, rfl⟩ := len6 hB
  obtain ⟨d1, d2, d3, d4, d5, d6, rfl⟩ := len6 hD
  unfold tdC
  rw [List.getElem?_toArray]
  rfl
end
set_option maxRecDepth 20000 in
instance row_td : RowT 67 30 := ⟨by kernel_rfl, by kernel_rfl⟩
set_option maxRecDepth 20000 in
theorem storeF_totS6 (v x : Value) : Instr.storeAt 58 v x = storeF 58 v x := rfl
set_option maxRecDepth 20000 in
theorem loadF_td (v : Value) : Instr.loadAt 67 v = loadF 67 v := rfl
set_option maxRecDepth 20000 in
theorem storeF_td (v x : Value) : Instr.storeAt 67 v x = storeF 67 v x := rfl
/-! ### Told of a row -/
set_option maxRecDepth 20000 in
theorem rtold_row {b n : Nat} {W : World} {v : Value} {xs : List Int} (h : W.ownsRow b 2 1 v n (i64L xs)) (hn : xs.length = n) (hl : n ≤ 1000) :
    Calls Try.prog 38 #[v] W fun e w' => e = .returned (.agg (totS6 (sumL xs)).toArray) ∧ Mo W w' := by
  subst hn
  by_cases c : xs.length = 0
  · obtain rfl : xs = [] := List.length_eq_zero_iff.1 c
    obtain ⟨A, cp, rfl⟩ := row_sl h
    exact rtold_empty A cp W
  · obtain ⟨g, cp, cur, rfl, hb, B, hc, R⟩ := row_at h (by omega)
    refine rtold_some xs g 0 cp W (by omega) (by omega) fun j hj => ?_
    rw [Nat.zero_add, blk_cell B, R j hj]
    simp [List.getD, List.getElem?_eq_getElem hj]
/-! ### appends -/
set_option maxRecDepth 20000 in
theorem owns_blkP {w w' : World} {b T s n : Nat} {v : Value} {xs : List Value} (h : w.ownsRow b T s v n xs) (k : ∀ q cs, Blk w q T cs → Blk w' q T cs) : w'.ownsRow b T s v n xs := by
  refine ⟨h.1, ?_⟩
  rcases h.2 with q | ⟨g, cap, cur, rfl, hb, hg, rest⟩
  · exact .inl q
  · exact .inr ⟨g, cap, cur, rfl, hb, (k g cur ⟨hg⟩).out, rest⟩
set_option maxRecDepth 20000 in
theorem AdsIs.keep {w w' : World} {b : Nat} {v : Value} {ns : List (Array Value)} (h : AdsIs b w v ns) (k : ∀ q cs, Blk w q 35 cs → Blk w' q 35 cs) : AdsIs b w' v ns := ⟨owns_blkP h.row k, h.ok⟩
abbrev z48 : Array Value := #[.bool false, .int .u8 0, .int .u8 0, .int .u8 0, .int .u8 0, .int .u8 0, .int .u8 0, .int .u8 0, .int .u8 0, .int .u8 0, .int .u8 0, .int .u8 0, .int .u8 0, .int .u8 0, .int .u8 0, .int .u8 0, .int .u8 0, .int .u16 0, .bool false, .int .u8 0, .int .u8 0, .int .u8 0, .int .u8 0, .int .u8 0, .int .u8 0, .int .u8 0, .int .u8 0, .int .u8 0, .int .u8 0, .int .u8 0, .int .u8 0, .int .u8 0, .int .u8 0, .int .u8 0, .int .u8 0, .int .u16 0, .int .i64 0, .int .u64 0, .int .i64 0, .int .u64 0, .int .i64 0, .int .u64 0, .int .i64 0, .int .u64 0, .int .i64 0, .int .i64 0, .int .i64 0, .int .u8 0]
set_option maxRecDepth 20000 in
theorem infoSM : (Try.prog.info? 45).map (fun i => (i.zero, i.size, i.bytes)) = some (some (.agg z48), 48, 136) := by kernel_rfl
def buildSM (n : Nat) (l : Array (Nat × Value)) : Sem Value := Instr.buildSlice 107 n l
set_option maxRecDepth 20000 in
theorem buildSM_fold (n : Nat) (l : Array (Nat × Value)) : Instr.buildSlice 107 n l = buildSM n l := rfl
set_option maxRecDepth 20000 in
theorem run_buildSM (c : Array Value) [hc : SzA c 48] (w : World) : (buildSM 1 #[(0, .agg c)]).run Try.prog w = .ok (.slice (some ⟨w.heap.size, 0, none⟩) 1 1) (w.alloc (.cells c 45)) := by
  obtain ⟨i0, hi, hz0, hz1, hz2⟩ := info_parts infoSM
  have h0 := hc.out
  refine run_buildSlice w _ _ 1 _ _ i0 (.agg z48) Try.underlying107 hi hz0 (by rw [hz1]; decide) (by rw [hz1]; decide) ?_
  rw [hz1]
  show Instr.fill (fun i => some (i * 48, 48)) _ [(0, .agg c)] = _
  unfold Instr.fill
  have e1 : (Value.agg c).cells = c := rfl
  simp only [e1]
  rw [if_neg (by simp [h0])]
  unfold Instr.fill
  congr 1
  apply Array.toList_inj.1
  rw [← Array.foldl_toList, Array.toList_zipIdx, foldl_spliceP (0 * 48) c.toList 0 _ (by simp [h0])]
  unfold spliceL
  simp [h0]
set_option maxRecDepth 20000 in
theorem app_smp (w : World) (base n : Nat) (v : Value) (xs : List Value) (c : Array Value) [hc : SzA c 48] [oc : OneA c] (h : w.ownsRow base 45 48 v n xs) (hx : xs.length = n * 48) (hn : n ≤ 100000) (hb : base ≤ w.heap.size) :
    ∃ g cp w', (appS #[107, 107] 107 #[v, .slice (some ⟨w.heap.size, 0, none⟩) 1 1]).run Try.prog (w.alloc (.cells c 45)) = .ok (.slice (some ⟨g, 0, none⟩) (n + 1) cp) w' ∧
      w'.ownsRow base 45 48 (.slice (some ⟨g, 0, none⟩) (n + 1) cp) (n + 1) (xs ++ c.toList) ∧ KpS (fun i => v.ownBlock = some i) w w' := by
  obtain ⟨i0, hi0, hz0, hz1, hz2⟩ := info_parts infoSM
  have hT := (Mor.out : Mo w (w.alloc (.cells c 45)))
  obtain ⟨v6, w6, hrun, hown, hgrow, -, -⟩ := run_append_own_at (P := Try.prog) (w.alloc (.cells c 45)) base 107 107 45 i0 (.agg z48) 48 136 Try.underlying107 hi0 hz0 hz1 hz2 rfl (by decide) _ _ _ (owns_mo h hT) ⟨w.heap.size, 0, none⟩ 1 1 c.toList (by rw [Array.length_toList, hc.out]) (news_of_blkS (t := 45) (cs := c) inferInstance _ rfl) (fun u hu => by have := oc.out; simp at this; obtain ⟨i, hi, rfl⟩ := List.mem_iff_getElem.1 hu; exact this i (by simpa using hi)) (by unfold maxLen; omega) (by omega) (by simp; omega)
  obtain ⟨g6, c6, ev6⟩ := own_succS hown
  subst ev6
  exact ⟨g6, c6, w6, hrun, hown, (KpS.of_mo hT).trans (kpS_grownS hgrow) fun _ _ q => q⟩
set_option maxRecDepth 20000 in
theorem infoRS : (Try.prog.info? 115).map (fun i => (i.zero, i.size, i.bytes)) = some (some (.agg #[.int .u64 0, .int .i64 0, .int .i64 0]), 3, 24) := by kernel_rfl
set_option maxRecDepth 20000 in
theorem app_rst (w : World) (base n : Nat) (v : Value) (xs : List Value) (a x y : Int) (h : w.ownsRow base 115 3 v n xs) (hx : xs.length = n * 3) (hn : n ≤ 100000) (hb : base ≤ w.heap.size) :
    ∃ g cp w', (appS #[65, 65] 65 #[v, .slice (some ⟨w.heap.size, 0, none⟩) 1 1]).run Try.prog (w.alloc (.cells #[.int .u64 a, .int .i64 x, .int .i64 y] 115)) = .ok (.slice (some ⟨g, 0, none⟩) (n + 1) cp) w' ∧
      w'.ownsRow base 115 3 (.slice (some ⟨g, 0, none⟩) (n + 1) cp) (n + 1) (xs ++ [.int .u64 a, .int .i64 x, .int .i64 y]) ∧ KpS (fun i => v.ownBlock = some i) w w' := by
  obtain ⟨i0, hi0, hz0, hz1, hz2⟩ := info_parts infoRS
  have hT := (Mor.out : Mo w (w.alloc (.cells #[.int .u64 a, .int .i64 x, .int .i64 y] 115)))
  obtain ⟨v6, w6, hrun, hown, hgrow, -, -⟩ := run_append_own_at (P := Try.prog) (w.alloc (.cells #[.int .u64 a, .int .i64 x, .int .i64 y] 115)) base 65 65 115 i0 (.agg #[.int .u64 0, .int .i64 0, .int .i64 0]) 3 24 Try.underlying65 hi0 hz0 hz1 hz2 rfl (by decide) _ _ _ (owns_mo h hT) ⟨w.heap.size, 0, none⟩ 1 1 [.int .u64 a, .int .i64 x, .int .i64 y] rfl (news_of_blkS (t := 115) (cs := #[.int .u64 a, .int .i64 x, .int .i64 y]) inferInstance _ rfl) (fun u hu => by simp at hu; rcases hu with rfl | rfl | rfl <;> rfl) (by unfold maxLen; omega) (by omega) (by simp; omega)
  obtain ⟨g6, c6, ev6⟩ := own_succS hown
  subst ev6
  exact ⟨g6, c6, w6, hrun, hown, (KpS.of_mo hT).trans (kpS_grownS hgrow) fun _ _ q => q⟩
/-! ### the deeds of a number, taken in -/
structure RefR (b : Nat) (w : World) (p : Nat) (L : List Deed) (v9 v10 v11 v12 : Value) : Prop where
  s : SmpsIs b w v9 (smpD L)
  a : w.ownsRow b 2 1 v10 (smpD L).length (i64L ((smpD L).map (·.o)))
  d : w.ownsRow b 2 1 v11 (smpD L).length (i64L ((smpD L).map (·.d)))
  e : w.ownsRow b 2 1 v12 (smpD L).length (i64L ((smpD L).map (·.s)))
  ad : Sep v10 v11
  ae : Sep v10 v12
  de : Sep v11 v12
  o : Blk w p 67 (tdC (cntD L) z6L z6L z6L (.slice none 0 0) (.slice none 0 0) 0)
set_option maxRecDepth 20000 in
theorem RefR.mo {b : Nat} {w w' : World} {p : Nat} {L : List Deed} {v9 v10 v11 v12 : Value} (h : RefR b w p L v9 v10 v11 v12) (m : Mo w w') : RefR b w' p L v9 v10 v11 v12 := ⟨h.s.mo m, owns_mo h.a m, owns_mo h.d m, owns_mo h.e m, h.ad, h.ae, h.de, m.blk h.o⟩
set_option maxRecDepth 20000 in
theorem RefR.start {b : Nat} {w : World} {p : Nat} (h : Blk w p 67 (tdC (fun _ => 0) z6L z6L z6L (.slice none 0 0) (.slice none 0 0) 0)) : RefR b w p [] (.slice none 0 0) (.slice none 0 0) (.slice none 0 0) (.slice none 0 0) :=
  ⟨smps_nil b w, ⟨rfl, .inl ⟨rfl, rfl⟩⟩, ⟨rfl, .inl ⟨rfl, rfl⟩⟩, ⟨rfl, .inl ⟨rfl, rfl⟩⟩, sep_nilP, sep_nilP, sep_nilP, h⟩
/-- what a step keeps: all blocks but samples and numbers; all worlds ahead -/
structure KeptP (b : Nat) (w w' : World) : Prop where
  k : ∀ (q : Nat) (t : TypeId) (cs : Array Value), t ≠ 45 → t ≠ 2 → Blk w q t cs → Blk w' q t cs
  m : ∀ V : World, V.heap.size ≤ b → Mo V w → Mo V w'
  z : w.heap.size ≤ w'.heap.size
set_option maxRecDepth 20000 in
theorem KeptP.trans {b : Nat} {w w' w'' : World} (h : KeptP b w w') (k : KeptP b w' w'') : KeptP b w w'' := ⟨fun q t cs h1 h2 B => k.k q t cs h1 h2 (h.k q t cs h1 h2 B), fun V hV m => k.m V hV (h.m V hV m), Nat.le_trans h.z k.z⟩
set_option maxRecDepth 20000 in
theorem KeptP.of_mo {b : Nat} {w w' : World} (h : Mo w w') : KeptP b w w' := ⟨fun _ _ _ _ _ B => h.blk B, fun _ _ m => m.trans h, h.size⟩
set_option maxRecDepth 20000 in
theorem KeptP.of_own {b T s n : Nat} {w w' : World} {v : Value} {xs : List Value} (r : w.ownsRow b T s v n xs) (hT : T = 45 ∨ T = 2) (k : KpS (fun i => v.ownBlock = some i) w w') : KeptP b w w' := by
  refine ⟨fun q t cs h1 h2 B => k.blk B fun e => ?_, fun V hV m => k.mo m fun i _ e => ?_, k.size⟩
  · obtain ⟨cs', B'⟩ := own_ty r e
    have := B.out.symm.trans B'.out
    simp at this
    rcases hT with q | q
    · exact h1 (this.2.trans q)
    · exact h2 (this.2.trans q)
  · rcases r.2 with ⟨e0, _⟩ | ⟨g', _, _, e0, hb, _⟩
    · rw [e0] at e; simp [Value.ownBlock] at e
    · rw [e0] at e
      have : g' = i := by simpa [Value.ownBlock] using e
      omega
set_option maxRecDepth 20000 in
theorem kp_app1 {w w' : World} {row : Option Nat} {c : Obj} [m : Mor w (w.alloc c)] (g : (w.alloc c).grownBy w' row) : KpS (fun i => row = some i) w w' := (KpS.of_mo m.out).trans (kpS_grownS g) fun _ _ q => q
set_option maxRecDepth 20000 in
theorem row_kp {w w' : World} {b b' n n' : Nat} {u v : Value} {xs ys : List Value} {s s' T T' : Nat} (h : w.ownsRow b T s u n xs) (k : KpS (fun i => v.ownBlock = some i) w w') (_ : w.ownsRow b' T' s' v n' ys) (ne : Sep v u) : w'.ownsRow b T s u n xs := own_kpS h k fun g hg e => ne g e hg
set_option maxRecDepth 20000 in
theorem sep_tyP {w : World} {b b' n n' : Nat} {u v : Value} {xs ys : List Value} {s s' T T' : Nat} (h : w.ownsRow b T s u n xs) (h' : w.ownsRow b' T' s' v n' ys) (ne : T ≠ T') : Sep v u := fun g hv hu => by
  obtain ⟨cs, B⟩ := own_ty h hu
  obtain ⟨cs', B'⟩ := own_ty h' hv
  have := B.out.symm.trans B'.out
  simp at this
  exact ne this.2
set_option maxRecDepth 20000 in
theorem own_ltP {w : World} {b T s n : Nat} {v : Value} {xs : List Value} (h : w.ownsRow b T s v n xs) : ∀ k, v.ownBlock = some k → k < w.heap.size := fun k e => by
  obtain ⟨cs, B⟩ := own_ty h e
  exact B.lt
set_option maxRecDepth 20000 in
/-- a sample more: the four appends, in the text's order -/
theorem refR_put {b : Nat} {w : World} {p : Nat} {L : List Deed} {v9 v10 v11 v12 : Value} (h : RefR b w p L v9 v10 v11 v12) (d : Deed) (hp : d.put = true) (ok : SmpOk d.S) (one : OneA (smpC d.S)) (hl : L.length ≤ 1000) (hb : b ≤ w.heap.size) {m : Nat} (hm : (smpD L).length = m) :
    ∃ g1 c1 w1 g2 c2 w2 g3 c3 w3 g4 c4 w4,
      (appS #[107, 107] 107 #[v9, .slice (some ⟨w.heap.size, 0, none⟩) 1 1]).run Try.prog (w.alloc (.cells (smpC d.S) 45)) = .ok (.slice (some ⟨g1, 0, none⟩) (m + 1) c1) w1 ∧
      (appS #[108, 108] 108 #[v10, .slice (some ⟨w1.heap.size, 0, none⟩) 1 1]).run Try.prog (w1.alloc (.cells #[.int .i64 d.S.o] 2)) = .ok (.slice (some ⟨g2, 0, none⟩) (m + 1) c2) w2 ∧
      (appS #[108, 108] 108 #[v11, .slice (some ⟨w2.heap.size, 0, none⟩) 1 1]).run Try.prog (w2.alloc (.cells #[.int .i64 d.S.d] 2)) = .ok (.slice (some ⟨g3, 0, none⟩) (m + 1) c3) w3 ∧
      (appS #[108, 108] 108 #[v12, .slice (some ⟨w3.heap.size, 0, none⟩) 1 1]).run Try.prog (w3.alloc (.cells #[.int .i64 d.S.s] 2)) = .ok (.slice (some ⟨g4, 0, none⟩) (m + 1) c4) w4 ∧
      KeptP b w w1 ∧ KeptP b w w2 ∧ KeptP b w w3 ∧ KeptP b w w4 ∧
      RefR b w4 p (L ++ [d]) (.slice (some ⟨g1, 0, none⟩) (m + 1) c1) (.slice (some ⟨g2, 0, none⟩) (m + 1) c2) (.slice (some ⟨g3, 0, none⟩) (m + 1) c3) (.slice (some ⟨g4, 0, none⟩) (m + 1) c4) := by
  have hs : SzA (smpC d.S) 48 := ⟨smpC_size ok.f⟩
  have lm : m ≤ 1000 := by have := smp_len L; omega
  have r9 := h.s.row
  have r10 := h.a
  have r11 := h.d
  have r12 := h.e
  rw [hm] at r9 r10 r11 r12
  obtain ⟨g1, c1, w1, run1, own1, K1⟩ := app_smp w b m v9 _ (smpC d.S) r9 (by rw [flat_lenP smpC 48 _ fun x hx => smpC_size (h.s.ok x hx).f, hm]) (by omega) hb
  have P1 : KeptP b w w1 := KeptP.of_own r9 (.inl rfl) K1
  have r10 := row_kp r10 K1 r9 (sep_tyP r10 r9 (by decide))
  have r11 := row_kp r11 K1 r9 (sep_tyP r11 r9 (by decide))
  have r12 := row_kp r12 K1 r9 (sep_tyP r12 r9 (by decide))
  have hb1 := Nat.le_trans hb P1.z
  obtain ⟨g2, c2, w2, run2, own2, G2, e2⟩ := app_one w1 b m v10 _ d.S.o r10 (by omega) hb1
  have K2 := kp_app1 G2
  have P2 : KeptP b w1 w2 := KeptP.of_own r10 (.inr rfl) K2
  have own1 := row_kp own1 K2 r10 (sep_tyP own1 r10 (by decide))
  have r11 := row_kp r11 K2 r10 h.ad
  have r12 := row_kp r12 K2 r10 h.ae
  have s11 : Sep (.slice (some ⟨g2, 0, none⟩) (m + 1) c2) v11 := sep_new h.ad e2 fun k e => Nat.lt_succ_of_lt (own_ltP (row_kp (h.d) K1 (h.s.row) (sep_tyP h.d h.s.row (by decide))) k e)
  have s12 : Sep (.slice (some ⟨g2, 0, none⟩) (m + 1) c2) v12 := sep_new h.ae e2 fun k e => Nat.lt_succ_of_lt (own_ltP (row_kp (h.e) K1 (h.s.row) (sep_tyP h.e h.s.row (by decide))) k e)
  have hb2 := Nat.le_trans hb1 P2.z
  obtain ⟨g3, c3, w3, run3, own3, G3, e3⟩ := app_one w2 b m v11 _ d.S.d r11 (by omega) hb2
  have K3 := kp_app1 G3
  have P3 : KeptP b w2 w3 := KeptP.of_own r11 (.inr rfl) K3
  have own1 := row_kp own1 K3 r11 (sep_tyP own1 r11 (by decide))
  have t23 : Sep (.slice (some ⟨g3, 0, none⟩) (m + 1) c3) (.slice (some ⟨g2, 0, none⟩) (m + 1) c2) := sep_new s11.symm e3 fun k e => Nat.lt_succ_of_lt (own_ltP own2 k e)
  have t3 : Sep (.slice (some ⟨g3, 0, none⟩) (m + 1) c3) v12 := sep_new h.de e3 fun k e => Nat.lt_succ_of_lt (own_ltP r12 k e)
  have own2 := row_kp own2 K3 r11 s11.symm
  have r12 := row_kp r12 K3 r11 h.de
  have hb3 := Nat.le_trans hb2 P3.z
  obtain ⟨g4, c4, w4, run4, own4, G4, e4⟩ := app_one w3 b m v12 _ d.S.s r12 (by omega) hb3
  have K4 := kp_app1 G4
  have P4 : KeptP b w3 w4 := KeptP.of_own r12 (.inr rfl) K4
  have own1 := row_kp own1 K4 r12 (sep_tyP own1 r12 (by decide))
  have t42 : Sep (.slice (some ⟨g4, 0, none⟩) (m + 1) c4) (.slice (some ⟨g2, 0, none⟩) (m + 1) c2) := sep_new s12.symm e4 fun k e => Nat.lt_succ_of_lt (own_ltP own2 k e)
  have t43 : Sep (.slice (some ⟨g4, 0, none⟩) (m + 1) c4) (.slice (some ⟨g3, 0, none⟩) (m + 1) c3) := sep_new t3.symm e4 fun k e => Nat.lt_succ_of_lt (own_ltP own3 k e)
  have own2 := row_kp own2 K4 r12 s12.symm
  have own3 := row_kp own3 K4 r12 t3.symm
  have P12 := P1.trans P2
  have P13 := P12.trans P3
  have P14 := P13.trans P4
  have es := smp_yes (L := L) hp
  refine ⟨g1, c1, w1, g2, c2, w2, g3, c3, w3, g4, c4, w4, run1, run2, run3, run4, P1, P12, P13, P14, ⟨⟨?_, ?_⟩, ?_, ?_, ?_, t23.symm, t42.symm, t43.symm, ?_⟩⟩
  · rw [es, List.length_append, List.length_singleton, hm, List.flatMap_append]
    simpa using own1
  · intro S hS
    rw [es] at hS
    rcases List.mem_append.1 hS with q | q
    · exact h.s.ok S q
    · rw [List.mem_singleton] at q
      subst q
      exact ok
  · rw [es, List.length_append, List.length_singleton, hm, List.map_append]
    exact own2
  · rw [es, List.length_append, List.length_singleton, hm, List.map_append]
    exact own3
  · rw [es, List.length_append, List.length_singleton, hm, List.map_append]
    exact own4
  · rw [cnt_yes hp]
    exact P14.k _ _ _ (by decide) (by decide) h.o
set_option maxRecDepth 20000 in
theorem td_one {c : Nat → Int} {S1 S2 S3 : St} {tv sv : Value} {lv : Int} (h1 : tv.oneCell' = true) (h2 : sv.oneCell' = true) : OneA (tdC c (totS6 S1) (totS6 S2) (totS6 S3) tv sv lv) := ⟨by
  rw [Array.all_eq_true_iff_forall_mem]
  intro v hv
  unfold tdC tdL totS6 at hv
  simp only [List.mem_toArray, List.mem_append, List.mem_cons, List.not_mem_nil, or_false] at hv
  rcases hv with (((h | h) | h) | h) | h
  · rcases h with rfl | rfl | rfl | rfl | rfl | rfl | rfl | rfl | rfl <;> rfl
  · rcases h with rfl | rfl | rfl | rfl | rfl | rfl <;> rfl
  · rcases h with rfl | rfl | rfl | rfl | rfl | rfl <;> rfl
  · rcases h with rfl | rfl | rfl | rfl | rfl | rfl <;> rfl
  · rcases h with rfl | rfl | rfl <;> first | rfl | assumption⟩
set_option maxRecDepth 20000 in
theorem tot_oneP (S : St) : OneA (totS6 S).toArray := ⟨by
  rw [Array.all_eq_true_iff_forall_mem]
  intro v hv
  unfold totS6 at hv
  simp only [List.mem_toArray, List.mem_cons, List.not_mem_nil, or_false] at hv
  rcases hv with rfl | rfl | rfl | rfl | rfl | rfl <;> rfl⟩
set_option maxRecDepth 20000 in
instance row_totP : RowT 58 6 := ⟨by kernel_rfl, by kernel_rfl⟩
set_option maxRecDepth 20000 in
theorem own_rowNe {w : World} {b T s n r : Nat} {t : TypeId} {v : Value} {xs : List Value} {cs : Array Value} (h : w.ownsRow b T s v n xs) (B : Blk w r t cs) (ne : t ≠ T) (cs' : Array Value) : (w.setRow r cs').ownsRow b T s v n xs :=
  own_kpS h (kpS_setRow w r cs' rfl : KpS (fun i => i = r) w (w.setRow r cs')) fun g hg e => by
    subst e
    obtain ⟨cs2, B2⟩ := own_ty h hg
    have := B.out.symm.trans B2.out
    simp at this
    exact ne this.2
/-- what the steps' loop keeps: all blocks but steps and what is told; all worlds ahead -/
structure KeptQ (b : Nat) (w w' : World) : Prop where
  k : ∀ (q : Nat) (t : TypeId) (cs : Array Value), t ≠ 115 → t ≠ 67 → Blk w q t cs → Blk w' q t cs
  m : ∀ V : World, V.heap.size ≤ b → Mo V w → Mo V w'
  z : w.heap.size ≤ w'.heap.size
set_option maxRecDepth 20000 in
theorem KeptQ.trans {b : Nat} {w w' w'' : World} (h : KeptQ b w w') (k : KeptQ b w' w'') : KeptQ b w w'' := ⟨fun q t cs h1 h2 B => k.k q t cs h1 h2 (h.k q t cs h1 h2 B), fun V hV m => k.m V hV (h.m V hV m), Nat.le_trans h.z k.z⟩
set_option maxRecDepth 20000 in
theorem KeptQ.of_mo {b : Nat} {w w' : World} (h : Mo w w') : KeptQ b w w' := ⟨fun _ _ _ _ _ B => h.blk B, fun _ _ m => m.trans h, h.size⟩
set_option maxRecDepth 20000 in
theorem KeptQ.of_own {b s n : Nat} {w w' : World} {v : Value} {xs : List Value} (r : w.ownsRow b 115 s v n xs) (k : KpS (fun i => v.ownBlock = some i) w w') : KeptQ b w w' := by
  refine ⟨fun q t cs h1 h2 B => k.blk B fun e => ?_, fun V hV m => k.mo m fun i _ e => ?_, k.size⟩
  · obtain ⟨cs', B'⟩ := own_ty r e
    have := B.out.symm.trans B'.out
    simp at this
    exact h1 this.2
  · rcases r.2 with ⟨e0, _⟩ | ⟨g', _, _, e0, hb, _⟩
    · rw [e0] at e; simp [Value.ownBlock] at e
    · rw [e0] at e
      have : g' = i := by simpa [Value.ownBlock] using e
      omega
set_option maxRecDepth 20000 in
theorem KeptQ.of_set {b p : Nat} {w : World} {X : Array Value} (B : Blk w p 67 X) (hp : b ≤ p) (i : Nat) (v : Value) : KeptQ b w (w.setCell ⟨p, i, none⟩ v) := by
  refine ⟨fun q t cs _ h2 C => blk_setCell_ne C (fun e => ?_) i v, fun V hV m => mo_setCell m (Nat.le_trans hV hp) i v, ?_⟩
  · subst e
    have := C.out.symm.trans B.out
    simp at this
    exact h2 this.2
  · simp
set_option maxRecDepth 20000 in
theorem KeptQ.smps {b b' : Nat} {w w' : World} {v : Value} {l : List Smp} (k : KeptQ b w w') (h : SmpsIs b' w v l) : SmpsIs b' w' v l := ⟨owns_blkP h.row fun q cs B => k.k q _ cs (by decide) (by decide) B, h.ok⟩
set_option maxRecDepth 20000 in
theorem KeptQ.rge {b P base : Nat} {w w' : World} {x o : Int} {M : List Slot} (k : KeptQ b w w') (h : RGE w P base x o M) : RGE w' P base x o M := by
  obtain ⟨vN, vO, vD, h⟩ := h.ex
  have f := fun q cs (B : Blk w q 2 cs) => k.k q _ cs (by decide) (by decide) B
  exact ⟨vN, vO, vD, k.k _ _ _ (by decide) (by decide) h.g, owns_blkP h.n f, owns_blkP h.off f, owns_blkP h.del f, h.no, h.nd, h.od⟩
set_option maxRecDepth 20000 in
theorem KeptQ.tau {b b' n : Nat} {w w' : World} {v : Value} {xs : List Value} (k : KeptQ b w w') (h : w.ownsRow b' 117 5 v n xs) : w'.ownsRow b' 117 5 v n xs := owns_blkP h fun q cs B => k.k q _ cs (by decide) (by decide) B
set_option maxRecDepth 20000 in
theorem KeptR.smps {X : Array Value} {P base b' : Nat} {w w' : World} {v : Value} {l : List Smp} (k : KeptR P base w w') (g : Blk w P 112 X) (h : SmpsIs b' w v l) : SmpsIs b' w' v l := ⟨owns_blkP h.row fun q cs B => k.1 q _ cs (fun e => by
  subst e
  have := g.out.symm.trans B.out
  simp at this) (by decide) B, h.ok⟩
set_option maxRecDepth 20000 in
theorem blk_own {w w' : World} {b T s n q : Nat} {t : TypeId} {v : Value} {xs : List Value} {cs : Array Value} (B : Blk w q t cs) (r : w.ownsRow b T s v n xs) (k : KpS (fun i => v.ownBlock = some i) w w') (ne : t ≠ T) : Blk w' q t cs := k.blk B fun e => by
  obtain ⟨cs', B'⟩ := own_ty r e
  have := B.out.symm.trans B'.out
  simp at this
  exact ne this.2
section
variable {w : World} {p : Nat} {c : Nat → Int} {A B D : List Value} {tv sv : Value} {lv : Int} (hA : A.length = 6) (hB : B.length = 6) (hD : D.length = 6) (h : Blk w p 67 (tdC c A B D tv sv lv))
include hA hB hD h
set_option maxRecDepth 20000 in
theorem run_stA (S : St) : (storeF 58 (.pointer (some ⟨p, 9, none⟩)) (.agg (totS6 S).toArray)).run Try.prog w = .ok () (w.setRow p (tdC c (totS6 S) B D tv sv lv)) := by
  have z1 : SzA (tdL c A B D tv sv lv).toArray 30 := ⟨td_size hA hB hD⟩
  have z2 : SzA (totS6 S).toArray 6 := ⟨rfl⟩
  have z3 : OneA (totS6 S).toArray := tot_oneP S
  have b : Blk w p 67 (tdL c A B D tv sv lv).toArray := h
  have := run_storeF 58 6 w p 9 67 (tdL c A B D tv sv lv) (totS6 S) 30 (by omega)
  rw [td_A hA hB hD _ rfl] at this
  exact this
set_option maxRecDepth 20000 in
theorem run_stB (S : St) : (storeF 58 (.pointer (some ⟨p, 15, none⟩)) (.agg (totS6 S).toArray)).run Try.prog w = .ok () (w.setRow p (tdC c A (totS6 S) D tv sv lv)) := by
  have z1 : SzA (tdL c A B D tv sv lv).toArray 30 := ⟨td_size hA hB hD⟩
  have z2 : SzA (totS6 S).toArray 6 := ⟨rfl⟩
  have z3 : OneA (totS6 S).toArray := tot_oneP S
  have b : Blk w p 67 (tdL c A B D tv sv lv).toArray := h
  have := run_storeF 58 6 w p 15 67 (tdL c A B D tv sv lv) (totS6 S) 30 (by omega)
  rw [td_B hA hB hD _ rfl] at this
  exact this
set_option maxRecDepth 20000 in
theorem run_stD (S : St) : (storeF 58 (.pointer (some ⟨p, 21, none⟩)) (.agg (totS6 S).toArray)).run Try.prog w = .ok () (w.setRow p (tdC c A B (totS6 S) tv sv lv)) := by
  have z1 : SzA (tdL c A B D tv sv lv).toArray 30 := ⟨td_size hA hB hD⟩
  have z2 : SzA (totS6 S).toArray 6 := ⟨rfl⟩
  have z3 : OneA (totS6 S).toArray := tot_oneP S
  have b : Blk w p 67 (tdL c A B D tv sv lv).toArray := h
  have := run_storeF 58 6 w p 21 67 (tdL c A B D tv sv lv) (totS6 S) 30 (by omega)
  rw [td_D hA hB hD _ rfl] at this
  exact this
end
end Go.Proofs.Ythgkhllkhhnlpaa
