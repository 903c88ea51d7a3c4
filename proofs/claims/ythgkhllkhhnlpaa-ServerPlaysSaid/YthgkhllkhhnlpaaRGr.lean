/- Written by gen/bundle36.py: Row64, RGrid, RGrid2, RGrid3 in one text. -/
import Derived.Test.YthgkhllkhhnlpaaBlkS
import Derived.Maps.AppendAt
import Derived.Test.YthgkhllkhhnlpaaAllanM
import Derived.Test.YthgkhllkhhnlpaaRefZ
import Derived.BigRegion
/- Rows of int64 that a call owns; two rows in one world; what a call that writes into some blocks keeps. -/
namespace Go.Proofs.Ythgkhllkhhnlpaa
open Go.RowKit

def i64L (xs : List Int) : List Value := xs.map (Value.int .i64)
set_option maxRecDepth 20000 in
theorem i64L_length (xs : List Int) : (i64L xs).length = xs.length := by unfold i64L; simp
set_option maxRecDepth 20000 in
theorem i64L_one (xs : List Int) : ∀ u ∈ i64L xs, u.oneCell' = true := by
  intro u hu
  unfold i64L at hu
  obtain ⟨x, _, rfl⟩ := List.mem_map.1 hu
  rfl
set_option maxRecDepth 20000 in
theorem i64L_snoc (xs : List Int) (x : Int) : i64L (xs ++ [x]) = i64L xs ++ [.int .i64 x] := by unfold i64L; rw [List.map_append]; rfl
set_option maxRecDepth 20000 in
theorem i64_get {L : List Int} {i : Nat} (h : i < L.length) : (i64L L)[i]? = some (.int .i64 L[i]) := by
  unfold i64L
  rw [List.getElem?_map, List.getElem?_eq_getElem h]
  rfl
set_option maxRecDepth 20000 in
/-- a row of int64, where it lies and what its block holds -/
theorem row_at {w : World} {base n : Nat} {T : TypeId} {v : Value} {xs : List Int} (h : w.ownsRow base T 1 v n (i64L xs)) (h0 : 0 < n) : ∃ g c cur, v = .slice (some ⟨g, 0, none⟩) n c ∧ base ≤ g ∧ Blk w g T cur ∧ n ≤ c ∧ (∀ j (hj : j < xs.length), cur[j]? = some (.int .i64 xs[j])) := by
  rcases h.2 with ⟨_, e0⟩ | ⟨g, cap, cur, rfl, hb, hg, hn, hm, hs, ht⟩
  · omega
  · refine ⟨g, cap, cur, rfl, hb, ⟨hg⟩, hn, fun j hj => ?_⟩
    have h1 := h.1
    rw [i64L_length] at h1
    have e := i64_get hj
    rw [← ht, List.getElem?_take_of_lt (by omega), Array.getElem?_toList] at e
    exact e
set_option maxRecDepth 20000 in
theorem row_sl {w : World} {base n : Nat} {T : TypeId} {v : Value} {sz : Nat} {xs : List Value} (h : w.ownsRow base T sz v n xs) : ∃ A c, v = .slice A n c := by
  rcases h.2 with ⟨rfl, rfl⟩ | ⟨g, cap, cur, rfl, _⟩
  · exact ⟨_, _, rfl⟩
  · exact ⟨_, _, rfl⟩
set_option maxRecDepth 20000 in
theorem row_some {w : World} {base : Nat} {e : TypeId} {sz n : Nat} {v : Value} {xs : List Value} (h : w.ownsRow base e sz v (n + 1) xs) : ∃ g c, v = .slice (some ⟨g, 0, none⟩) (n + 1) c := by
  rcases h.2 with ⟨_, e0⟩ | ⟨g, cap, cur, e0, _⟩
  · omega
  · exact ⟨g, cap, e0⟩
/-- no two rows in one block -/
def Sep (v u : Value) : Prop := ∀ k, v.ownBlock = some k → u.ownBlock ≠ some k
set_option maxRecDepth 20000 in
theorem Sep.symm {v u : Value} (h : Sep v u) : Sep u v := fun k a b => h k b a
set_option maxRecDepth 20000 in
theorem sep_new {v v' u : Value} {k0 : Nat} (s : Sep v u) (h : v'.ownBlock = v.ownBlock ∨ v'.ownBlock = some k0) (hu : ∀ k, u.ownBlock = some k → k < k0) : Sep v' u := by
  intro k hk q
  rcases h with h | h
  · exact s k (by rw [← h]; exact hk) q
  · have := hu k q
    rw [h] at hk
    injection hk with hk
    omega
set_option maxRecDepth 20000 in
theorem owns_row {w w' : World} {base e sz n : Nat} {row : Option Nat} {u : Value} {xs : List Value} (h : w.ownsRow base e sz u n xs) (g : w.grownBy w' row) (s : ∀ k, u.ownBlock = some k → row ≠ some k) : w'.ownsRow base e sz u n xs := by
  refine ⟨h.1, ?_⟩
  rcases h.2 with q | ⟨g', cap, cur, rfl, hb, hg, rest⟩
  · exact .inl q
  · exact .inr ⟨g', cap, cur, rfl, hb, (g.block g' (Array.getElem?_eq_some_iff.1 hg).1 (fun e => s g' rfl e.symm)).trans hg, rest⟩
set_option maxRecDepth 20000 in
theorem blk_grownR {w w' : World} {base e sz n k : Nat} {t : TypeId} {v : Value} {xs : List Value} {cs : Array Value} (h : Blk w k t cs) (o : w.ownsRow base e sz v n xs) (g : w.grownBy w' v.ownBlock) (ne : t ≠ e) : Blk w' k t cs := by
  refine ⟨(g.block k h.lt fun q => ?_).trans h.out⟩
  rcases o.2 with ⟨e0, _⟩ | ⟨g', cap, cur, e0, _, hg, _⟩
  · rw [e0] at q; simp [Value.ownBlock] at q
  · rw [e0] at q
    obtain rfl : k = g' := by simpa [Value.ownBlock] using q
    have := h.out.symm.trans hg
    simp at this
    exact ne this.2
set_option maxRecDepth 20000 in
theorem owns_cellT {w : World} {b s n R : Nat} {e t : TypeId} {v : Value} {xs : List Value} {cs : Array Value} (h : w.ownsRow b e s v n xs) (k : Blk w R t cs) (ne : t ≠ e) (i : Nat) (u : Value) : (w.setCell ⟨R, i, none⟩ u).ownsRow b e s v n xs := by
  refine ⟨h.1, ?_⟩
  rcases h.2 with q | ⟨g, cap, cur, rfl, hb, hg, rest⟩
  · exact .inl q
  · refine .inr ⟨g, cap, cur, rfl, hb, (heap_setCell_other w ⟨R, i, none⟩ g u (fun e => ?_)).trans hg, rest⟩
    obtain rfl : g = R := e
    have := k.out.symm.trans hg
    simp at this
    exact ne this.2
set_option maxRecDepth 20000 in
/-- a store into a row -/
theorem owns_cellS {w : World} {b g n c : Nat} {t : TypeId} {xs : List Int} (h : w.ownsRow b t 1 (.slice (some ⟨g, 0, none⟩) n c) n (i64L xs)) (i : Nat) (x : Int) : (w.setCell ⟨g, i, none⟩ (.int .i64 x)).ownsRow b t 1 (.slice (some ⟨g, 0, none⟩) n c) n (i64L (xs.set i x)) := by
  refine ⟨by rw [i64L_length, List.length_set, ← i64L_length]; exact h.1, ?_⟩
  rcases h.2 with ⟨e, _⟩ | ⟨g', cap, cur, e, hb, hg, h3, h4, h5, h6⟩
  · cases e
  · injection e with e1 e2 e3
    injection e1 with e1
    injection e1 with e1
    subst e1 e3
    refine .inr ⟨g, c, cur.setIfInBounds i (.int .i64 x), rfl, hb, heap_setCell_same w g i cur t _ hg, h3, h4, by rw [Array.size_setIfInBounds]; exact h5, ?_⟩
    rw [Array.toList_setIfInBounds, List.take_set, h6]
    unfold i64L
    rw [List.map_set]
set_option maxRecDepth 20000 in
theorem owns_cellN {w : World} {b s n R : Nat} {e : TypeId} {v : Value} {xs : List Value} (h : w.ownsRow b e s v n xs) (ne : v.ownBlock ≠ some R) (i : Nat) (u : Value) : (w.setCell ⟨R, i, none⟩ u).ownsRow b e s v n xs := by
  refine ⟨h.1, ?_⟩
  rcases h.2 with q | ⟨g, cap, cur, rfl, hb, hg, rest⟩
  · exact .inl q
  · exact .inr ⟨g, cap, cur, rfl, hb, (heap_setCell_other w ⟨R, i, none⟩ g u (fun e => ne (by rw [show R = g from e.symm]; rfl))).trans hg, rest⟩
set_option maxRecDepth 20000 in
theorem KpS.grown {S : Nat → Prop} {a b b' : World} {row : Option Nat} (h : KpS S a b) (g : b.grownBy b' row) (s : ∀ k, row = some k → a.heap.size ≤ k ∨ S k) : KpS S a b' :=
  ⟨g.os.trans h.os, g.tape.trans h.tape, g.output.trans h.output, Nat.le_trans h.size g.size, fun k hk n => (g.block k (Nat.lt_of_lt_of_le hk h.size) fun e => by
    rcases s k e.symm with q | q
    · omega
    · exact n q).trans (h.block k hk n)⟩
set_option maxRecDepth 20000 in
theorem info64R : (Try.prog.info? 2).map (fun i => (i.zero, i.size, i.bytes)) = some (some (.int .i64 0), 1, 8) := by kernel_rfl
set_option maxRecDepth 20000 in
theorem newsR {w : World} {g : Nat} {t : TypeId} {cs : Array Value} (h : Blk w g t cs) (l : List Value) (hl : l = cs.toList) : ∀ j u, l[j]? = some u → w.cell? ((⟨g, 0, none⟩ : Addr).add j) = some u := by
  intro j u hj
  have e : (⟨g, 0, none⟩ : Addr).add j = ⟨g, j, none⟩ := by rw [Addr.add_mid, Nat.zero_add]
  rw [e, blk_cell h, ← Array.getElem?_toList, ← hl]
  exact hj
end Go.Proofs.Ythgkhllkhhnlpaa
/- horologeref32.Grid: how it lies; Put. -/
namespace Go.Proofs.Ythgkhllkhhnlpaa
open Go.RowKit

/-- the reference's grid: its block, and three own rows -/
structure RG (w : World) (P base : Nat) (x o : Int) (M : List Slot) (vN vO vD : Value) : Prop where
  g : Blk w P 112 #[.int .i64 x, .int .i64 o, vN, vO, vD]
  n : w.ownsRow base 2 1 vN M.length (i64L (M.map (·.num)))
  off : w.ownsRow base 2 1 vO M.length (i64L (M.map (·.off)))
  del : w.ownsRow base 2 1 vD M.length (i64L (M.map (·.del)))
  no : Sep vN vO
  nd : Sep vN vD
  od : Sep vO vD
set_option maxRecDepth 20000 in
theorem RG.mo {w w' : World} {P base : Nat} {x o : Int} {M : List Slot} {vN vO vD : Value} (h : RG w P base x o M vN vO vD) (k : Mo w w') : RG w' P base x o M vN vO vD :=
  ⟨k.blk h.g, owns_mo h.n k, owns_mo h.off k, owns_mo h.del k, h.no, h.nd, h.od⟩
def appG (ats : Array TypeId) (ty : TypeId) (args : Array Value) : Sem Value := Builtin.append_ ats ty args
set_option maxRecDepth 20000 in
theorem appG_fold (ats : Array TypeId) (ty : TypeId) (args : Array Value) : Builtin.append_ ats ty args = appG ats ty args := rfl
set_option maxRecDepth 20000 in
theorem app_one (w : World) (base n : Nat) (v : Value) (xs : List Int) (y : Int) (h : w.ownsRow base 2 1 v n (i64L xs)) (hn : n ≤ 100000) (hb : base ≤ w.heap.size) :
    ∃ g c w', (appG #[108, 108] 108 #[v, .slice (some ⟨w.heap.size, 0, none⟩) 1 1]).run Try.prog (w.alloc (.cells #[.int .i64 y] 2)) = .ok (.slice (some ⟨g, 0, none⟩) (n + 1) c) w' ∧
      w'.ownsRow base 2 1 (.slice (some ⟨g, 0, none⟩) (n + 1) c) (n + 1) (i64L (xs ++ [y])) ∧ (w.alloc (.cells #[.int .i64 y] 2)).grownBy w' v.ownBlock ∧
      ((Value.slice (some ⟨g, 0, none⟩) (n + 1) c).ownBlock = v.ownBlock ∨ (Value.slice (some ⟨g, 0, none⟩) (n + 1) c).ownBlock = some (w.heap.size + 1)) := by
  obtain ⟨i0, hi0, hz0, hz1, hz2⟩ := info_parts info64R
  obtain ⟨v', w', hr, h1, h2, -, h3⟩ := run_append_own_at (P := Try.prog) (w.alloc (.cells #[.int .i64 y] 2)) base 108 108 2 i0 (.int .i64 0) 1 8 Try.underlying108 hi0 hz0 hz1 hz2 rfl (by decide) _ _ _ (owns_mo h (Mor.out : Mo w (w.alloc (.cells #[.int .i64 y] 2)))) ⟨w.heap.size, 0, none⟩ 1 1 [.int .i64 y] rfl (newsR (inferInstance : Blk (w.alloc (.cells #[.int .i64 y] 2)) w.heap.size 2 #[.int .i64 y]) _ rfl) (by simp [Value.oneCell']) (by unfold maxLen; omega) (by omega) (by simp; omega)
  obtain ⟨g, c, rfl⟩ := row_some h1
  refine ⟨g, c, w', hr, by rw [i64L_snoc]; exact h1, h2, ?_⟩
  rw [World.size_alloc] at h3
  exact h3
set_option maxRecDepth 20000 in
theorem RG.P_ne {w : World} {P base : Nat} {x o : Int} {M : List Slot} {vN vO vD : Value} (h : RG w P base x o M vN vO vD) : vN.ownBlock ≠ some P ∧ vO.ownBlock ≠ some P ∧ vD.ownBlock ≠ some P := by
  have key : ∀ (v : Value) (xs : List Value), w.ownsRow base 2 1 v M.length xs → v.ownBlock ≠ some P := fun v xs hv e => by
    rcases hv.2 with ⟨e0, _⟩ | ⟨g', cap, cur, e0, _, hg, _⟩
    · rw [e0] at e; simp [Value.ownBlock] at e
    · rw [e0] at e
      obtain rfl : g' = P := by simpa [Value.ownBlock] using e
      have := h.g.out.symm.trans hg
      simp at this
  exact ⟨key _ _ h.n, key _ _ h.off, key _ _ h.del⟩
set_option maxRecDepth 20000 in
theorem blk_type_neR {w : World} {g g' : Nat} {t t' : TypeId} {cs cs' : Array Value} (h : Blk w g t cs) (k : Blk w g' t' cs') (ne : t ≠ t') : g ≠ g' := by
  rintro rfl
  have := h.out.symm.trans k.out
  simp at this
  exact ne this.2
/-- what a call that writes into the grid and its rows keeps -/
def KeptR (P base : Nat) (W w : World) : Prop := (∀ q t cs, q ≠ P → t ≠ 2 → Blk W q t cs → Blk w q t cs) ∧ ∀ V : World, V.heap.size ≤ P → V.heap.size ≤ base → Mo V W → Mo V w
set_option maxRecDepth 20000 in
theorem KeptR.of_mo {P base : Nat} {W w : World} (h : Mo W w) : KeptR P base W w := ⟨fun _ _ _ _ _ b => h.blk b, fun _ _ _ k => k.trans h⟩
set_option maxRecDepth 20000 in
theorem KeptR.mo {P base : Nat} {W w w' : World} (h : KeptR P base W w) (k : Mo w w') : KeptR P base W w' := ⟨fun q t cs h1 h2 b => k.blk (h.1 q t cs h1 h2 b), fun V h1 h2 m => (h.2 V h1 h2 m).trans k⟩
set_option maxRecDepth 20000 in
theorem KeptR.grow {P base n : Nat} {W w w' : World} {v : Value} {xs : List Value} (h : KeptR P base W w) (o : w.ownsRow base 2 1 v n xs) (g : w.grownBy w' v.ownBlock) : KeptR P base W w' :=
  ⟨fun q t cs h1 h2 b => blk_grownR (h.1 q t cs h1 h2 b) o g h2, fun V h1 h2 m => mo_grown (h.2 V h1 h2 m) g fun k e => Nat.le_trans h2 (o.lt k e).1⟩
set_option maxRecDepth 20000 in
theorem KeptR.set {P base : Nat} {W w : World} (h : KeptR P base W w) (i : Nat) (u : Value) : KeptR P base W (w.setCell ⟨P, i, none⟩ u) :=
  ⟨fun q t cs h1 h2 b => blk_setCell_ne (h.1 q t cs h1 h2 b) (Ne.symm h1) i u, fun V h1 h2 m => mo_setCell (h.2 V h1 h2 m) h1 i u⟩
set_option maxRecDepth 20000 in
theorem KeptR.cell {P base g : Nat} {W w : World} {cur : Array Value} (h : KeptR P base W w) (b : Blk w g 2 cur) (hb : base ≤ g) (i : Nat) (u : Value) : KeptR P base W (w.setCell ⟨g, i, none⟩ u) :=
  ⟨fun q t cs h1 h2 k => blk_setCell_ne (h.1 q t cs h1 h2 k) (fun e => by
    subst e
    have := b.out.symm.trans (h.1 g t cs h1 h2 k).out
    simp at this
    exact h2 this.2.symm) i u, fun V h1 h2 m => mo_setCell (h.2 V h1 h2 m) (Nat.le_trans h2 hb) i u⟩
/-- what the reference's Put leaves and answers -/
def RPutRet (P base : Nat) (x o : Int) (r : List Slot × Int) (W : World) (e : Ending) (w' : World) : Prop :=
  e = .returned (.int .u8 r.2) ∧ (∃ vN vO vD, RG w' P base x o r.1 vN vO vD) ∧ KeptR P base W w'
set_option maxRecDepth 20000 in
theorem absI_leG {x B : Int} (h1 : -B ≤ x) (h2 : x ≤ B) : absI x ≤ B := by unfold absI; split <;> omega
set_option maxRecDepth 20000 in
theorem lt_130W {x : Int} (h : InW x) : absI x < 2 ^ 130 := by
  have := absI_leG (x := x) (B := 170141183460469231731687303715884105728) h.1 (by have := h.2; omega)
  have : (170141183460469231731687303715884105728 : Int) < 2 ^ 130 := by decide
  omega
set_option maxRecDepth 20000 in
theorem lt_20W {x : Int} (h : InW x) : absI x < 65536 ^ 20 := by
  have := absI_leG (x := x) (B := 170141183460469231731687303715884105728) h.1 (by have := h.2; omega)
  have : (170141183460469231731687303715884105728 : Int) < 65536 ^ 20 := by decide
  omega
set_option maxRecDepth 20000 in
theorem sg_floorW {sg : Bool} {s c : Int} (h : Sg sg s) (hc : 0 < c) : Sg sg (s / c) :=
  ⟨fun k => h.1 (by
    rcases Int.lt_or_le s 0 with d | d
    · exact d
    · have := Int.ediv_nonneg d (show 0 ≤ c by omega)
      omega), fun k => h.2 (by
    rcases Int.lt_or_le 0 s with d | d
    · exact d
    · have : s / c ≤ 0 := by
        have := Int.ediv_le_ediv hc d
        simpa using this
      omega)⟩
set_option maxRecDepth 20000 in
theorem cl_inW {x : Int} (h : InW x) : cl x = x := by
  obtain ⟨h1, h2⟩ := h
  unfold cl
  rw [if_neg (by omega), if_neg (by omega)]
attribute [local go_sem ↓] appG_fold
attribute [local go_sem] blk_cell' blk_frozen'
set_option maxRecDepth 20000 in
set_option maxHeartbeats 16000000 in
theorem rput_any (P base : Nat) (x o : Int) (M : List Slot) (vN vO vD : Value) (a off del : Int) (W : World) (hG : RG W P base x o M vN vO vD) (hl : M.length ≤ 1000) (ha : InW a) (x1 : 1 ≤ x) (x2 : x ≤ 1152921504606846976) (hb : base ≤ W.heap.size) :
    Calls Try.prog 39 #[.pointer (some ⟨P, 0, none⟩), WV a, .int .i64 off, .int .i64 del] W (RPutRet P base x o (putM M (clip (a / x)) off del) W) := by
  obtain ⟨PO, hPO⟩ : ∃ Q, RPutRet P base x o (putM M (clip (a / x)) off del) W = Q := ⟨_, rfl⟩
  rw [hPO]
  have RR := Lib.hid hPO
  clear hPO
  have TA := Lib.hid (fun w => tame_any off w)
  have FR := Lib.hid (fun w => from_any a ha w)
  have OF := Lib.hid (fun w => rof_any x (by omega) (by omega) w)
  rw [decide_eq_false (show ¬ x < 0 by omega), show absI x = x by unfold absI; rw [if_neg (by omega)]] at OF
  have hW := inW_div ha x1
  have FL := Lib.hid (fun w => rfloor_any (fromS a) a x (fromS_sg a) (lt_130W ha) (by omega) (by omega) w)
  have WD := Lib.hid (fun w => rwide_any (fromS a) (a / x) (sg_floorW (fromS_sg a) (by omega)) (lt_20W hW) w)
  rw [cl_inW hW] at WD
  have CP := Lib.hid (fun w => rclip_any (a / x) hW w)
  obtain ⟨n, hn⟩ : ∃ n, clip (a / x) = n := ⟨_, rfl⟩
  rw [hn] at RR CP
  have hnb := clip_bd (a / x)
  rw [hn] at hnb
  clear hn hW
  have HG := Lib.hid hG
  have bP := hG.g
  obtain ⟨AN, cN, eN⟩ := row_sl hG.n
  obtain ⟨AO, cO, eO⟩ := row_sl hG.off
  obtain ⟨AD, cD, eD⟩ := row_sl hG.del
  subst eN eO eD
  clear hG
  go_enter Try.func39, Try.ntmps39
  go_wp2_with fail
  refine (TA.out _).mono ?_
  rintro e w1 ⟨rfl, rfl⟩
  by_cases ct : Tame off
  · rw [decide_eq_true ct]
    go_upto_region 3 with (fail)
    refine wp_region_mo (by kernel_rfl) (by kernel_rfl) ?_
    repeat (go_big_quiet_step (first | (with_reducible exact quiet_mo (FR.out _)) | (with_reducible exact quiet_mo (OF.out _)) | (with_reducible exact quiet_mo (FL.out _)) | (with_reducible exact quiet_mo (WD.out _)) | (with_reducible exact quiet_mo (CP.out _))))
    refine wpQuiet_nil ?_
    intro _ hw'
    obtain ⟨⟨JQ, dQ⟩, hw''⟩ := hw'
    subst hw''
    go_upto_region 4 with (fail)
    refine wp_name ?_
    intro w2 hw2
    have M2 : Mo W w2 := by rw [hw2]; exact Mor.out
    clear hw2
    by_cases hM : M = []
    · have PA : Hid (putM M n off del = (M ++ [⟨true, n, off, del⟩], 1)) := Lib.hid (by unfold putM; rw [if_pos (show Near off from ct), if_pos hM, hM]; rfl)
      have hL0 : (M.length : Int) = 0 := by rw [hM]; rfl
      have w0 : IntKind.i64.wrap ((M.length : Int) - 1) = -1 := by rw [hL0]; decide
      clear hL0 hM
      have bW := M2.blk bP
      go_upto_region 12 with (fail)
      have rN := (HG.out.mo M2).n
      have rO := (HG.out.mo M2).off
      have rD := (HG.out.mo M2).del
      have sNO := HG.out.no
      have sND := HG.out.nd
      have sOD := HG.out.od
      have KP : KeptR P base W w2 := KeptR.of_mo M2
      have hs1 : W.heap.size ≤ w2.heap.size := M2.size
      have hb1 : base ≤ w2.heap.size := Nat.le_trans hb hs1
      clear bP
      have bP := (HG.out.mo M2).g
      obtain ⟨gN, cN, v1, hr1, O1, G1, Q1⟩ := app_one w2 base M.length _ _ n rN (by omega) hb1
      have T1 := owns_mo rN (Mor.out : Mo w2 (w2.alloc (.cells #[.int .i64 n] 2)))
      have bP1 := blk_grownR (inferInstance : Blk (w2.alloc (.cells #[.int .i64 n] 2)) P 112 _) T1 G1 (by decide)
      have qO1 := owns_row (owns_mo rO (Mor.out : Mo w2 (w2.alloc (.cells #[.int .i64 n] 2)))) G1 (fun k e1 e2 => sNO.symm k e1 e2)
      have qD1 := owns_row (owns_mo rD (Mor.out : Mo w2 (w2.alloc (.cells #[.int .i64 n] 2)))) G1 (fun k e1 e2 => sND.symm k e1 e2)
      have sNO' : Sep (.slice (some ⟨gN, 0, none⟩) (M.length + 1) cN) _ := sep_new sNO Q1 (fun k e => by have := (rO.lt k e).2; omega)
      have sND' : Sep (.slice (some ⟨gN, 0, none⟩) (M.length + 1) cN) _ := sep_new sND Q1 (fun k e => by have := (rD.lt k e).2; omega)
      have KK1 := (KP.mo (Mor.out : Mo w2 (w2.alloc (.cells #[.int .i64 n] 2)))).grow T1 G1
      go_upto_region 13 with (fail)
      refine wp_name ?_
      intro wB hw
      have bPn := blk_setCell bP1 2 (.slice (some ⟨gN, 0, none⟩) (M.length + 1) cN)
      rw [← hw] at bPn
      have nrN := owns_cellT O1 bP1 (by decide) 2 (.slice (some ⟨gN, 0, none⟩) (M.length + 1) cN)
      rw [← hw] at nrN
      have nrO := owns_cellT qO1 bP1 (by decide) 2 (.slice (some ⟨gN, 0, none⟩) (M.length + 1) cN)
      rw [← hw] at nrO
      have nrD := owns_cellT qD1 bP1 (by decide) 2 (.slice (some ⟨gN, 0, none⟩) (M.length + 1) cN)
      rw [← hw] at nrD
      have KPn := KK1.set 2 (.slice (some ⟨gN, 0, none⟩) (M.length + 1) cN)
      rw [← hw] at KPn
      have hb2 : base ≤ wB.heap.size := Nat.le_trans hb (by rw [hw]; have h1 := G1.size; have h2 := hs1; simp at h1 ⊢; omega)
      have hs2 : W.heap.size ≤ wB.heap.size := by rw [hw]; have h1 := G1.size; have h2 := hs1; simp at h1 ⊢; omega
      clear hw rN rO rD bP KP hr1 O1 G1 Q1 T1 bP1 qO1 qD1 KK1
      have rN := nrN
      have rO := nrO
      have rD := nrD
      have bP := bPn
      have KP := KPn
      clear nrN nrO nrD bPn KPn
      clear sNO
      have sNO := sNO'
      clear sNO'
      clear sND
      have sND := sND'
      clear sND'
      obtain ⟨gO, cO, v2, hr2, O2, G2, Q2⟩ := app_one wB base M.length _ _ off rO (by omega) hb2
      have T2 := owns_mo rO (Mor.out : Mo wB (wB.alloc (.cells #[.int .i64 off] 2)))
      have bP2 := blk_grownR (inferInstance : Blk (wB.alloc (.cells #[.int .i64 off] 2)) P 112 _) T2 G2 (by decide)
      have qN2 := owns_row (owns_mo rN (Mor.out : Mo wB (wB.alloc (.cells #[.int .i64 off] 2)))) G2 (fun k e1 e2 => sNO k e1 e2)
      have qD2 := owns_row (owns_mo rD (Mor.out : Mo wB (wB.alloc (.cells #[.int .i64 off] 2)))) G2 (fun k e1 e2 => sOD.symm k e1 e2)
      have sNO' : Sep _ (.slice (some ⟨gO, 0, none⟩) (M.length + 1) cO) := (sep_new sNO.symm Q2 (fun k e => by have := (rN.lt k e).2; omega)).symm
      have sOD' : Sep (.slice (some ⟨gO, 0, none⟩) (M.length + 1) cO) _ := sep_new sOD Q2 (fun k e => by have := (rD.lt k e).2; omega)
      have KK2 := (KP.mo (Mor.out : Mo wB (wB.alloc (.cells #[.int .i64 off] 2)))).grow T2 G2
      go_upto_region 14 with (fail)
      refine wp_name ?_
      intro wC hw
      have bPn := blk_setCell bP2 3 (.slice (some ⟨gO, 0, none⟩) (M.length + 1) cO)
      rw [← hw] at bPn
      have nrO := owns_cellT O2 bP2 (by decide) 3 (.slice (some ⟨gO, 0, none⟩) (M.length + 1) cO)
      rw [← hw] at nrO
      have nrN := owns_cellT qN2 bP2 (by decide) 3 (.slice (some ⟨gO, 0, none⟩) (M.length + 1) cO)
      rw [← hw] at nrN
      have nrD := owns_cellT qD2 bP2 (by decide) 3 (.slice (some ⟨gO, 0, none⟩) (M.length + 1) cO)
      rw [← hw] at nrD
      have KPn := KK2.set 3 (.slice (some ⟨gO, 0, none⟩) (M.length + 1) cO)
      rw [← hw] at KPn
      have hb3 : base ≤ wC.heap.size := Nat.le_trans hb (by rw [hw]; have h1 := G2.size; have h2 := hs2; simp at h1 ⊢; omega)
      have hs3 : W.heap.size ≤ wC.heap.size := by rw [hw]; have h1 := G2.size; have h2 := hs2; simp at h1 ⊢; omega
      clear hw rO rN rD bP KP hr2 O2 G2 Q2 T2 bP2 qN2 qD2 KK2
      have rN := nrN
      have rO := nrO
      have rD := nrD
      have bP := bPn
      have KP := KPn
      clear nrN nrO nrD bPn KPn
      clear sNO
      have sNO := sNO'
      clear sNO'
      clear sOD
      have sOD := sOD'
      clear sOD'
      obtain ⟨gD, cD, v3, hr3, O3, G3, Q3⟩ := app_one wC base M.length _ _ del rD (by omega) hb3
      have T3 := owns_mo rD (Mor.out : Mo wC (wC.alloc (.cells #[.int .i64 del] 2)))
      have bP3 := blk_grownR (inferInstance : Blk (wC.alloc (.cells #[.int .i64 del] 2)) P 112 _) T3 G3 (by decide)
      have qN3 := owns_row (owns_mo rN (Mor.out : Mo wC (wC.alloc (.cells #[.int .i64 del] 2)))) G3 (fun k e1 e2 => sND k e1 e2)
      have qO3 := owns_row (owns_mo rO (Mor.out : Mo wC (wC.alloc (.cells #[.int .i64 del] 2)))) G3 (fun k e1 e2 => sOD k e1 e2)
      have sND' : Sep _ (.slice (some ⟨gD, 0, none⟩) (M.length + 1) cD) := (sep_new sND.symm Q3 (fun k e => by have := (rN.lt k e).2; omega)).symm
      have sOD' : Sep _ (.slice (some ⟨gD, 0, none⟩) (M.length + 1) cD) := (sep_new sOD.symm Q3 (fun k e => by have := (rO.lt k e).2; omega)).symm
      have KK3 := (KP.mo (Mor.out : Mo wC (wC.alloc (.cells #[.int .i64 del] 2)))).grow T3 G3
      go_upto_region 15 with (fail)
      refine wp_name ?_
      intro wD hw
      have bPn := blk_setCell bP3 4 (.slice (some ⟨gD, 0, none⟩) (M.length + 1) cD)
      rw [← hw] at bPn
      have nrD := owns_cellT O3 bP3 (by decide) 4 (.slice (some ⟨gD, 0, none⟩) (M.length + 1) cD)
      rw [← hw] at nrD
      have nrN := owns_cellT qN3 bP3 (by decide) 4 (.slice (some ⟨gD, 0, none⟩) (M.length + 1) cD)
      rw [← hw] at nrN
      have nrO := owns_cellT qO3 bP3 (by decide) 4 (.slice (some ⟨gD, 0, none⟩) (M.length + 1) cD)
      rw [← hw] at nrO
      have KPn := KK3.set 4 (.slice (some ⟨gD, 0, none⟩) (M.length + 1) cD)
      rw [← hw] at KPn
      have hb4 : base ≤ wD.heap.size := Nat.le_trans hb (by rw [hw]; have h1 := G3.size; have h2 := hs3; simp at h1 ⊢; omega)
      have hs4 : W.heap.size ≤ wD.heap.size := by rw [hw]; have h1 := G3.size; have h2 := hs3; simp at h1 ⊢; omega
      clear hw rD rN rO bP KP hr3 O3 G3 Q3 T3 bP3 qN3 qO3 KK3
      have rN := nrN
      have rO := nrO
      have rD := nrD
      have bP := bPn
      have KP := KPn
      clear nrN nrO nrD bPn KPn
      clear sND
      have sND := sND'
      clear sND'
      clear sOD
      have sOD := sOD'
      clear sOD'
      go_wp2_with fail
      rw [← RR.out, PA.out]
      refine ⟨rfl, ⟨_, _, _, ⟨bP, ?_, ?_, ?_, sNO, sND, sOD⟩⟩, KP⟩
      · rw [List.length_append, List.map_append]; exact rN
      · rw [List.length_append, List.map_append]; exact rO
      · rw [List.length_append, List.map_append]; exact rD
    · obtain ⟨L, sl, eM⟩ := split_last hM
      have hlen : M.length = L.length + 1 := by rw [eM, List.length_append]; rfl
      have hnw : nwOf M = sl := by rw [eM]; exact (nw_snoc L sl).1
      have w0 : IntKind.i64.wrap ((M.length : Int) - 1) = L.length := by rw [IntKind.wrap_i64]; omega
      have bW := M2.blk bP
      obtain ⟨gN, cN', kN, e1, hbN, BN, _, hN⟩ := row_at (HG.out.mo M2).n (by omega)
      injection e1 with e1 e1a e1b
      subst e1
      clear e1a e1b
      have yN : kN[L.length]? = some (.int .i64 sl.num) := by
        rw [hN L.length (by rw [List.length_map]; omega)]
        simp [eM]
      have p0 : (0 : Int) ≤ L.length := by omega
      have p1 : (L.length : Int) < M.length := by omega
      have d0 : decide ((0 : Int) ≤ L.length) = true := decide_eq_true p0
      clear hN
      have HL := Lib.hid hlen
      have hlp : 0 < M.length := by omega
      clear hlen
      by_cases c1 : n < sl.num
      · have d1 : decide (n < sl.num) = true := decide_eq_true c1
        have PA : Hid (putM M n off del = (M, 3)) := Lib.hid (by unfold putM; rw [if_pos (show Near off from ct), if_neg hM, hnw, if_neg (by omega), if_pos c1])
        clear hM hnw eM
        go_wp2_with fail
        rw [← RR.out, PA.out]
        exact ⟨rfl, ⟨_, _, _, HG.out.mo M2⟩, KeptR.of_mo M2⟩
      · have d1 : decide (n < sl.num) = false := decide_eq_false c1
        by_cases c2 : n = sl.num
        · have d2 : (n == sl.num) = true := by simp [c2]
          obtain ⟨gO, cO', kO, e1, hbO, BO, _, hO⟩ := row_at (HG.out.mo M2).off hlp
          injection e1 with e1 e1a e1b
          subst e1
          clear e1a e1b
          obtain ⟨gD, cD', kD, e1, hbD, BD, _, hD⟩ := row_at (HG.out.mo M2).del hlp
          injection e1 with e1 e1a e1b
          subst e1
          clear e1a e1b
          have yO : kO[L.length]? = some (.int .i64 sl.off) := by
            rw [hO L.length (by rw [List.length_map, HL.out]; omega)]
            simp [eM]
          have yD : kD[L.length]? = some (.int .i64 sl.del) := by
            rw [hD L.length (by rw [List.length_map, HL.out]; omega)]
            simp [eM]
          clear hO hD
          have H2 := Lib.hid (HG.out.mo M2)
          by_cases c3 : del < sl.del
          · have d3 : decide (del < sl.del) = true := decide_eq_true c3
            have PA : Hid (putM M n off del = (L ++ [⟨true, n, off, del⟩], 1)) := Lib.hid (by unfold putM; rw [if_pos (show Near off from ct), if_neg hM, hnw, if_neg (by omega), if_neg (by omega), if_pos c3, eM, (nw_snoc L sl).2])
            have ne1 : gO ≠ gN := fun e => H2.out.no gN rfl (by rw [e]; rfl)
            have ne2 : gD ≠ gN := fun e => H2.out.nd gN rfl (by rw [e]; rfl)
            have ne3 : gD ≠ gO := fun e => H2.out.od gO rfl (by rw [e]; rfl)
            have nP := H2.out.P_ne
            have EM := Lib.hid eM
            have e2 := Lib.hid c2
            clear hM hnw c1 c2 c3 eM
            go_upto_region 10 with (fail)
            refine wp_name ?_
            intro wB hwB
            have bP2 : Blk wB P 112 #[.int .i64 x, .int .i64 o, .slice (some ⟨gN, 0, none⟩) M.length cN, .slice (some ⟨gO, 0, none⟩) M.length cO, .slice (some ⟨gD, 0, none⟩) M.length cD] := by rw [hwB]; exact blk_setCell_ne bW (blk_type_neR BO bW (by decide)) _ _
            have BD2 : Blk wB gD 2 kD := by rw [hwB]; exact blk_setCell_ne BD (Ne.symm ne3) _ _
            have rN2 := owns_cellN (R := gO) H2.out.n (by simp [Value.ownBlock]; exact Ne.symm ne1) L.length (.int .i64 off)
            have rO2 := owns_cellS H2.out.off L.length off
            have rD2 := owns_cellN (R := gO) H2.out.del (by simp [Value.ownBlock]; exact ne3) L.length (.int .i64 off)
            have KP2 := (KeptR.of_mo (P := P) (base := base) M2).cell BO hbO L.length (.int .i64 off)
            rw [← hwB] at rN2 rO2 rD2 KP2
            clear hwB bW BN BO BD yO yN
            go_upto_region 11 with (fail)
            refine wp_name ?_
            intro wC hwC
            have bP3 : Blk wC P 112 #[.int .i64 x, .int .i64 o, .slice (some ⟨gN, 0, none⟩) M.length cN, .slice (some ⟨gO, 0, none⟩) M.length cO, .slice (some ⟨gD, 0, none⟩) M.length cD] := by rw [hwC]; exact blk_setCell_ne bP2 (blk_type_neR BD2 bP2 (by decide)) _ _
            have rN3 := owns_cellN (R := gD) rN2 (by simp [Value.ownBlock]; exact Ne.symm ne2) L.length (.int .i64 del)
            have rO3 := owns_cellN (R := gD) rO2 (by simp [Value.ownBlock]; exact Ne.symm ne3) L.length (.int .i64 del)
            have rD3 := owns_cellS rD2 L.length del
            have KP3 := KP2.cell BD2 hbD L.length (.int .i64 del)
            rw [← hwC] at rN3 rO3 rD3 KP3
            clear hwC bP2 BD2 rN2 rO2 rD2 KP2
            go_wp2_with fail
            rw [← RR.out, PA.out]
            have hl2 : M.length = (L ++ [(⟨true, n, off, del⟩ : Slot)]).length := by rw [HL.out, List.length_append]; rfl
            refine ⟨rfl, ⟨_, _, _, ⟨bP3, ?_, ?_, ?_, H2.out.no, H2.out.nd, H2.out.od⟩⟩, KP3⟩
            · rw [← hl2]
              have q : M.map (·.num) = (L ++ [(⟨true, n, off, del⟩ : Slot)]).map (·.num) := by rw [EM.out, e2.out]; simp
              rw [← q]
              exact rN3
            · rw [← hl2]
              have q : (M.map (·.off)).set L.length off = (L ++ [(⟨true, n, off, del⟩ : Slot)]).map (·.off) := by rw [EM.out]; simp
              rw [← q]
              exact rO3
            · rw [← hl2]
              have q : (M.map (·.del)).set L.length del = (L ++ [(⟨true, n, off, del⟩ : Slot)]).map (·.del) := by rw [EM.out]; simp
              rw [← q]
              exact rD3
          · have d3 : decide (del < sl.del) = false := decide_eq_false c3
            have PA : Hid (putM M n off del = (M, 1)) := Lib.hid (by unfold putM; rw [if_pos (show Near off from ct), if_neg hM, hnw, if_neg (by omega), if_neg (by omega), if_neg c3])
            clear hM hnw eM c2 c1
            go_wp2_with fail
            rw [← RR.out, PA.out]
            exact ⟨rfl, ⟨_, _, _, HG.out.mo M2⟩, KeptR.of_mo M2⟩
        · have d2 : (n == sl.num) = false := by simp [c2]
          have PA : Hid (putM M n off del = (M ++ [⟨true, n, off, del⟩], 1)) := Lib.hid (by unfold putM; rw [if_pos (show Near off from ct), if_neg hM, hnw, if_pos (by omega)])
          clear hM hnw eM c1 c2
          go_upto_region 12 with (fail)
          have rN := (HG.out.mo M2).n
          have rO := (HG.out.mo M2).off
          have rD := (HG.out.mo M2).del
          have sNO := HG.out.no
          have sND := HG.out.nd
          have sOD := HG.out.od
          have KP : KeptR P base W w2 := KeptR.of_mo M2
          have hs1 : W.heap.size ≤ w2.heap.size := M2.size
          have hb1 : base ≤ w2.heap.size := Nat.le_trans hb hs1
          clear bP
          have bP := (HG.out.mo M2).g
          obtain ⟨gN, cN, v1, hr1, O1, G1, Q1⟩ := app_one w2 base M.length _ _ n rN (by omega) hb1
          have T1 := owns_mo rN (Mor.out : Mo w2 (w2.alloc (.cells #[.int .i64 n] 2)))
          have bP1 := blk_grownR (inferInstance : Blk (w2.alloc (.cells #[.int .i64 n] 2)) P 112 _) T1 G1 (by decide)
          have qO1 := owns_row (owns_mo rO (Mor.out : Mo w2 (w2.alloc (.cells #[.int .i64 n] 2)))) G1 (fun k e1 e2 => sNO.symm k e1 e2)
          have qD1 := owns_row (owns_mo rD (Mor.out : Mo w2 (w2.alloc (.cells #[.int .i64 n] 2)))) G1 (fun k e1 e2 => sND.symm k e1 e2)
          have sNO' : Sep (.slice (some ⟨gN, 0, none⟩) (M.length + 1) cN) _ := sep_new sNO Q1 (fun k e => by have := (rO.lt k e).2; omega)
          have sND' : Sep (.slice (some ⟨gN, 0, none⟩) (M.length + 1) cN) _ := sep_new sND Q1 (fun k e => by have := (rD.lt k e).2; omega)
          have KK1 := (KP.mo (Mor.out : Mo w2 (w2.alloc (.cells #[.int .i64 n] 2)))).grow T1 G1
          go_upto_region 13 with (fail)
          refine wp_name ?_
          intro wB hw
          have bPn := blk_setCell bP1 2 (.slice (some ⟨gN, 0, none⟩) (M.length + 1) cN)
          rw [← hw] at bPn
          have nrN := owns_cellT O1 bP1 (by decide) 2 (.slice (some ⟨gN, 0, none⟩) (M.length + 1) cN)
          rw [← hw] at nrN
          have nrO := owns_cellT qO1 bP1 (by decide) 2 (.slice (some ⟨gN, 0, none⟩) (M.length + 1) cN)
          rw [← hw] at nrO
          have nrD := owns_cellT qD1 bP1 (by decide) 2 (.slice (some ⟨gN, 0, none⟩) (M.length + 1) cN)
          rw [← hw] at nrD
          have KPn := KK1.set 2 (.slice (some ⟨gN, 0, none⟩) (M.length + 1) cN)
          rw [← hw] at KPn
          have hb2 : base ≤ wB.heap.size := Nat.le_trans hb (by rw [hw]; have h1 := G1.size; have h2 := hs1; simp at h1 ⊢; omega)
          have hs2 : W.heap.size ≤ wB.heap.size := by rw [hw]; have h1 := G1.size; have h2 := hs1; simp at h1 ⊢; omega
          clear hw rN rO rD bP KP hr1 O1 G1 Q1 T1 bP1 qO1 qD1 KK1
          have rN := nrN
          have rO := nrO
          have rD := nrD
          have bP := bPn
          have KP := KPn
          clear nrN nrO nrD bPn KPn
          clear sNO
          have sNO := sNO'
          clear sNO'
          clear sND
          have sND := sND'
          clear sND'
          obtain ⟨gO, cO, v2, hr2, O2, G2, Q2⟩ := app_one wB base M.length _ _ off rO (by omega) hb2
          have T2 := owns_mo rO (Mor.out : Mo wB (wB.alloc (.cells #[.int .i64 off] 2)))
          have bP2 := blk_grownR (inferInstance : Blk (wB.alloc (.cells #[.int .i64 off] 2)) P 112 _) T2 G2 (by decide)
          have qN2 := owns_row (owns_mo rN (Mor.out : Mo wB (wB.alloc (.cells #[.int .i64 off] 2)))) G2 (fun k e1 e2 => sNO k e1 e2)
          have qD2 := owns_row (owns_mo rD (Mor.out : Mo wB (wB.alloc (.cells #[.int .i64 off] 2)))) G2 (fun k e1 e2 => sOD.symm k e1 e2)
          have sNO' : Sep _ (.slice (some ⟨gO, 0, none⟩) (M.length + 1) cO) := (sep_new sNO.symm Q2 (fun k e => by have := (rN.lt k e).2; omega)).symm
          have sOD' : Sep (.slice (some ⟨gO, 0, none⟩) (M.length + 1) cO) _ := sep_new sOD Q2 (fun k e => by have := (rD.lt k e).2; omega)
          have KK2 := (KP.mo (Mor.out : Mo wB (wB.alloc (.cells #[.int .i64 off] 2)))).grow T2 G2
          go_upto_region 14 with (fail)
          refine wp_name ?_
          intro wC hw
          have bPn := blk_setCell bP2 3 (.slice (some ⟨gO, 0, none⟩) (M.length + 1) cO)
          rw [← hw] at bPn
          have nrO := owns_cellT O2 bP2 (by decide) 3 (.slice (some ⟨gO, 0, none⟩) (M.length + 1) cO)
          rw [← hw] at nrO
          have nrN := owns_cellT qN2 bP2 (by decide) 3 (.slice (some ⟨gO, 0, none⟩) (M.length + 1) cO)
          rw [← hw] at nrN
          have nrD := owns_cellT qD2 bP2 (by decide) 3 (.slice (some ⟨gO, 0, none⟩) (M.length + 1) cO)
          rw [← hw] at nrD
          have KPn := KK2.set 3 (.slice (some ⟨gO, 0, none⟩) (M.length + 1) cO)
          rw [← hw] at KPn
          have hb3 : base ≤ wC.heap.size := Nat.le_trans hb (by rw [hw]; have h1 := G2.size; have h2 := hs2; simp at h1 ⊢; omega)
          have hs3 : W.heap.size ≤ wC.heap.size := by rw [hw]; have h1 := G2.size; have h2 := hs2; simp at h1 ⊢; omega
          clear hw rO rN rD bP KP hr2 O2 G2 Q2 T2 bP2 qN2 qD2 KK2
          have rN := nrN
          have rO := nrO
          have rD := nrD
          have bP := bPn
          have KP := KPn
          clear nrN nrO nrD bPn KPn
          clear sNO
          have sNO := sNO'
          clear sNO'
          clear sOD
          have sOD := sOD'
          clear sOD'
          obtain ⟨gD, cD, v3, hr3, O3, G3, Q3⟩ := app_one wC base M.length _ _ del rD (by omega) hb3
          have T3 := owns_mo rD (Mor.out : Mo wC (wC.alloc (.cells #[.int .i64 del] 2)))
          have bP3 := blk_grownR (inferInstance : Blk (wC.alloc (.cells #[.int .i64 del] 2)) P 112 _) T3 G3 (by decide)
          have qN3 := owns_row (owns_mo rN (Mor.out : Mo wC (wC.alloc (.cells #[.int .i64 del] 2)))) G3 (fun k e1 e2 => sND k e1 e2)
          have qO3 := owns_row (owns_mo rO (Mor.out : Mo wC (wC.alloc (.cells #[.int .i64 del] 2)))) G3 (fun k e1 e2 => sOD k e1 e2)
          have sND' : Sep _ (.slice (some ⟨gD, 0, none⟩) (M.length + 1) cD) := (sep_new sND.symm Q3 (fun k e => by have := (rN.lt k e).2; omega)).symm
          have sOD' : Sep _ (.slice (some ⟨gD, 0, none⟩) (M.length + 1) cD) := (sep_new sOD.symm Q3 (fun k e => by have := (rO.lt k e).2; omega)).symm
          have KK3 := (KP.mo (Mor.out : Mo wC (wC.alloc (.cells #[.int .i64 del] 2)))).grow T3 G3
          go_upto_region 15 with (fail)
          refine wp_name ?_
          intro wD hw
          have bPn := blk_setCell bP3 4 (.slice (some ⟨gD, 0, none⟩) (M.length + 1) cD)
          rw [← hw] at bPn
          have nrD := owns_cellT O3 bP3 (by decide) 4 (.slice (some ⟨gD, 0, none⟩) (M.length + 1) cD)
          rw [← hw] at nrD
          have nrN := owns_cellT qN3 bP3 (by decide) 4 (.slice (some ⟨gD, 0, none⟩) (M.length + 1) cD)
          rw [← hw] at nrN
          have nrO := owns_cellT qO3 bP3 (by decide) 4 (.slice (some ⟨gD, 0, none⟩) (M.length + 1) cD)
          rw [← hw] at nrO
          have KPn := KK3.set 4 (.slice (some ⟨gD, 0, none⟩) (M.length + 1) cD)
          rw [← hw] at KPn
          have hb4 : base ≤ wD.heap.size := Nat.le_trans hb (by rw [hw]; have h1 := G3.size; have h2 := hs3; simp at h1 ⊢; omega)
          have hs4 : W.heap.size ≤ wD.heap.size := by rw [hw]; have h1 := G3.size; have h2 := hs3; simp at h1 ⊢; omega
          clear hw rD rN rO bP KP hr3 O3 G3 Q3 T3 bP3 qN3 qO3 KK3
          have rN := nrN
          have rO := nrO
          have rD := nrD
          have bP := bPn
          have KP := KPn
          clear nrN nrO nrD bPn KPn
          clear sND
          have sND := sND'
          clear sND'
          clear sOD
          have sOD := sOD'
          clear sOD'
          go_wp2_with fail
          rw [← RR.out, PA.out]
          refine ⟨rfl, ⟨_, _, _, ⟨bP, ?_, ?_, ?_, sNO, sND, sOD⟩⟩, KP⟩
          · rw [List.length_append, List.map_append]; exact rN
          · rw [List.length_append, List.map_append]; exact rO
          · rw [List.length_append, List.map_append]; exact rD
  · rw [decide_eq_false ct]
    go_wp2_with fail
    rw [← RR.out]
    unfold putM
    rw [if_neg (show ¬ Near off from ct)]
    exact ⟨rfl, ⟨_, _, _, HG.out.mo Mor.out⟩, KeptR.of_mo Mor.out⟩
end Go.Proofs.Ythgkhllkhhnlpaa
/- horologeref32.Grid: behind, Live. -/
namespace Go.Proofs.Ythgkhllkhhnlpaa
open Go.RowKit

set_option maxRecDepth 20000 in
theorem lk_first {L : List Slot} {y : Int} {i : Nat} (hi : i < L.length) (h : L[i].num = y) (hb : ∀ k (hk : k < i), L[k].num ≠ y) : lk L y = some L[i] := by
  unfold lk
  rw [List.find?_eq_some_iff_getElem]
  refine ⟨by simp [h], i, hi, rfl, fun k hk => ?_⟩
  simp [hb k hk]
set_option maxRecDepth 20000 in
theorem lk_no {L : List Slot} {y : Int} (h : ∀ k (hk : k < L.length), L[k].num ≠ y) : lk L y = none := by
  unfold lk
  rw [List.find?_eq_none]
  intro a ha
  obtain ⟨k, hk, rfl⟩ := List.getElem_of_mem ha
  simp [h k hk]
def BehRet (M : List Slot) (j : Nat) (m : Int) (W : World) (e : Ending) (w' : World) : Prop :=
  (∃ r : Int, e = .returned (.int .i64 r) ∧ ((r = -1 ∧ lk (M.take j) ((M.getD j slot0).num - m) = none) ∨ ∃ i : Nat, i < j ∧ r = i ∧ lk (M.take j) ((M.getD j slot0).num - m) = some (M.getD i slot0))) ∧ Mo W w'
set_option maxRecDepth 20000 in
theorem num_at {w : World} {P base : Nat} {x o : Int} {M : List Slot} {vN vO vD : Value} (h : RG w P base x o M vN vO vD) (h0 : 0 < M.length) : ∃ g c cur, vN = .slice (some ⟨g, 0, none⟩) M.length c ∧ Blk w g 2 cur ∧ ∀ j, j < M.length → cur[j]? = some (.int .i64 (M.getD j slot0).num) := by
  obtain ⟨g, c, cur, e, _, B, _, hc⟩ := row_at h.n h0
  refine ⟨g, c, cur, e, B, fun j hj => ?_⟩
  rw [hc j (by rw [List.length_map]; exact hj)]
  simp [List.getD, List.getElem?_eq_getElem hj]
attribute [local go_sem] blk_cell' blk_frozen'
set_option maxRecDepth 20000 in
set_option maxHeartbeats 8000000 in
theorem behind_any (P base : Nat) (x o : Int) (M : List Slot) (vN vO vD : Value) (j : Nat) (m : Int) (W : World) (hG : RG W P base x o M vN vO vD) (hF : ∀ s ∈ M, Fine s) (hr : Rises M) (hj : j < M.length) (hl : M.length ≤ 1000) (m1 : 1 ≤ m) (m2 : m ≤ 1048576) :
    Calls Try.prog 72 #[.pointer (some ⟨P, 0, none⟩), .int .i64 (j : Int), .int .i64 m] W (BehRet M j m W) := by
  obtain ⟨PO, hPO⟩ : ∃ Q, BehRet M j m W = Q := ⟨_, rfl⟩
  rw [hPO]
  have RR := Lib.hid hPO
  clear hPO
  have HG := Lib.hid hG
  have wm : IntKind.u64.wrap m = m := by rw [IntKind.wrap_u64]; omega
  obtain ⟨AN, cN, eN⟩ := row_sl hG.n
  subst eN
  have bP := hG.g
  obtain ⟨N, hN⟩ : ∃ N, M.length = N := ⟨_, rfl⟩
  have HN := Lib.hid hN
  have RI := Lib.hid hr
  have FI := Lib.hid hF
  rw [hN] at hj hl bP
  clear hG hN hr hF
  go_enter Try.func72, Try.ntmps72
  go_wp2_with fail
  go_loopw [7] (fun s wr => ∃ i : Nat, i ≤ j ∧ s = .int .i64 i ∧ (∀ k, k < i → (M.getD k slot0).num ≠ (M.getD j slot0).num - m) ∧ Mo W wr) (fun s _ => j - (intOf s).toNat)
  case atStart => exact ⟨0, by omega, rfl, fun k h => absurd h (by omega), Mo.refl _⟩
  case round =>
    obtain ⟨i, hi, rfl, hne, hM⟩ := hrel
    have NE := Lib.hid hne
    clear hne
    by_cases ci : i < j
    · have BQ := hM.blk bP
      obtain ⟨g, c', cur, e1, B, hc⟩ := num_at (HG.out.mo hM) (by rw [HN.out]; omega)
      rw [HN.out] at e1 hc
      injection e1 with e1 e1a e1b
      subst e1 e1b
      have yi := hc i (by omega)
      have yj := hc j hj
      have b1 := (FI.out (M.getD i slot0) (by rw [List.getD, List.getElem?_eq_getElem (by rw [HN.out]; omega)]; exact List.getElem_mem _))
      have b2 := (FI.out (M.getD j slot0) (by rw [List.getD, List.getElem?_eq_getElem (by rw [HN.out]; omega)]; exact List.getElem_mem _))
      have lt : (M.getD i slot0).num < (M.getD j slot0).num := by
        have h1 : i < M.length := by rw [HN.out]; omega
        have h2 : j < M.length := by rw [HN.out]; omega
        have := List.pairwise_iff_getElem.1 RI.out i j h1 h2 ci
        simpa [List.getD, List.getElem?_eq_getElem h1, List.getElem?_eq_getElem h2] using this
      have q1 := b1.n1
      have q2 := b1.n2
      have q3 := b2.n1
      have q4 := b2.n2
      obtain ⟨si, hsi⟩ : ∃ s, (M.getD i slot0).num = s := ⟨_, rfl⟩
      obtain ⟨sj, hsj⟩ : ∃ s, (M.getD j slot0).num = s := ⟨_, rfl⟩
      have PY : Hid (sj - si = m → lk (M.take j) (sj - m) = some (M.getD i slot0)) := Lib.hid (fun e => by
        have h1 : i < (M.take j).length := by rw [List.length_take, HN.out]; omega
        have e2 : (M.take j)[i] = M.getD i slot0 := by
          rw [List.getElem_take]
          simp [List.getD, List.getElem?_eq_getElem (show i < M.length by rw [HN.out]; omega)]
        have := lk_first (L := M.take j) (y := sj - m) h1 (by rw [e2, hsi]; omega) (fun k hk => by
          have h3 := NE.out k hk
          rw [hsj] at h3
          have e3 : (M.take j)[k] = M.getD k slot0 := by
            rw [List.getElem_take]
            simp [List.getD, List.getElem?_eq_getElem (show k < M.length by rw [HN.out]; omega)]
          rw [e3]
          exact h3)
        rw [this, e2])
      have PN : Hid (¬ sj - si = m → ∀ k, k < i + 1 → (M.getD k slot0).num ≠ (M.getD j slot0).num - m) := Lib.hid (fun e k hk => by
        by_cases q : k = i
        · subst q
          rw [hsi, hsj]
          omega
        · exact NE.out k (by omega))
      have HSJ := Lib.hid hsj
      rw [hsi] at yi lt q1 q2
      rw [hsj] at yj lt q3 q4
      have wd : IntKind.u64.wrap (wrap64 (sj - si)) = sj - si := by rw [IntKind.wrap_u64]; unfold wrap64; omega
      have i0 : (0 : Int) ≤ i := by omega
      have i1 : (i : Int) < N := by omega
      have i2 : (0 : Int) ≤ j := by omega
      have i3 : (j : Int) < N := by omega
      have dij : decide ((i : Int) < j) = true := decide_eq_true (by omega)
      clear hc hsi hsj b1 b2 lt q1 q2 q3 q4 e1a
      by_cases cc : sj - si = m
      · have bb : (sj - si == m) = true := by simp [cc]
        have PY' := Lib.hid (PY.out cc)
        clear PY PN cc
        go_upto_region 4 with (fail)
        go_region
        go_wp2_with fail
        rw [← RR.out]
        exact ⟨⟨i, rfl, .inr ⟨i, ci, rfl, by rw [HSJ.out]; exact PY'.out⟩⟩, hM.trans Mor.out⟩
      · have bb : (sj - si == m) = false := by simp [cc]
        have PN' := Lib.hid (PN.out cc)
        clear PY PN cc
        go_upto_region 4 with (fail)
        go_region
        go_wp2_with fail
        go_roundw
        case rel => exact ⟨i + 1, by omega, by go_num, PN'.out, hM.trans Mor.out⟩
        case measure => simp [intOf]; omega
    · obtain rfl : i = j := by omega
      go_wp2_with fail
      rw [← RR.out]
      refine ⟨⟨-1, rfl, .inl ⟨rfl, lk_no fun k hk => ?_⟩⟩, hM.trans Mor.out⟩
      have hk' : k < i := by rw [List.length_take] at hk; omega
      have := NE.out k hk'
      rw [List.getElem_take]
      have e : M[k]'(by rw [HN.out]; omega) = M.getD k slot0 := by simp [List.getD, List.getElem?_eq_getElem (show k < M.length by rw [HN.out]; omega)]
      rw [e]
      exact this
set_option maxRecDepth 20000 in
theorem nw_get (M : List Slot) : nwOf M = M.getD (M.length - 1) slot0 := by
  unfold nwOf
  rw [List.getLast?_eq_getElem?]
  rfl
set_option maxRecDepth 20000 in
theorem cnt_take (M : List Slot) (p : Slot → Bool) (i : Nat) (hi : i < M.length) : (M.take (i + 1)).countP p = (M.take i).countP p + if p (M.getD i slot0) then 1 else 0 := by
  rw [List.take_add_one, List.getElem?_eq_getElem hi, List.countP_append]
  simp [List.getD, List.getElem?_eq_getElem hi, List.countP_cons]
set_option maxRecDepth 20000 in
set_option maxHeartbeats 8000000 in
theorem rlive_any (P base o : Nat) (x : Int) (M : List Slot) (vN vO vD : Value) (W : World) (hG : RG W P base x o M vN vO vD) (hF : ∀ s ∈ M, Fine s) (hr : Rises M) (hl : M.length ≤ 1000) (ho : o ≤ 10) :
    Calls Try.prog 43 #[.pointer (some ⟨P, 0, none⟩)] W fun e w' => e = .returned (.int .i64 (liveM M o : Nat)) ∧ Mo W w' := by
  obtain ⟨r, hr'⟩ : ∃ r, liveM M o = r := ⟨_, rfl⟩
  rw [hr']
  have RR := Lib.hid hr'
  clear hr'
  have HG := Lib.hid hG
  obtain ⟨AN, cN, eN⟩ := row_sl hG.n
  subst eN
  have bP := hG.g
  obtain ⟨N, hN⟩ : ∃ N, M.length = N := ⟨_, rfl⟩
  have HN := Lib.hid hN
  have RI := Lib.hid hr
  have FI := Lib.hid hF
  rw [hN] at hl bP
  clear hG hN hr hF
  go_enter Try.func43, Try.ntmps43
  go_wp2_with fail
  go_loopw [3, 4] (fun s3 s4 wr => ∃ k : Nat, k ≤ o ∧ s4 = .int .i64 k ∧ s3 = .int .u64 ((2 ^ k : Nat) : Int) ∧ Mo W wr) (fun _ s _ => o - (intOf s).toNat)
  case atStart => exact ⟨0, by omega, rfl, rfl, Mo.refl _⟩
  case round =>
    obtain ⟨k, hk, rfl, rfl, hM⟩ := hrel
    have BQ := hM.blk bP
    have hp : (2 : Nat) ^ k ≤ 1024 := Nat.le_trans (Nat.pow_le_pow_right (by decide) (by omega : k ≤ 10)) (by decide)
    have hp1 : 1 ≤ (2 : Nat) ^ k := Nat.one_le_two_pow
    have hs : (2 : Nat) ^ (k + 1) = 2 * 2 ^ k := by rw [Nat.pow_succ]; omega
    obtain ⟨q, hq⟩ : ∃ q : Nat, 2 ^ k = q := ⟨_, rfl⟩
    rw [hq] at hp hp1 hs ⊢
    by_cases ck : k < o
    · have d0 : decide ((k : Int) < o) = true := decide_eq_true (by omega)
      have w2 : IntKind.u64.wrap (2 * (q : Int)) = 2 * q := by rw [IntKind.wrap_u64]; omega
      have HS := Lib.hid hs
      clear hq hs
      go_wp2_with fail
      go_roundw
      case rel => exact ⟨k + 1, by omega, by go_num, by rw [HS.out]; congr 1, hM⟩
      case measure => simp [intOf]; omega
    · obtain rfl : k = o := by omega
      clear hs
      have HQ := Lib.hid hq
      clear hq
      go_wp2_with fail
      go_loopw [5, 6] (fun n i w => ∃ j : Nat, j ≤ N ∧ i = .int .i64 j ∧ n = .int .i64 (((M.take j).countP (nearTo (nwOf M).num k) : Nat) : Int) ∧ Mo W w) (fun _ i _ => N - (intOf i).toNat)
      case atStart => exact ⟨0, by omega, rfl, rfl, hM⟩
      case round =>
        clear hM BQ
        obtain ⟨j, hj, rfl, rfl, hM⟩ := hrel
        have BQ := hM.blk bP
        have hcn : (M.take j).countP (nearTo (nwOf M).num k) ≤ j := Nat.le_trans List.countP_le_length (by rw [List.length_take]; omega)
        by_cases cj : j < N
        · have hjl : j < M.length := by rw [HN.out]; exact cj
          obtain ⟨g, c', cur, e1, B, hc⟩ := num_at (HG.out.mo hM) (by omega)
          rw [HN.out] at e1 hc
          injection e1 with e1 e1a e1b
          subst e1 e1b
          have yj := hc j cj
          have yn := hc (N - 1) (by omega)
          have en : M.getD (N - 1) slot0 = nwOf M := by rw [nw_get, HN.out]
          rw [en] at yn
          have b1 := FI.out (M.getD j slot0) (by rw [List.getD, List.getElem?_eq_getElem hjl]; exact List.getElem_mem _)
          have b2 := FI.out (nwOf M) (by rw [← en, List.getD, List.getElem?_eq_getElem (by rw [HN.out]; omega)]; exact List.getElem_mem _)
          have lt : (M.getD j slot0).num ≤ (nwOf M).num := by
            rw [← en]
            by_cases q1 : j = N - 1
            · rw [q1]; exact Int.le_refl _
            · have h2 : N - 1 < M.length := by rw [HN.out]; omega
              have := List.pairwise_iff_getElem.1 RI.out j (N - 1) hjl h2 (by omega)
              have h3 : (M.getD j slot0).num < (M.getD (N - 1) slot0).num := by simpa [List.getD, List.getElem?_eq_getElem hjl, List.getElem?_eq_getElem h2] using this
              omega
          have CT := cnt_take M (nearTo (nwOf M).num k) j hjl
          have q1 := b1.n1
          have q2 := b1.n2
          have q3 := b2.n1
          have q4 := b2.n2
          have pk : (2 : Int) ^ k = (q : Int) := by rw [← HQ.out]; simp
          unfold nearTo at CT hcn ⊢
          rw [pk] at CT hcn ⊢
          obtain ⟨sj, hsj⟩ : ∃ s, (M.getD j slot0).num = s := ⟨_, rfl⟩
          obtain ⟨sa, hsa⟩ : ∃ s, (nwOf M).num = s := ⟨_, rfl⟩
          rw [hsj] at yj lt q1 q2 CT
          rw [hsa] at yn lt q3 q4 CT hcn ⊢
          obtain ⟨cn, hcn'⟩ : ∃ n, (M.take j).countP (fun s => decide (sa - s.num ≤ (q : Int))) = n := ⟨_, rfl⟩
          rw [hcn'] at CT hcn ⊢
          have wd : IntKind.u64.wrap (wrap64 (sa - sj)) = sa - sj := by rw [IntKind.wrap_u64]; unfold wrap64; omega
          have wl : IntKind.i64.wrap ((N : Int) - 1) = ((N - 1 : Nat) : Int) := by rw [IntKind.wrap_i64]; omega
          have wc : IntKind.i64.wrap ((cn : Int) + 1) = cn + 1 := by rw [IntKind.wrap_i64]; omega
          have i0 : (0 : Int) ≤ j := by omega
          have i1 : (j : Int) < N := by omega
          have i2 : (0 : Int) ≤ ((N - 1 : Nat) : Int) := by omega
          have i3 : ((N - 1 : Nat) : Int) < N := by omega
          have CT' := Lib.hid CT
          clear hc hsj hsa b1 b2 lt q1 q2 q3 q4 e1a en hcn' CT hjl pk
          by_cases cc : sa - sj ≤ (q : Int)
          · have bb : decide (sa - sj ≤ (q : Int)) = true := decide_eq_true cc
            rw [bb] at CT'
            clear cc
            go_upto_region 10 with (fail)
            go_region
            go_wp2_with fail
            go_roundw
            case rel => exact ⟨j + 1, by omega, by go_num, by rw [CT'.out]; rfl, hM.trans Mor.out⟩
            case measure => simp [intOf]; omega
          · have bb : decide (sa - sj ≤ (q : Int)) = false := decide_eq_false cc
            rw [bb] at CT'
            clear cc
            go_upto_region 10 with (fail)
            go_region
            go_wp2_with fail
            go_roundw
            case rel => exact ⟨j + 1, by omega, by go_num, by rw [CT'.out]; rfl, hM.trans Mor.out⟩
            case measure => simp [intOf]; omega
        · obtain rfl : j = N := by omega
          have e : M.take j = M := List.take_of_length_le (by rw [HN.out]; exact Nat.le_refl _)
          rw [e, show M.countP (nearTo (nwOf M).num k) = r from RR.out]
          go_wp2_with fail
          go_ret
          exact ⟨rfl, hM.trans Mor.out⟩
end Go.Proofs.Ythgkhllkhhnlpaa
/- horologeref32.Grid: Told. -/
namespace Go.Proofs.Ythgkhllkhhnlpaa
open Go.RowKit

set_option maxRecDepth 20000 in
theorem off_at {w : World} {P base : Nat} {x o : Int} {M : List Slot} {vN vO vD : Value} (h : RG w P base x o M vN vO vD) (h0 : 0 < M.length) : ∃ g c cur, vO = .slice (some ⟨g, 0, none⟩) M.length c ∧ Blk w g 2 cur ∧ ∀ j, j < M.length → cur[j]? = some (.int .i64 (M.getD j slot0).off) := by
  obtain ⟨g, c, cur, e, _, B, _, hc⟩ := row_at h.off h0
  refine ⟨g, c, cur, e, B, fun j hj => ?_⟩
  rw [hc j (by rw [List.length_map]; exact hj)]
  simp [List.getD, List.getElem?_eq_getElem hj]
set_option maxRecDepth 20000 in
theorem getD_mem {M : List Slot} {j : Nat} (hj : j < M.length) : M.getD j slot0 ∈ M := by
  rw [List.getD, List.getElem?_eq_getElem hj]
  exact List.getElem_mem _
set_option maxRecDepth 20000 in
theorem con_none1 {k : Nat} {L : List Slot} {s : Slot} (h : lk L (s.num - 2 ^ k) = none) : con k L s = (0, 0) := by unfold con; rw [h]
set_option maxRecDepth 20000 in
theorem con_none2 {k : Nat} {L : List Slot} {s : Slot} (h : lk L (s.num - 2 * 2 ^ k) = none) : con k L s = (0, 0) := by
  unfold con
  rw [h]
  cases lk L (s.num - 2 ^ k) <;> rfl
set_option maxRecDepth 20000 in
theorem con_some {k : Nat} {L : List Slot} {s a b : Slot} (h1 : lk L (s.num - 2 ^ k) = some a) (h2 : lk L (s.num - 2 * 2 ^ k) = some b) : con k L s = (1, (s.off - a.off - a.off + b.off) * (s.off - a.off - a.off + b.off)) := by
  unfold con
  rw [h1, h2]
  simp only
  rw [show s.off - 2 * a.off + b.off = s.off - a.off - a.off + b.off by omega]
set_option maxRecDepth 20000 in
theorem sumN_zero (k : Nat) (M : List Slot) (i : Nat) (h : con k (M.take i) (M.getD i slot0) = (0, 0)) : sumN k M (i + 1) = sumN k M i := by
  rw [sumN, h]
  simp
set_option maxRecDepth 20000 in
theorem sumN_one (k : Nat) (M : List Slot) (i : Nat) (d : Int) (h : con k (M.take i) (M.getD i slot0) = (1, d * d)) : sumN k M (i + 1) = ((sumN k M i).1 + 1, (sumN k M i).2 + d * d) := by
  rw [sumN, h]
set_option maxRecDepth 20000 in
theorem owns_kp {w w' : World} {b sz n : Nat} {e : TypeId} {v : Value} {xs : List Value} {S : Nat → Prop} (h : w.ownsRow b e sz v n xs) (k : KpS S w w') (ns : ∀ g, v.ownBlock = some g → ¬ S g) : w'.ownsRow b e sz v n xs := by
  refine ⟨h.1, ?_⟩
  rcases h.2 with hn | ⟨g, cap, cur, rfl, hb, hg, rest⟩
  · exact .inl hn
  · exact .inr ⟨g, cap, cur, rfl, hb, (k.block g (Array.getElem?_eq_some_iff.1 hg).1 (ns g rfl)).trans hg, rest⟩
set_option maxRecDepth 20000 in
theorem taus_succ (M : List Slot) (k : Nat) : taus M (k + 1) = taus M k ++ [tauN M k] := by unfold taus; rw [List.range_succ, List.map_append]; rfl
attribute [local go_sem] blk_cell' blk_frozen'
set_option maxRecDepth 20000 in
set_option maxHeartbeats 16000000 in
theorem rtold_any (P base o : Nat) (x : Int) (M : List Slot) (vN vO vD : Value) (W : World) (hG : RG W P base x o M vN vO vD) (hF : ∀ s ∈ M, Fine s) (hr : Rises M) (hl : M.length ≤ 1000) (ho : o ≤ 10) :
    Calls Try.prog 40 #[.pointer (some ⟨P, 0, none⟩)] W (ToldRet (taus M o) W) := by
  obtain ⟨PO, hPO⟩ : ∃ Q, ToldRet (taus M o) W = Q := ⟨_, rfl⟩
  rw [hPO]
  have RR := Lib.hid hPO
  clear hPO
  have HG := Lib.hid hG
  obtain ⟨AN, cN, eN⟩ := row_sl hG.n
  subst eN
  have bP := hG.g
  obtain ⟨N, hN⟩ : ∃ N, M.length = N := ⟨_, rfl⟩
  have HN := Lib.hid hN
  have FI := Lib.hid hF
  have BH := Lib.hid (fun (j : Nat) (m : Int) (hj : j < M.length) (m1 : 1 ≤ m) (m2 : m ≤ 1048576) w (K : Mo W w) => behind_any P base x o M _ vO vD j m w (hG.mo K) hF hr hj hl m1 m2)
  have SB := Lib.hid (fun k n hn => sumN_bd k M hF n hn)
  have O0 := Lib.hid (fun w => rof_any 0 (by decide) (by decide) w)
  rw [show decide ((0 : Int) < 0) = false by decide, show absI 0 = 0 by decide] at O0
  rw [hN] at hl bP
  clear hG hN hr hF
  obtain ⟨i0, hi0, hz0, hz1, hz2⟩ := info_parts infoTau
  go_enter Try.func40, Try.ntmps40
  go_wp2_with fail
  go_loopw [3, 4, 5] (fun v s4 s5 wr => ∃ k : Nat, k ≤ o ∧ s5 = .int .i64 k ∧ s4 = .int .i64 ((2 ^ k : Nat) : Int) ∧ wr.ownsRow W.heap.size 117 5 v k (tauRow (taus M k)) ∧ Mo W wr) (fun _ _ s _ => o - (intOf s).toNat)
  case atStart => exact ⟨0, by omega, rfl, rfl, ⟨rfl, .inl ⟨rfl, rfl⟩⟩, Mo.refl _⟩
  case round =>
    obtain ⟨k, hk, rfl, rfl, hown, hM⟩ := hrel
    have OW := Lib.hid hown
    clear hown
    have BQ := hM.blk bP
    have hp : (2 : Nat) ^ k ≤ 1024 := Nat.le_trans (Nat.pow_le_pow_right (by decide) (by omega : k ≤ 10)) (by decide)
    have hp1 : 1 ≤ (2 : Nat) ^ k := Nat.one_le_two_pow
    have hs : (2 : Nat) ^ (k + 1) = 2 * 2 ^ k := by rw [Nat.pow_succ]; omega
    obtain ⟨q, hq⟩ : ∃ q : Nat, 2 ^ k = q := ⟨_, rfl⟩
    have pk : (2 : Int) ^ k = (q : Int) := by rw [← hq]; simp
    rw [hq] at hp hp1 hs ⊢
    by_cases ck : k < o
    · have d0 : decide ((k : Int) < o) = true := decide_eq_true (by omega)
      have w2 : IntKind.i64.wrap (2 * (q : Int)) = 2 * q := by rw [IntKind.wrap_i64]; omega
      have HS := Lib.hid hs
      have HPK := Lib.hid pk
      clear hq hs pk
      go_wp2_with fail
      refine (O0.out _).mono ?_
      rintro e w1 ⟨rfl, M1⟩
      have N1 := hM.trans ((Mor.out : Mo wr _).trans M1)
      have T1 : Blk w1 wr.heap.size 117 #[.int .i64 (q : Int), .int .i64 0, .int .i64 0, .int .u64 0, .int .u64 0] := M1.blk inferInstance
      have OW1 := Lib.hid (owns_mo OW.out ((Mor.out : Mo wr _).trans M1))
      obtain ⟨g6, hg6⟩ : ∃ g, wr.heap.size = g := ⟨_, rfl⟩
      have hg6W : W.heap.size ≤ g6 := by rw [← hg6]; exact hM.size
      rw [hg6] at T1
      have hO6 : Hid (∀ b, u3.ownBlock = some b → b < g6) := Lib.hid (by rw [← hg6]; exact fun b e => (OW.out.lt b e).2)
      rw [hg6]
      clear M1 OW hM hg6 BQ
      go_upto_region 8 with (fail)
      refine wp_name ?_
      intro wS hwS
      have S6 : Blk wS g6 117 #[.int .i64 (q : Int), .int .i64 0, .int .i64 0, .int .u64 0, .int .u64 0] := by rw [hwS]; infer_instance
      have S7 : Blk wS w1.heap.size 156 (numC false (lim 0)) := by rw [hwS]; infer_instance
      have NS : Mo W wS := by rw [hwS]; exact N1.trans Mor.out
      have OWS := Lib.hid (show wS.ownsRow W.heap.size 117 5 u3 k (tauRow (taus M k)) by rw [hwS]; exact owns_mo OW1.out Mor.out)
      have L67 : g6 < w1.heap.size := T1.lt
      clear hwS T1 N1 OW1
      obtain ⟨g7, hg7⟩ : ∃ g, w1.heap.size = g := ⟨_, rfl⟩
      rw [hg7] at S7 L67 ⊢
      clear hg7 w1
      go_wp2_with fail
      go_loopw [8] (fun s8 w => ∃ (i : Nat) (sg : Bool), sg = false ∧ i ≤ N ∧ s8 = .int .i64 i ∧ Sg sg (sumN k M i).2 ∧ Blk w g6 117 #[.int .i64 (q : Int), .int .i64 (sumN k M i).1, .int .i64 0, .int .u64 0, .int .u64 0] ∧ Blk w g7 156 (numC sg (lim (absI (sumN k M i).2))) ∧ KpS (fun b => b = g6 ∨ b = g7) wS w) (fun s _ => N - (intOf s).toNat)
      case atStart => exact ⟨0, false, rfl, by omega, rfl, Sg.pos (by show (0 : Int) ≤ 0; omega), S6, S7, KpS.refl _ _⟩
      case round =>
        clear S6 S7
        obtain ⟨i, sg, esg, hi, rfl, hsg, B6, B7, hK⟩ := hrel
        have ES := Lib.hid esg
        clear esg
        have MW : Mo W wr := hK.mo NS (fun b _ e => by omega)
        have BQ := MW.blk bP
        have sb := SB.out k i (by rw [HN.out]; exact hi)
        by_cases ci : i < N
        · have H1 := Lib.hid (BH.out i q (by rw [HN.out]; exact ci) (by omega) (by omega) wr MW)
          have H2 := Lib.hid (fun w (K : Mo W w) => BH.out i (2 * q) (by rw [HN.out]; exact ci) (by omega) (by omega) w K)
          have di : decide ((i : Int) < N) = true := decide_eq_true (by omega)
          go_wp2_with fail
          refine H1.out.mono ?_
          rintro e w2' ⟨⟨r1, rfl, h1⟩, M2⟩
          have MW2 := MW.trans M2
          have B62 := M2.blk B6
          have B72 := M2.blk B7
          have K2 := hK.trans (KpS.of_mo (S := fun b => b = g6 ∨ b = g7) M2) fun _ _ e => e
          have h1' := Lib.hid h1
          clear h1 H1 B6 B7 hK M2 MW BQ
          go_wp2_with fail
          refine (H2.out _ MW2).mono ?_
          rintro e w3 ⟨⟨r2, rfl, h2⟩, M3⟩
          have MW3 := MW2.trans M3
          have B63 := M3.blk B62
          have B73 := M3.blk B72
          have BQ := MW3.blk bP
          have K3 := K2.trans (KpS.of_mo (S := fun b => b = g6 ∨ b = g7) M3) fun _ _ e => e
          have h2' := Lib.hid h2
          clear h2 H2 B62 B72 K2 M3 MW2
          rcases h1'.out with ⟨rfl, l1⟩ | ⟨a, ha, rfl, l1⟩
          · rw [← HPK.out] at l1
            have Z := Lib.hid (sumN_zero k M i (con_none1 l1))
            clear l1 h1' h2'
            go_wp2_with fail
            go_roundw
            case rel => exact ⟨i + 1, sg, ES.out, by omega, by go_num, by rw [Z.out]; exact hsg, by rw [Z.out]; exact B63, by rw [Z.out]; exact B73, K3⟩
            case measure => simp [intOf]; omega
          · have da : decide ((a : Int) < 0) = false := decide_eq_false (by omega)
            rcases h2'.out with ⟨rfl, l2⟩ | ⟨b, hb, rfl, l2⟩
            · rw [← HPK.out] at l2
              have Z := Lib.hid (sumN_zero k M i (con_none2 l2))
              clear l1 l2 h1' h2'
              go_wp2_with fail
              go_roundw
              case rel => exact ⟨i + 1, sg, ES.out, by omega, by go_num, by rw [Z.out]; exact hsg, by rw [Z.out]; exact B63, by rw [Z.out]; exact B73, K3⟩
              case measure => simp [intOf]; omega
            · have db : decide ((b : Int) < 0) = false := decide_eq_false (by omega)
              rw [← HPK.out] at l1 l2
              have CS := con_some l1 l2
              obtain ⟨g, c', cur, e1, BO, hc⟩ := off_at (HG.out.mo MW3) (by rw [HN.out]; omega)
              rw [HN.out] at e1 hc
              subst e1
              have yi := hc i ci
              have ya := hc a (by omega)
              have yb := hc b (by omega)
              have ni := (FI.out _ (getD_mem (M := M) (j := i) (by rw [HN.out]; omega))).near
              have na := (FI.out _ (getD_mem (M := M) (j := a) (by rw [HN.out]; omega))).near
              have nb := (FI.out _ (getD_mem (M := M) (j := b) (by rw [HN.out]; omega))).near
              obtain ⟨oi, hoi⟩ : ∃ z, (M.getD i slot0).off = z := ⟨_, rfl⟩
              obtain ⟨oa, hoa⟩ : ∃ z, (M.getD a slot0).off = z := ⟨_, rfl⟩
              obtain ⟨ob, hob⟩ : ∃ z, (M.getD b slot0).off = z := ⟨_, rfl⟩
              rw [hoi] at yi ni CS
              rw [hoa] at ya na CS
              rw [hob] at yb nb CS
              obtain ⟨n1, n2⟩ := ni
              obtain ⟨n3, n4⟩ := na
              obtain ⟨n5, n6⟩ := nb
              have e1 : IntKind.i64.wrap (oi - oa) = oi - oa := by rw [IntKind.wrap_i64]; omega
              have e2 : IntKind.i64.wrap (oi - oa - oa) = oi - oa - oa := by rw [IntKind.wrap_i64]; omega
              obtain ⟨d, hd⟩ : ∃ d, oi - oa - oa + ob = d := ⟨_, rfl⟩
              have e3 : IntKind.i64.wrap (oi - oa - oa + ob) = d := by rw [← hd, IntKind.wrap_i64]; omega
              have db1 : -562949953421312 ≤ d := by omega
              have db2 : d ≤ 562949953421312 := by omega
              rw [hd] at CS
              have Z := Lib.hid (sumN_one k M i d CS)
              have OFd := Lib.hid (fun w => rof_any d (by omega) (by omega) w)
              have LP : LtW P w3 := ⟨BQ.lt⟩
              have Lg : LtW g w3 := ⟨BO.lt⟩
              have f1 : wrap64 (oi - oa) = oi - oa := by unfold wrap64; omega
              have f2 : wrap64 (oi - oa - oa) = oi - oa - oa := by unfold wrap64; omega
              have b1 : (0 : Int) ≤ i := by omega
              have b2 : (i : Int) < N := by omega
              have b3 : (0 : Int) ≤ a := by omega
              have b4 : (a : Int) < N := by omega
              have b5 : (0 : Int) ≤ b := by omega
              have b6 : (b : Int) < N := by omega
              clear hoi hoa hob n1 n2 n3 n4 n5 n6 CS l1 l2 h1' h2' hd hc
              go_upto_region 14 with (fail)
              go_cut [11] (fun s11 wx => ∃ g11, s11 = .pointer (some ⟨g11, 0, none⟩) ∧ Blk wx g11 156 (numC (decide (d < 0)) (lim (absI d))) ∧ Mo w3 wx)
              case first =>
                as_aux_lemma =>
                go_region_held3 (fun w' => MoC w3 w') (first | exact ⟨Mor.out⟩ | exact ⟨M39⟩ | exact ⟨M39.trans Mor.out⟩ | exact ⟨mo_setRow M39 (Nat.le_refl _) _⟩)
                  (first
                  | ((with_reducible refine (OFd.out _).mono ?_)
                     rintro e w9 ⟨rfl, M9⟩
                     have M39 := (Mor.out : Mo w3 _).trans M9
                     have iM9 : MoC _ w9 := ⟨M9⟩))
                all_goals (
                  go_wp2_with fail
                  go_meet
                  refine ⟨_, rfl, ?_, ?_⟩
                  · first
                      | infer_instance
                      | exact blk_setRow (M9.blk (by infer_instance))
                  · first
                      | exact M39.trans Mor.out
                      | exact mo_setRow M39 (Nat.le_refl _) _)
              obtain ⟨g11, rfl, B11, M11⟩ := hcut
              have MW11 := MW3.trans M11
              have B6x := M11.blk B63
              have B7x := M11.blk B73
              have Kx := K3.trans (KpS.of_mo (S := fun b => b = g6 ∨ b = g7) M11) fun _ _ e => e
              clear M11 MW3 B63 B73 K3 BO f1 f2 b1 b2 b3 b4 b5 b6 e1 e2 e3 LP Lg OFd yi ya yb
              have ds : absI d ≤ 562949953421312 := by unfold absI; omega
              have d0 := absI_nonneg d
              have dd : absI d * absI d = d * d := by
                unfold absI
                split
                · rw [Int.neg_mul_neg]
                · rfl
              have d2 : 0 ≤ d * d := by rw [← dd]; exact Int.mul_nonneg d0 d0
              have d3 : d * d ≤ 316912650057057350374175801344 := by rw [← dd]; exact Int.le_trans (Int.mul_le_mul ds ds d0 (by omega)) (by omega)
              have MD := Lib.hid (fun w => rmul_any (decide (d < 0)) (decide (d < 0)) (absI d) (absI d) d0 (by omega) d0 (by rw [dd]; omega) w)
              rw [show (decide (d < 0) != decide (d < 0)) = false by cases decide (d < 0) <;> rfl, dd] at MD
              have s0 : absI (d * d) = d * d := by unfold absI; rw [if_neg (by omega)]
              have Hs := Lib.hid (addS_sg (c := false) hsg (Sg.pos d2))
              have AD := Lib.hid (fun w => radd_any sg false (sumN k M i).2 (d * d) hsg (Sg.pos d2) (by unfold absI; split <;> omega) (by rw [s0]; omega) w)
              rw [s0] at AD
              obtain ⟨s, hs⟩ : ∃ s, (sumN k M i).2 = s := ⟨_, rfl⟩
              rw [hs] at B7x AD Hs Z
              obtain ⟨n, hn⟩ : ∃ n, (sumN k M i).1 = n := ⟨_, rfl⟩
              rw [hn] at B6x Z sb
              have n1 : IntKind.i64.wrap (n + 1) = n + 1 := by rw [IntKind.wrap_i64]; omega
              clear hs hn sb ds d0 dd d2 d3 s0 db1 db2 hsg
              rename World => Wb
              go_upto_region 15 with (fail)
              refine wp_region_mo_tail 5 (by kernel_rfl) (by kernel_rfl) ?_
              simp only [List.take_succ_cons, List.take_zero, List.drop_succ_cons, List.drop_zero]
              repeat (go_big_quiet_step (first | (with_reducible exact quiet_mo (MD.out _)) | (with_reducible exact quiet_mo (AD.out _))))
              refine wpQuiet_nil ?_
              intro _ hw'
              obtain ⟨⟨J2, d2⟩, hw''⟩ := hw'
              subst hw''
              go_upto_region 16 with (fail)
              refine wp_name ?_
              intro wY hwY
              have B6y : Blk wY g6 117 #[.int .i64 (q : Int), .int .i64 n, .int .i64 0, .int .u64 0, .int .u64 0] := by
                have := blk_setRow_ne (cs' := numC (addS sg false s (d * d)) (lim (absI (s + d * d)))) B6x (show g7 ≠ g6 by omega)
                rw [hwY]
                infer_instance
              have B7y : Blk wY g7 156 (numC (addS sg false s (d * d)) (lim (absI (s + d * d)))) := by
                have := blk_setRow (cs' := numC (addS sg false s (d * d)) (lim (absI (s + d * d)))) B7x
                rw [hwY]
                infer_instance
              have Ky : KpS (fun b => b = g6 ∨ b = g7) wS wY := by
                rw [hwY]
                exact (Kx.row (g := g7) (.inr rfl) (numC (addS sg false s (d * d)) (lim (absI (s + d * d))))).trans (KpS.of_mo (S := fun b => b = g6 ∨ b = g7) Mor.out) fun _ _ e => e
              clear hwY B6x B7x Kx MW11 B11 AD MD
              go_wp2_with fail
              go_roundw
              case rel =>
                refine ⟨i + 1, addS sg false s (d * d), by rw [ES.out]; rfl, by omega, by go_num, by rw [Z.out]; exact Hs.out, ?_, ?_, ?_⟩
                · rw [Z.out]
                  exact blk_setCell B6y 1 _
                · rw [Z.out]
                  exact blk_setCell_ne B7y (show g6 ≠ g7 by omega) 1 _
                · exact Ky.cell (g := g6) (.inl rfl) 1 _
              case measure => simp [intOf]; omega
        · have ei : i = N := by omega
          subst ei
          have di : decide ((i : Int) < i) = false := decide_eq_false (by omega)
          have WDE := Lib.hid (fun w => rwide_any sg (sumN k M i).2 hsg (by unfold absI; split <;> omega) w)
          rw [cl_in (show InW (sumN k M i).2 by unfold InW; omega)] at WDE
          go_wp2_with fail
          refine (WDE.out _).mono ?_
          rintro e wV ⟨rfl, MV⟩
          have B6v := MV.blk B6
          have B7v := MV.blk B7
          have Kv := hK.trans (KpS.of_mo (S := fun b => b = g6 ∨ b = g7) MV) fun _ _ e => e
          have TN : Hid (∃ s n, (sumN k M i).2 = s ∧ (sumN k M i).1 = n) := Lib.hid ⟨_, _, rfl, rfl⟩
          obtain ⟨s, n, hs, hn⟩ := TN.out
          rw [hs] at B7v hsg sb ⊢
          rw [hn] at B6v sb
          clear WDE B6 B7 hK MV MW BQ TN
          go_upto_region 18 with (fail)
          obtain rfl := ES.out
          refine wp_name ?_
          intro wZ hwZ
          have B6z : Blk wZ g6 117 #[.int .i64 (q : Int), .int .i64 n, .int .i64 (hiW s), .int .u64 (loW s), .int .u64 0] := by
            rw [hwZ]
            exact blk_setCell (blk_setCell B6v 2 _) 3 _
          have B7z : Blk wZ g7 156 (numC false (lim (absI s))) := by
            rw [hwZ]
            exact blk_setCell_ne (blk_setCell_ne B7v (show g6 ≠ g7 by omega) 2 _) (show g6 ≠ g7 by omega) 3 _
          have Kz : KpS (fun b => b = g6 ∨ b = g7) wS wZ := by
            rw [hwZ]
            exact (Kv.cell (g := g6) (.inl rfl) 2 _).cell (g := g6) (.inl rfl) 3 _
          have TK : Hid (tauN M k = ⟨q, n, s, devT n s⟩) := Lib.hid (by unfold tauN; rw [HN.out, hs, hn, HPK.out])
          clear hwZ B6v B7v Kv hs hn
          go_upto_if 93 with (fail)
          go_cut [6] (fun s6 wx => s6 = .pointer (some ⟨g6, 0, none⟩) ∧ Blk wx g6 117 (tauC (tauN M k)) ∧ KpS (fun b => b = g6 ∨ b = g7) wS wx)
          case first =>
            as_aux_lemma =>
            by_cases cp : 0 < n
            · have dp : decide (0 < n) = true := decide_eq_true cp
              have w2n : IntKind.i64.wrap (2 * n) = 2 * n := by rw [IntKind.wrap_i64]; omega
              have OF2 := Lib.hid (fun w => rof_any (2 * n) (by omega) (by omega) w)
              rw [show decide (2 * n < 0) = false from decide_eq_false (by omega), show absI (2 * n) = 2 * n by unfold absI; rw [if_neg (by omega)]] at OF2
              have FL := Lib.hid (fun w => rfloor_any false s (2 * n) hsg (by unfold absI; split <;> omega) (by omega) (by omega) w)
              have q0 : 0 ≤ s / (2 * n) := Int.ediv_nonneg sb.2.2.1 (by omega)
              rw [show absI (s / (2 * n)) = s / (2 * n) by unfold absI; rw [if_neg (by omega)]] at FL
              have RT := Lib.hid (fun w => rroot_any (s / (2 * n)) (inW_div (show InW s by unfold InW; omega) (by omega)) q0 w)
              have DV := Lib.hid (divpos n s cp)
              clear q0
              go_wp2_with fail
              refine wp_region_mo_tail 8 (by kernel_rfl) (by kernel_rfl) ?_
              simp only [List.take_succ_cons, List.take_zero, List.drop_succ_cons, List.drop_zero]
              repeat (go_big_quiet_step (first | (with_reducible exact quiet_mo (OF2.out _)) | (with_reducible exact quiet_mo (FL.out _)) | (with_reducible exact quiet_mo (RT.out _))))
              refine wpQuiet_nil ?_
              intro _ hw'
              obtain ⟨⟨J2, d2⟩, hw''⟩ := hw'
              subst hw''
              go_wp2_with fail
              go_meet
              refine ⟨rfl, ?_, ?_⟩
              · have := blk_setCell B6z 4 (.int .u64 (rootV (s / (2 * n))))
                rw [TK.out, DV.out]
                first
                  | exact (Mor.out : Mo (wZ.setCell ⟨g6, 4, none⟩ (.int .u64 (rootV (s / (2 * n))))) _).blk this
                  | (simp only [go_sem]; infer_instance)
              · exact (Kz.cell (g := g6) (.inl rfl) 4 (.int .u64 (rootV (s / (2 * n))))).trans (KpS.of_mo (S := fun b => b = g6 ∨ b = g7) Mor.out) fun _ _ e => e
            · have DV := Lib.hid (divzero n s cp)
              have dp : decide (0 < n) = false := decide_eq_false cp
              go_wp2_with fail
              go_meet
              refine ⟨rfl, ?_, Kz⟩
              rw [TK.out, DV.out]
              exact B6z
          obtain ⟨rfl, BX, KX⟩ := hcut
          clear B6z B7z Kz hsg sb TK
          rename World => wX
          have hown : wX.ownsRow W.heap.size 117 5 u3 k (tauRow (taus M k)) := owns_kp OWS.out KX (fun g e => by
            have := hO6.out g e
            show ¬ (g = g6 ∨ g = g7)
            omega)
          have hMX : Mo W wX := KX.mo NS (fun b _ e => by omega)
          clear KX OWS hO6 NS
          go_wp2_with (at_builtin; refine wpList_append_own _ rfl _ _ 59 rfl W.heap.size 117 i0 (.agg (tauC ⟨0, 0, 0, 0⟩)) 5 40 Try.underlying59 hi0 hz0 hz1 hz2 rfl (by decide) _ _ _ rfl (owns_mo hown (Mor.out : Mo wX _)) _ 1 1 (tauL (tauN M k)) rfl rfl ?c1 ?c2 ?c3 ?c4 ?c5 ?_)
          try (case c1 => exact news_of_blk (cs := tauC (tauN M k)) (t := 117) (by infer_instance) _ rfl)
          case c2 => simp [Value.oneCell']
          case c3 => unfold maxLen; omega
          case c4 => omega
          case c5 =>
            first
              | exact Mo.size (hMX.trans Mor.out)
              | (have := hMX.size; first | omega | (simp; omega))
          intro v' w9 hown1 hgrow _
          have hM2 : Mo W w9 := by
            refine mo_grown ?_ hgrow (fun k e => (hown.lt k e).1)
            exact hMX.trans Mor.out
          have hown2 : w9.ownsRow W.heap.size 117 5 v' (k + 1) (tauRow (taus M (k + 1))) := by rw [taus_succ, tauRow_snoc]; exact hown1
          clear hown hown1 hgrow BX
          go_wp2_with fail
          go_roundw
          case rel => exact ⟨k + 1, by omega, by go_num, by rw [HS.out, show ((2 * q : Nat) : Int) = 2 * (q : Int) by omega], hown2, hM2⟩
          case measure => simp [intOf]; omega
    · have ek : k = o := by omega
      subst ek
      have d0 : decide ((k : Int) < k) = false := decide_eq_false (by omega)
      go_wp2_with fail
      rw [← RR.out]
      first
        | exact ⟨_, rfl, by rw [taus_len]; exact OW.out, hM⟩
        | (go_ret; exact ⟨_, rfl, by rw [taus_len]; exact OW.out, hM⟩)
end Go.Proofs.Ythgkhllkhhnlpaa
