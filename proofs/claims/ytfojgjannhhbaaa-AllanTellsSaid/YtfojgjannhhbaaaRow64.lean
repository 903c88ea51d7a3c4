/- Rows of int64 that a call owns; two rows in one world; what a call that writes into some blocks keeps. -/
import Derived.Test.YtfojgjannhhbaaaKpS
import Derived.Maps.AppendAt
namespace Go.Proofs.Ytfojgjannhhbaaa
open Go.RowKit

def i64L (xs : List Int) : List Value := xs.map (Value.int .i64)
set_option maxRecDepth 20000 in
theorem i64L_length (xs : List Int) : (i64L xs).length = xs.length := by unfold i64L; simp
set_option maxRecDepth 20000 in
theorem i64L_one (xs : List Int) : ∀ u ∈ i64L xs, u.oneCell' = true := by
  intro u hu
  unfold i64L at hu
  obtain ⟨x, _, rfl⟩ := List.mem_map.1 hu
  rfl
set_option maxRecDepth 20000 in
theorem i64L_snoc (xs : List Int) (x : Int) : i64L (xs ++ [x]) = i64L xs ++ [.int .i64 x] := by unfold i64L; rw [List.map_append]; rfl
set_option maxRecDepth 20000 in
theorem i64_get {L : List Int} {i : Nat} (h : i < L.length) : (i64L L)[i]? = some (.int .i64 L[i]) := by
  unfold i64L
  rw [List.getElem?_map, List.getElem?_eq_getElem h]
  rfl
set_option maxRecDepth 20000 in
/-- a row of int64, where it lies and what its block holds -/
theorem row_at {w : World} {base n : Nat} {T : TypeId} {v : Value} {xs : List Int} (h : w.ownsRow base T 1 v n (i64L xs)) (h0 : 0 < n) : ∃ g c cur, v = .slice (some ⟨g, 0, none⟩) n c ∧ base ≤ g ∧ Blk w g T cur ∧ n ≤ c ∧ (∀ j (hj : j < xs.length), cur[j]? = some (.int .i64 xs[j])) := by
  rcases h.2 with ⟨_, e0⟩ | ⟨g, cap, cur, rfl, hb, hg, hn, hm, hs, ht⟩
  · omega
  · refine ⟨g, cap, cur, rfl, hb, ⟨hg⟩, hn, fun j hj => ?_⟩
    have h1 := h.1
    rw [i64L_length] at h1
    have e := i64_get hj
    rw [← ht, List.getElem?_take_of_lt (by omega), Array.getElem?_toList] at e
    exact e
set_option maxRecDepth 20000 in
theorem row_sl {w : World} {base n : Nat} {T : TypeId} {v : Value} {sz : Nat} {xs : List Value} (h : w.ownsRow base T sz v n xs) : ∃ A c, v = .slice A n c := by
  rcases h.2 with ⟨rfl, rfl⟩ | ⟨g, cap, cur, rfl, _⟩
  · exact ⟨_, _, rfl⟩
  · exact ⟨_, _, rfl⟩
set_option maxRecDepth 20000 in
theorem row_some {w : World} {base : Nat} {e : TypeId} {sz n : Nat} {v : Value} {xs : List Value} (h : w.ownsRow base e sz v (n + 1) xs) : ∃ g c, v = .slice (some ⟨g, 0, none⟩) (n + 1) c := by
  rcases h.2 with ⟨_, e0⟩ | ⟨g, cap, cur, e0, _⟩
  · omega
  · exact ⟨g, cap, e0⟩
/-- no two rows in one block -/
def Sep (v u : Value) : Prop := ∀ k, v.ownBlock = some k → u.ownBlock ≠ some k
set_option maxRecDepth 20000 in
theorem Sep.symm {v u : Value} (h : Sep v u) : Sep u v := fun k a b => h k b a
set_option maxRecDepth 20000 in
theorem sep_new {v v' u : Value} {k0 : Nat} (s : Sep v u) (h : v'.ownBlock = v.ownBlock ∨ v'.ownBlock = some k0) (hu : ∀ k, u.ownBlock = some k → k < k0) : Sep v' u := by
  intro k hk q
  rcases h with h | h
  · exact s k (by rw [← h]; exact hk) q
  · have := hu k q
    rw [h] at hk
    injection hk with hk
    omega
set_option maxRecDepth 20000 in
theorem owns_row {w w' : World} {base e sz n : Nat} {row : Option Nat} {u : Value} {xs : List Value} (h : w.ownsRow base e sz u n xs) (g : w.grownBy w' row) (s : ∀ k, u.ownBlock = some k → row ≠ some k) : w'.ownsRow base e sz u n xs := by
  refine ⟨h.1, ?_⟩
  rcases h.2 with q | ⟨g', cap, cur, rfl, hb, hg, rest⟩
  · exact .inl q
  · exact .inr ⟨g', cap, cur, rfl, hb, (g.block g' (Array.getElem?_eq_some_iff.1 hg).1 (fun e => s g' rfl e.symm)).trans hg, rest⟩
set_option maxRecDepth 20000 in
theorem blk_grownR {w w' : World} {base e sz n k : Nat} {t : TypeId} {v : Value} {xs : List Value} {cs : Array Value} (h : Blk w k t cs) (o : w.ownsRow base e sz v n xs) (g : w.grownBy w' v.ownBlock) (ne : t ≠ e) : Blk w' k t cs := by
  refine ⟨(g.block k h.lt fun q => ?_).trans h.out⟩
  rcases o.2 with ⟨e0, _⟩ | ⟨g', cap, cur, e0, _, hg, _⟩
  · rw [e0] at q; simp [Value.ownBlock] at q
  · rw [e0] at q
    obtain rfl : k = g' := by simpa [Value.ownBlock] using q
    have := h.out.symm.trans hg
    simp at this
    exact ne this.2
set_option maxRecDepth 20000 in
theorem owns_cellT {w : World} {b s n R : Nat} {e t : TypeId} {v : Value} {xs : List Value} {cs : Array Value} (h : w.ownsRow b e s v n xs) (k : Blk w R t cs) (ne : t ≠ e) (i : Nat) (u : Value) : (w.setCell ⟨R, i, none⟩ u).ownsRow b e s v n xs := by
  refine ⟨h.1, ?_⟩
  rcases h.2 with q | ⟨g, cap, cur, rfl, hb, hg, rest⟩
  · exact .inl q
  · refine .inr ⟨g, cap, cur, rfl, hb, (heap_setCell_other w ⟨R, i, none⟩ g u (fun e => ?_)).trans hg, rest⟩
    obtain rfl : g = R := e
    have := k.out.symm.trans hg
    simp at this
    exact ne this.2
set_option maxRecDepth 20000 in
/-- a store into a row -/
theorem owns_cellS {w : World} {b g n c : Nat} {t : TypeId} {xs : List Int} (h : w.ownsRow b t 1 (.slice (some ⟨g, 0, none⟩) n c) n (i64L xs)) (i : Nat) (x : Int) : (w.setCell ⟨g, i, none⟩ (.int .i64 x)).ownsRow b t 1 (.slice (some ⟨g, 0, none⟩) n c) n (i64L (xs.set i x)) := by
  refine ⟨by rw [i64L_length, List.length_set, ← i64L_length]; exact h.1, ?_⟩
  rcases h.2 with ⟨e, _⟩ | ⟨g', cap, cur, e, hb, hg, h3, h4, h5, h6⟩
  · cases e
  · injection e with e1 e2 e3
    injection e1 with e1
    injection e1 with e1
    subst e1 e3
    refine .inr ⟨g, c, cur.setIfInBounds i (.int .i64 x), rfl, hb, heap_setCell_same w g i cur t _ hg, h3, h4, by rw [Array.size_setIfInBounds]; exact h5, ?_⟩
    rw [Array.toList_setIfInBounds, List.take_set, h6]
    unfold i64L
    rw [List.map_set]
set_option maxRecDepth 20000 in
theorem owns_cellN {w : World} {b s n R : Nat} {e : TypeId} {v : Value} {xs : List Value} (h : w.ownsRow b e s v n xs) (ne : v.ownBlock ≠ some R) (i : Nat) (u : Value) : (w.setCell ⟨R, i, none⟩ u).ownsRow b e s v n xs := by
  refine ⟨h.1, ?_⟩
  rcases h.2 with q | ⟨g, cap, cur, rfl, hb, hg, rest⟩
  · exact .inl q
  · exact .inr ⟨g, cap, cur, rfl, hb, (heap_setCell_other w ⟨R, i, none⟩ g u (fun e => ne (by rw [show R = g from e.symm]; rfl))).trans hg, rest⟩
set_option maxRecDepth 20000 in
theorem KpS.grown {S : Nat → Prop} {a b b' : World} {row : Option Nat} (h : KpS S a b) (g : b.grownBy b' row) (s : ∀ k, row = some k → a.heap.size ≤ k ∨ S k) : KpS S a b' :=
  ⟨g.os.trans h.os, g.tape.trans h.tape, g.output.trans h.output, Nat.le_trans h.size g.size, fun k hk n => (g.block k (Nat.lt_of_lt_of_le hk h.size) fun e => by
    rcases s k e.symm with q | q
    · omega
    · exact n q).trans (h.block k hk n)⟩
set_option maxRecDepth 20000 in
theorem info64R : (Try.prog.info? 2).map (fun i => (i.zero, i.size, i.bytes)) = some (some (.int .i64 0), 1, 8) := by kernel_rfl
set_option maxRecDepth 20000 in
theorem newsR {w : World} {g : Nat} {t : TypeId} {cs : Array Value} (h : Blk w g t cs) (l : List Value) (hl : l = cs.toList) : ∀ j u, l[j]? = some u → w.cell? ((⟨g, 0, none⟩ : Addr).add j) = some u := by
  intro j u hj
  have e : (⟨g, 0, none⟩ : Addr).add j = ⟨g, j, none⟩ := by rw [Addr.add_mid, Nat.zero_add]
  rw [e, blk_cell h, ← Array.getElem?_toList, ← hl]
  exact hj
end Go.Proofs.Ytfojgjannhhbaaa
