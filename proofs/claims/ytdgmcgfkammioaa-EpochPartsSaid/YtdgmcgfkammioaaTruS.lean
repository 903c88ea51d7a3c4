/- law33: the library's Sort, Clone and BinarySearch at int64 and int, over rows that a call owns; truth.sorted. -/
import Derived.Test.YtdgmcgfkammioaaShel
import Derived.Test.YtdgmcgfkammioaaTruC
import Derived.Sort.OwnSortedInts
import Derived.Lib.OwnBridge
namespace Go.Proofs.Ytdgmcgfkammioaa
open Go.RowKit Go.Sort

def sortL (xs : List Int) : List Int := xs.mergeSort fun x y => decide (x ≤ y)
def i64L (xs : List Int) : List Value := xs.map (Value.int .i64)
set_option maxRecDepth 20000 in
theorem sortL_length (xs : List Int) : (sortL xs).length = xs.length := (List.mergeSort_perm _ _).length_eq
set_option maxRecDepth 20000 in
theorem i64L_length (xs : List Int) : (i64L xs).length = xs.length := by unfold i64L; simp
set_option maxRecDepth 20000 in
theorem i64L_one (xs : List Int) : ∀ u ∈ i64L xs, u.oneCell' = true := by
  intro u hu
  unfold i64L at hu
  obtain ⟨x, _, rfl⟩ := List.mem_map.1 hu
  rfl
set_option maxRecDepth 20000 in
/-- a row that a call owns, sorted in place -/
theorem sort_own (f : Nat) (T : TypeId) (hS : ∀ (blk off cap : Nat) (zs : List Int) (w : World), Holds (Value.int .i64) w blk off zs.toArray → blk < w.heap.size → zs.length < 4611686018427387904 →
      Calls Try.prog f #[.slice (some ⟨blk, off, none⟩) zs.length cap] w fun e w' => e = .returned (.tuple #[]) ∧ ∃ n os, w' = grow (putRow (Value.int .i64) (Sort.ahead w n) blk off (zs.mergeSort fun x y => decide (x ≤ y)).toArray) os)
    (base g cap : Nat) (zs : List Int) (W : World) (h : W.ownsRow base T 1 (.slice (some ⟨g, 0, none⟩) zs.length cap) zs.length (i64L zs)) (hl : zs.length ≤ 65536) :
    Calls Try.prog f #[.slice (some ⟨g, 0, none⟩) zs.length cap] W fun e w' => e = .returned (.tuple #[]) ∧ w'.ownsRow base T 1 (.slice (some ⟨g, 0, none⟩) zs.length cap) zs.length (i64L (sortL zs)) ∧ W.grownBy w' (some g) := by
  rcases h.2 with ⟨e0, _⟩ | ⟨g', cap', cur, e0, hb, hg, hn, hm, hs, ht⟩
  · cases e0
  · injection e0 with e1 _ e3
    injection e1 with e1
    injection e1 with e1
    subst e1 e3
    rw [Nat.mul_one] at ht
    refine (hS g 0 cap zs W (holds_of_blockI hg ht) (Array.getElem?_eq_some_iff.1 hg).1 (by omega)).mono ?_
    rintro e w' ⟨he, n, os, rfl⟩
    exact ⟨he, ownsRow_sortedI (sortL_length zs) hb hg hn hm hs, grownBy_sortedI _⟩
set_option maxRecDepth 20000 in
theorem sort64_own (base g cap : Nat) (zs : List Int) (W : World) (h : W.ownsRow base 2 1 (.slice (some ⟨g, 0, none⟩) zs.length cap) zs.length (i64L zs)) (hl : zs.length ≤ 65536) :
    Calls Try.prog 92 #[.slice (some ⟨g, 0, none⟩) zs.length cap] W fun e w' => e = .returned (.tuple #[]) ∧ w'.ownsRow base 2 1 (.slice (some ⟨g, 0, none⟩) zs.length cap) zs.length (i64L (sortL zs)) ∧ W.grownBy w' (some g) :=
  sort_own _ _ (fun blk off cap zs w h1 h2 h3 => AnyM.slices_Sort_int sort64 blk off cap zs w h1 h2 h3) base g cap zs W h hl
set_option maxRecDepth 20000 in
theorem sortInt_own (base g cap : Nat) (zs : List Int) (W : World) (h : W.ownsRow base 3 1 (.slice (some ⟨g, 0, none⟩) zs.length cap) zs.length (i64L zs)) (hl : zs.length ≤ 65536) :
    Calls Try.prog 58 #[.slice (some ⟨g, 0, none⟩) zs.length cap] W fun e w' => e = .returned (.tuple #[]) ∧ w'.ownsRow base 3 1 (.slice (some ⟨g, 0, none⟩) zs.length cap) zs.length (i64L (sortL zs)) ∧ W.grownBy w' (some g) :=
  sort_own _ _ (fun blk off cap zs w h1 h2 h3 => AnyM.slices_Sort_int sortInt blk off cap zs w h1 h2 h3) base g cap zs W h hl
set_option maxRecDepth 20000 in
theorem info64 : (Try.prog.info? 2).map (fun i => (i.zero, i.size, i.bytes)) = some (some (.int .i64 0), 1, 8) := by kernel_rfl
set_option maxRecDepth 20000 in
theorem size64 (w : World) : (Go.sizeOf 2).run Try.prog w = .ok 1 w := rfl
set_option maxRecDepth 20000 in
theorem clone64_any (b n c : Nat) (xs : List Int) (W : World) (hn : xs.length = n) (h0 : n ≤ 65536) (hc : ∀ (j : Nat) u, (i64L xs)[j]? = some u → W.cell? ⟨b, 0 + j, none⟩ = some u) :
    Calls Try.prog 91 #[.slice (some ⟨b, 0, none⟩) n c] W fun e w' => ∃ g cap, e = .returned (.slice (some ⟨g, 0, none⟩) n cap) ∧ w'.ownsRow W.heap.size 2 1 (.slice (some ⟨g, 0, none⟩) n cap) n (i64L xs) ∧ W.heap.size ≤ g ∧ Mo W w' := by
  obtain ⟨i0, hi0, hz0, hz1, hz2⟩ := info_parts info64
  refine (AnyE.slices_Clone clone64 i0 (.int .i64 0) 1 8 hi0 hz0 hz1 hz2 rfl (by decide) size64 b 0 n c (i64L xs) W (by rw [i64L_length, hn, Nat.mul_one]) (by unfold maxLen; omega) (by omega) hc (i64L_one xs)).mono ?_
  rintro e w' ⟨v', rfl, h1, h2, h3⟩
  rcases h1.2 with ⟨e0, _⟩ | ⟨g, cap, cur, rfl, hb, _⟩
  · exact absurd e0 h2
  · exact ⟨g, cap, rfl, h1, hb, Mo.of h3⟩
set_option maxRecDepth 20000 in
theorem own_cell64 {w : World} {base g n cap : Nat} {T : TypeId} {xs : List Int} (h : w.ownsRow base T 1 (.slice (some ⟨g, 0, none⟩) n cap) n (i64L xs)) : ∀ (j : Nat) u, (i64L xs)[j]? = some u → w.cell? ⟨g, 0 + j, none⟩ = some u := by
  rcases h.2 with ⟨e0, _⟩ | ⟨g', cap', cur, e0, hb, hg, hn, hm, hs, ht⟩
  · cases e0
  · injection e0 with e1 _ e3
    injection e1 with e1
    injection e1 with e1
    subst e1 e3
    intro j u hj
    rw [Nat.zero_add, blk_cell (⟨hg⟩ : Blk w g T cur), ← Array.getElem?_toList]
    rw [← ht] at hj
    rw [← hj, List.getElem?_take_of_lt]
    have := (List.getElem?_eq_some_iff.1 hj).1
    rw [List.length_take] at this
    omega
set_option maxRecDepth 20000 in
theorem search64_any (g n c : Nat) (L : List Int) (x : Int) (W : World) (hn : L.length = n) (h0 : n ≤ 65536) (hc : ∀ j, j < L.length → W.cell? ⟨g, 0 + j, none⟩ = some (.int .i64 (L.getD j 0))) (hs : L.Pairwise (· ≤ ·)) :
    Calls Try.prog 78 #[.slice (some ⟨g, 0, none⟩) n c, .int .i64 x] W fun e w' => (∃ b, e = .returned (.tuple #[.int .i64 (L.countP (fun y => decide (y < x)) : Nat), .bool b])) ∧ ∃ q, w' = W.drewN q := by
  have tk : L.take n = L := List.take_of_length_le (by omega)
  have h := AnyG.slices_BinarySearch_int search64 g 0 n c L x W (by omega) (by omega) hc (by rw [tk]; exact hs)
  rw [tk] at h
  exact h.mono fun e w' k => ⟨⟨_, k.1⟩, k.2⟩
set_option maxRecDepth 20000 in
set_option maxHeartbeats 4000000 in
theorem sorted_any (base g n cap : Nat) (xs : List Int) (W : World) (hn : xs.length = n) (h0 : n ≤ 65536) (h : W.ownsRow base 2 1 (.slice (some ⟨g, 0, none⟩) n cap) n (i64L xs)) :
    Calls Try.prog 76 #[.slice (some ⟨g, 0, none⟩) n cap] W fun e w' => ∃ g' cap', e = .returned (.slice (some ⟨g', 0, none⟩) n cap') ∧ w'.ownsRow W.heap.size 2 1 (.slice (some ⟨g', 0, none⟩) n cap') n (i64L (sortL xs)) ∧ W.heap.size ≤ g' ∧ Mo W w' := by
  have HC := Lib.hid (own_cell64 h)
  subst hn
  go_enter Try.func76, Try.ntmps76
  go_wp2_with fail
  refine (clone64_any g xs.length cap xs _ rfl h0 HC.out).mono ?_
  rintro e w1 ⟨g1, c1, rfl, O1, hg1, M1⟩
  go_wp2_with fail
  refine (sort64_own _ g1 c1 xs _ O1 h0).mono ?_
  rintro e w2 ⟨rfl, O2, G2⟩
  go_wp2_with fail
  go_ret
  exact ⟨g1, c1, rfl, O2, hg1, mo_grown M1 G2 (fun k e => by injection e with e; omega)⟩
end Go.Proofs.Ytdgmcgfkammioaa
