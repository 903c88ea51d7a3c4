/- slices.Concat of two slices of bytes. -/
import Derived.Test.YtofbhkodnijkjaaHeadB
import Derived.Lib.AppendZerosOnto
namespace Go.Proofs.Ytofbhkodnijkjaa
open Go.RowKit

attribute [local go_sem] blk_cell' blk_frozen'
set_option maxRecDepth 20000 in
set_option maxHeartbeats 4000000 in
theorem growB_any (n : Nat) (W : World) (hn : n ≤ 5000000) :
    Calls Try.prog 41 #[.slice none 0 0, .int .i64 (n : Int)] W fun e w' => ∃ v, e = .returned v ∧ w'.ownsRow W.heap.size 5 1 v 0 [] ∧ Mo W w' := by
  rcases Nat.eq_zero_or_pos n with h0 | h0
  · subst h0
    go_enter Try.func41, Try.ntmps41
    go_wp2_with fail
    go_ret
    exact ⟨_, rfl, World.ownsRow_nil _ _ _ _, Mor.out⟩
  · obtain ⟨i0, hi, hz0, hz1, hz2⟩ := info_parts infoB
    have hrz : ∀ ty, (Builtin.append_ #[31, 3] ty #[.slice none 0 0, .int .i64 (n : Int)]).run Try.prog W =
        .ok (.slice (some ⟨W.heap.size, 0, none⟩) n (grownCap W n 0 5)) (W.drew.alloc (.cells ((#[] : Array Value) ++ Builtin.zeroCells (Value.int .u8 0).cells n ++ Builtin.zeroCells (Value.int .u8 0).cells (grownCap W n 0 5 - n)) 5)) := fun ty => by
      have h := Lib.run_append_grow_zeros W 31 3 ty 5 i0 (.int .u8 0) .i64 .i64 Try.underlying31 Try.underlying3 hi hz0 none 0 0 [] (run_firstCells_none W.drew i0.size 0 0 0) n (by omega) (by rw [hz1]; decide) (by omega) (by omega)
        (by rw [hz2]; omega) (by rw [Nat.zero_add]; exact growslice_fits h0 (by rw [hz2]; omega))
      simpa using h
    have hGn : n ≤ grownCap W n 0 5 := grownCap_ge W _ _ _
    obtain ⟨G, hG⟩ : ∃ G, G = grownCap W n 0 5 := ⟨_, rfl⟩
    rw [← hG] at hrz hGn
    have hG63 : G ≤ 9223372036854775807 := by
      have := grownCap_le_maxLen W n 0 5 (by unfold maxLen; omega)
      rw [← hG] at this
      unfold maxLen at this
      omega
    clear hG hi hz0 hz1 hz2
    have i1 : (0 : Int) < n := by omega
    go_enter Try.func41, Try.ntmps41
    go_wp2_with (at_builtin; refine Lib.wpList_append_run _ rfl _ _ _ _ rfl _ _ rfl rfl _ _ (hrz _) ?_)
    all_goals
      go_ret
      refine ⟨_, rfl, ⟨rfl, .inr ⟨W.heap.size, G, _, rfl, Nat.le_refl _, heap_alloc_new W.drew _, Nat.zero_le _, by unfold maxLen; omega, ?_, rfl⟩⟩, Mor.out⟩
      simp [Builtin.zeroCells]
      omega
set_option maxRecDepth 20000 in
set_option maxHeartbeats 4000000 in
theorem concatB_any (g n1 n2 c1 c2 : Nat) (A1 A2 : Option Addr) (b1 b2 : List Int) (W : World) (hB : Blk W g 31 #[.slice A1 n1 c1, .slice A2 n2 c2]) (e1 : b1.length = n1) (e2 : b2.length = n2) (h1 : ByteS W A1 c1 b1) (h2 : ByteS W A2 c2 b2) (hn : n1 + n2 ≤ 5000000) :
    Calls Try.prog 28 #[.slice (some ⟨g, 0, none⟩) 2 2] W fun e w' => ∃ v, e = .returned v ∧ ByteV w' v (b1 ++ b2) ∧ Mo W w' := by
  have E1 := Lib.hid e1
  have E2 := Lib.hid e2
  have H1 := Lib.hid h1
  have H2 := Lib.hid h2
  clear e1 e2 h1 h2
  go_enter Try.func28, Try.ntmps28
  go_wp2_with fail
  refine wp_loop_rounds 3 ?_
  rw [rounds_succ]
  go_wp2_with fail
  rw [rounds_succ]
  go_wp2_with fail
  rw [rounds_succ]
  go_wp2_with fail
  refine (growB_any (n1 + n2) _ hn).mono ?_
  rintro e w1 ⟨v1, rfl, O1, M1⟩
  have B1 := M1.blk hB
  go_wp2_with fail
  refine wp_loop_rounds 3 ?_
  rw [rounds_succ]
  have HO1 := Lib.hid O1
  clear O1
  go_wp2_with (at_builtin; refine wpList_append_bytes rfl _ _ rfl W.heap.size _ _ _ rfl HO1.out _ _ _ _ E1.out rfl (H1.out.mo M1) ?c1 M1.size ?_)
  case c1 => omega
  intro v2 w2 O2 G2
  have M2 : Mo W w2 := mo_grown M1 G2 (fun j e => (HO1.out.lt j e).1)
  have B2 := M2.blk hB
  have HO2 := Lib.hid O2
  clear G2 O2 B1
  go_wp2_with fail
  rw [rounds_succ]
  go_wp2_with (at_builtin; refine wpList_append_bytes rfl _ _ rfl W.heap.size _ _ _ rfl HO2.out _ _ _ _ E2.out rfl (H2.out.mo M2) ?c2 M2.size ?_)
  case c2 => omega
  intro v3 w3 O3 G3
  have M3 : Mo W w3 := mo_grown M2 G3 (fun j e => (HO2.out.lt j e).1)
  have B3 := M3.blk hB
  have HO3 := Lib.hid O3
  clear G3 O3 B2
  go_wp2_with fail
  rw [rounds_succ]
  go_wp2_with fail
  go_ret
  refine ⟨_, rfl, owns_byteS (by have := HO3.out; unfold byteL at this ⊢; rw [List.map_append]; simpa using this) (by omega) ?_, M3⟩
  intro c hc
  rcases List.mem_append.1 hc with h | h
  · exact H1.out.byte c h
  · exact H2.out.byte c h
end Go.Proofs.Ytofbhkodnijkjaa
