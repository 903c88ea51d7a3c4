/- epoch: slices.Sorted(maps.Keys(m)) and maps.Clone over the best samples. -/
import Derived.Test.YtdgmcgfkammioaaShel
import Derived.Test.YtdgmcgfkammioaaEpM
namespace Go.Proofs.Ytdgmcgfkammioaa
open Go.RowKit Go.Maps Go.Sort

set_option maxRecDepth 20000 in
theorem keysS_any (mb : Option Nat) (w : World) :
    Calls Try.prog 38 #[.map mb] w fun e w' => e = .returned (.func (.func 59) #[] #[.pointer (some ⟨w.heap.size, 0, none⟩)]) ∧ w' = w.alloc (.cells #[.map mb] 52) :=
  (callsIn_wide (n := 5)).1 (AnyZI.keys_in keysS Fence.wide 5 trivial rfl mb w)
set_option maxRecDepth 20000 in
theorem sortsS (m : Nat) : AnyZI.SortsIn Try.prog sortedS_ren Fence.wide m :=
  ⟨fun blk off cap ss W hH hblk hsz => callsIn_wide.2 (AnyM.slices_Sort_int sortInt blk off cap ss W hH hblk hsz),
   fun p cap W => callsIn_wide.2 (AnyM.slices_Sort_int_none sortInt p cap W)⟩
set_option maxRecDepth 20000 in
set_option maxHeartbeats 4000000 in
theorem sortedS_any (W : World) (g B sv : Nat) (f : BestF) (hs : sv ≤ 65536) (hb : W.cell? ⟨g, 0, none⟩ = some (.map (some B))) (h : BestIs W B sv f) :
    Calls Try.prog 37 #[.func (.func 59) #[] #[.pointer (some ⟨g, 0, none⟩)]] W fun e w' => ∃ v, e = .returned v ∧ w'.ownsRow W.heap.size 3 1 v (keysB sv f).length (i64L (natI (keysB sv f))) ∧ Mo W w' := by
  obtain ⟨D, ho, pm, sz⟩ := h.keys
  have kl := keysB_len sv f
  have hseq : SeqGives Fence.wide 2 Try.prog 59 #[.pointer (some ⟨g, 0, none⟩)] encZ (fun ss => ss.Perm (intKeys D)) (size D) W :=
    AnyZI.keys_gives (ρ := keysS_ren) { keysS with } Fence.wide _ trivial rfl (by omega) g B _ D _ (LtW.of_cell hb).out hb ho
  have cS := AnyZI.sorted_in sortedS Fence.wide 5 trivial trivial trivial trivial rfl (by omega) (sortsS _) (enters_of Try.func58 (by kernel_rfl) rfl) 59 #[.pointer (some ⟨g, 0, none⟩)] trivial (enters_of Try.func59 (by kernel_rfl) rfl) _ _ (by unfold maxLen; omega) (by omega) _ hseq
  change CallsIn _ _ Try.prog 37 _ _ _ at cS
  refine ((callsIn_wide (n := 5)).1 cS).mono ?_
  rintro e w' ⟨v, ss, rfl, hS, hrow, -, hB⟩
  have e1 : ss.mergeSort (fun x y => decide (x ≤ y)) = natI (keysB sv f) := by
    have t : ∀ a b c : Int, decide (a ≤ b) = true → decide (b ≤ c) = true → decide (a ≤ c) = true := fun a b c h k => by simp at h k ⊢; omega
    have tot : ∀ a b : Int, (decide (a ≤ b) || decide (b ≤ a)) = true := fun a b => by simp; omega
    refine sorted_uniq ((List.mergeSort_perm _ _).trans (hS.trans pm)) ?_ ?_
    · exact (List.pairwise_mergeSort t tot ss).imp fun h => by simpa using h
    · unfold natI
      rw [List.pairwise_map]
      exact (keysB_sorted sv f).imp fun h => by omega
  have e2 : ss.length = (keysB sv f).length := by
    have := (hS.trans pm).length_eq
    rwa [List.length_map] at this
  rw [e1, e2] at hrow
  exact ⟨v, rfl, hrow, Mo.of hB⟩
set_option maxRecDepth 20000 in
theorem cloneS_any (W : World) (B sv : Nat) (f : BestF) (h : BestIs W B sv f) :
    Calls Try.prog 29 #[.map (some B)] W fun e w' => ∃ B', e = .returned (.map (some B')) ∧ W.heap.size ≤ B' ∧ BestIs w' B' sv f ∧ Mo W w' := by
  obtain ⟨es, clock, hb⟩ := h.isMap
  refine (AnyW.maps_Clone cloneS B es clock W hb).mono ?_
  rintro e w' ⟨rfl, rfl⟩
  refine ⟨_, rfl, Nat.le_refl _, ?_, Mor.out⟩
  obtain ⟨D, ⟨es', clock', hb', F, hs, e⟩, r⟩ := h
  rw [hb] at hb'
  injection hb' with hb'
  injection hb' with h1 h2
  subst h1 h2
  exact ⟨D, ⟨es, clock, (Go.MapKept.heap_alloc W _).1, F, hs, e⟩, r⟩
end Go.Proofs.Ytdgmcgfkammioaa
