/- server: addresses as keys; the map of the servers' numbers. -/
import Derived.Test.YthgkhllkhhnlpaaBlkS
import Derived.Maps.OwnSet
import Derived.Maps.Views
namespace Go.Proofs.Ythgkhllkhhnlpaa
open Go.RowKit Go.Maps

set_option maxRecDepth 20000 in
instance fl_addr : FlatT 35 17 := ⟨by kernel_rfl, by kernel_rfl, by kernel_rfl, by kernel_rfl, by kernel_rfl, by kernel_rfl⟩
abbrev AdrP (k : Array Value) : Prop := Fits (ksOf 35) k.toList
noncomputable def litA (k : Array Value) : Lit := (keyOf Try.prog 35 (.agg k)).getD (.bool false)
set_option maxRecDepth 20000 in
theorem litA_eq {k : Array Value} (h : AdrP k) : keyOf Try.prog 35 (.agg k) = some (litA k) := by
  obtain ⟨l, e⟩ := key_flat fl_addr h
  unfold litA
  rw [e]; rfl
set_option maxRecDepth 20000 in
theorem litA_inj {k k' : Array Value} (h : AdrP k) (h' : AdrP k') (e : litA k = litA k') : k = k' := by
  have h1 := litA_eq h
  have h2 := litA_eq h'
  rw [← e] at h2
  have := (law_flat fl_addr).inj h1 h2
  injection this
set_option maxRecDepth 20000 in
theorem litA_key {k : Array Value} (h : AdrP k) : WideAt.IsKeyLit (litA k) := (law_flat fl_addr).key (litA_eq h)
set_option maxRecDepth 20000 in
theorem under_num : Try.prog.underlying 80 = some (.map 35 3) := by kernel_rfl
set_option maxRecDepth 20000 in
theorem zero_numI (w : World) : (zeroValue 3).run Try.prog w = .ok (.int .i64 0) w := by rfl
def numR : Value → Option (DataW Unit × List MemPlace)
  | .int .i64 n => some (.lit (.int .i64 n), [])
  | _ => none
set_option maxRecDepth 20000 in
theorem numR_inv {v : Value} {n : Int} {ps : List MemPlace} (h : numR v = some (.lit (.int .i64 n), ps)) : v = .int .i64 n := by
  unfold numR at h
  split at h
  · simp only [Option.some.injEq, Prod.mk.injEq] at h
    have := h.1
    injection this with this
    injection this with _ this
    rw [this]
  · cases h
abbrev zdA : DataW Unit := .lit (.int .i64 0)
/-- the servers' numbers -/
def NumIs (W : World) (B : Nat) (L : List (Array Value)) : Prop :=
  ∃ D : DataW Unit, W.ownsMap Try.prog 35 numR B L.length D ∧ Tidy D ∧ size D = L.length ∧ (∀ (i : Nat) (k : Array Value), L[i]? = some k → D.atKey (litA k) zdA = .lit (.int .i64 (i : Int))) ∧ ∀ kl, has D kl = true ↔ ∃ k ∈ L, litA k = kl
set_option maxRecDepth 20000 in
theorem NumIs.keep {W w' : World} {B : Nat} {L : List (Array Value)} (h : NumIs W B L) (k : w'.heap[B]? = W.heap[B]?) : NumIs w' B L := by
  obtain ⟨D, ⟨es, clock, hb, F, hs, e⟩, r⟩ := h
  exact ⟨D, ⟨es, clock, k.trans hb, F, hs, e⟩, r⟩
set_option maxRecDepth 20000 in
theorem NumIs.made (w : World) : NumIs (w.alloc (.map #[] 0)) w.heap.size [] :=
  ⟨.map [], World.ownsMap_made w _ _ _, tidy_empty, rfl, fun i k hk => (by simp at hk), fun kl => (by simp [has])⟩
set_option maxRecDepth 20000 in
theorem NumIs.isMap {W : World} {B : Nat} {L : List (Array Value)} (h : NumIs W B L) : ∃ es clock, W.heap[B]? = some (.map es clock) := by
  obtain ⟨D, ⟨es, clock, hb, _⟩, _⟩ := h
  exact ⟨es, clock, hb⟩
set_option maxRecDepth 20000 in
theorem NumIs.lt {W : World} {B : Nat} {L : List (Array Value)} (h : NumIs W B L) : B < W.heap.size := by
  obtain ⟨es, clock, hb⟩ := h.isMap
  exact (Array.getElem?_eq_some_iff.1 hb).1
set_option maxRecDepth 20000 in
theorem NumIs.mo {W w : World} {B : Nat} {L : List (Array Value)} (h : NumIs W B L) (k : Mo W w) : NumIs w B L := h.keep (k.below.block B h.lt)
set_option maxRecDepth 20000 in
theorem NumIs.yes {W : World} {B : Nat} {L : List (Array Value)} (h : NumIs W B L) {i : Nat} {k : Array Value} (hq : L[i]? = some k) (he : AdrP k) :
    (Instr.lookup 80 (.map (some B)) (.agg k) true).run Try.prog W = .ok (.tuple #[.int .i64 (i : Nat), .bool true]) W := by
  obtain ⟨D, ho, ht, hs, ha, hh⟩ := h
  obtain ⟨v, ps, hrun, hv⟩ := ho.look_ok (law_flat fl_addr) under_num (zero_numI W) (zd := zdA) (zp := []) rfl (litA_eq he)
  rw [ha _ _ hq] at hv
  rw [numR_inv hv, (hh _).2 ⟨_, List.mem_of_getElem? hq, rfl⟩] at hrun
  exact hrun
set_option maxRecDepth 20000 in
theorem NumIs.no {W : World} {B : Nat} {L : List (Array Value)} (h : NumIs W B L) {k : Array Value} (hk : AdrP k) (ok : ∀ q ∈ L, AdrP q) (hn : k ∉ L) :
    (Instr.lookup 80 (.map (some B)) (.agg k) true).run Try.prog W = .ok (.tuple #[.int .i64 0, .bool false]) W := by
  obtain ⟨D, ho, ht, hs, ha, hh⟩ := h
  obtain ⟨v, ps, hrun, hv⟩ := ho.look_ok (law_flat fl_addr) under_num (zero_numI W) (zd := zdA) (zp := []) rfl (litA_eq hk)
  have hf : has D (litA k) = false := by
    rw [Bool.eq_false_iff]
    intro h
    obtain ⟨q, hq, e⟩ := (hh _).1 h
    exact hn (litA_inj (ok q hq) hk e ▸ hq)
  rw [atKey_of_not_has hf] at hv
  rw [hf, numR_inv hv] at hrun
  exact hrun
set_option maxRecDepth 20000 in
theorem ownsMap_tightA {W : World} {B n : Nat} {D : DataW Unit} (h : W.ownsMap Try.prog 35 numR B n D) : W.ownsMap Try.prog 35 numR B (size D) D := by
  obtain ⟨es, clock, hb, F, hs, rfl⟩ := h
  exact ⟨es, clock, hb, F, by simp [size, length_sorted], rfl⟩
set_option maxRecDepth 20000 in
theorem NumIs.put {W : World} {B : Nat} {L : List (Array Value)} {k : Array Value} (h : NumIs W B L) (hl : L.length < maxLen) (ok : ∀ q ∈ L, AdrP q) (he : AdrP k) (hn : k ∉ L) :
    ∃ w', (Instr.mapUpdate 80 (.map (some B)) (.agg k) (.int .i64 (L.length : Nat))).run Try.prog W = .ok () w' ∧ NumIs w' B (L ++ [k]) ∧ W.mapTurned w' B := by
  obtain ⟨D, ho, ht, hs, ha, hh⟩ := h
  obtain ⟨w', hrun, ho', hm⟩ := ho.store (law_flat fl_addr) under_num hl (litA_eq he) (val := .int .i64 (L.length : Nat)) (d := .lit (.int .i64 (L.length : Nat))) (ps := []) rfl
  refine ⟨w', hrun, ?_, hm⟩
  have hne : ∀ q ∈ L, litA q ≠ litA k := fun q hq e1 => hn (litA_inj (ok q hq) he e1 ▸ hq)
  have hf : has D (litA k) = false := by
    rw [Bool.eq_false_iff]
    intro h
    obtain ⟨q, hq, e1⟩ := (hh _).1 h
    exact hne q hq e1
  have hk := litA_key he
  refine ⟨D.put (litA k) (.lit (.int .i64 (L.length : Nat))), by rw [List.length_append]; exact ho', ht.put hk _, ?_, fun i q hq => ?_, fun kl => ?_⟩
  · rw [size_put ht, hf, hs, List.length_append]; rfl
  · by_cases c : i < L.length
    · rw [List.getElem?_append_left c] at hq
      rw [atKey_put_other (hne q (List.mem_of_getElem? hq))]
      exact ha i q hq
    · have hi := (List.getElem?_eq_some_iff.1 hq).1
      rw [List.length_append, List.length_singleton] at hi
      obtain rfl : i = L.length := by omega
      rw [List.getElem?_append_right (Nat.le_refl _), Nat.sub_self] at hq
      have e : k = q := by simpa using hq
      subst e
      exact atKey_put_same ht.isMap hk _ _
  · by_cases c : kl = litA k
    · subst c
      rw [has_put_same ht.isMap hk]
      exact ⟨fun _ => ⟨k, List.mem_append_right _ (List.mem_singleton.2 rfl), rfl⟩, fun _ => rfl⟩
    · rw [has_put_other c, hh]
      constructor
      · rintro ⟨q, hq, e1⟩; exact ⟨q, List.mem_append_left _ hq, e1⟩
      · rintro ⟨q, hq, e1⟩
        rcases List.mem_append.1 hq with h | h
        · exact ⟨q, h, e1⟩
        · rw [List.mem_singleton] at h
          subst h
          exact absurd e1.symm c
end Go.Proofs.Ythgkhllkhhnlpaa
