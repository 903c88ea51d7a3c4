/- epoch: the map of the best samples: how it lies. -/
import Derived.Test.YtdgmcgfkammioaaEpP
import Derived.Test.YtdgmcgfkammioaaKpS
import Derived.Maps.OwnSet
import Derived.Maps.Views
import Derived.Lib.SlKeysI
namespace Go.Proofs.Ytdgmcgfkammioaa
open Go.RowKit Go.Maps

def smR : Value → Option (DataW Unit × List MemPlace)
  | .agg a => match a.toList with
    | [.int .i64 o, .int .i64 d] => some (.agg [.lit (.int .i64 o), .lit (.int .i64 d)], [])
    | _ => none
  | _ => none
abbrev smD (x : Int × Int) : DataW Unit := .agg [.lit (.int .i64 x.1), .lit (.int .i64 x.2)]
abbrev smV (x : Int × Int) : Value := .agg #[.int .i64 x.1, .int .i64 x.2]
set_option maxRecDepth 20000 in
theorem smR_mk (x : Int × Int) : smR (smV x) = some (smD x, []) := rfl
set_option maxRecDepth 20000 in
theorem smR_inv {v : Value} {x : Int × Int} {ps : List MemPlace} (h : smR v = some (smD x, ps)) : v = smV x := by
  unfold smR at h
  split at h
  · rename_i a
    split at h
    · rename_i o d e
      simp only [Option.some.injEq, Prod.mk.injEq, smD] at h
      have h1 := h.1
      injection h1 with h1
      injection h1 with h1 h2
      injection h2 with h2 _
      injection h1 with h1
      injection h2 with h2
      injection h1 with _ h1
      injection h2 with _ h2
      show Value.agg a = .agg #[.int .i64 x.1, .int .i64 x.2]
      rw [← h1, ← h2]
      congr 1
      exact Array.toList_inj.1 e
    · cases h
  · cases h
set_option maxRecDepth 20000 in
theorem under_best : Try.prog.underlying 52 = some (.map 3 75) := by kernel_rfl
set_option maxRecDepth 20000 in
theorem zero_best (w : World) : (zeroValue 75).run Try.prog w = .ok (smV (0, 0)) w := by rfl
set_option maxRecDepth 20000 in
theorem key_best (s : Nat) (h : s ≤ 65536) : keyOf Try.prog 3 (.int .i64 s) = some (.int .i64 (s : Int)) := keyOf_int_mk Try.underlying3 (by
  simp [Lit.wf, IntKind.min, IntKind.max, IntKind.signed, IntKind.bits]
  omega)
set_option maxRecDepth 20000 in
theorem keyed_best : Keyed Try.prog 3 := int_keyed Try.underlying3
set_option maxRecDepth 20000 in
theorem lit_best (s : Nat) (h : s ≤ 65536) : WideAt.IsKeyLit (.int .i64 (s : Int)) := keyed_best.key (key_best s h)
/-- the map in block B holds just the best samples f, of servers below sv -/
def BestIs (W : World) (B sv : Nat) (f : BestF) : Prop :=
  ∃ D : DataW Unit, W.ownsMap Try.prog 3 smR B (size D) D ∧ Tidy D ∧ (∀ s x, f s = some x → D.atKey (.int .i64 (s : Int)) (smD (0, 0)) = smD x) ∧ (∀ kl, has D kl = true ↔ ∃ s, (f s).isSome = true ∧ kl = .int .i64 (s : Int)) ∧ ∀ s, (f s).isSome = true → s < sv
set_option maxRecDepth 20000 in
theorem ownsMap_tightB {W : World} {B n : Nat} {D : DataW Unit} (h : W.ownsMap Try.prog 3 smR B n D) : W.ownsMap Try.prog 3 smR B (size D) D := by
  obtain ⟨es, clock, hb, F, hs, rfl⟩ := h
  exact ⟨es, clock, hb, F, by simp [size, length_sorted], rfl⟩
set_option maxRecDepth 20000 in
theorem BestIs.keep {W w' : World} {B sv : Nat} {f : BestF} (h : BestIs W B sv f) (k : w'.heap[B]? = W.heap[B]?) : BestIs w' B sv f := by
  obtain ⟨D, ⟨es, clock, hb, F, hs, e⟩, r⟩ := h
  exact ⟨D, ⟨es, clock, k.trans hb, F, hs, e⟩, r⟩
set_option maxRecDepth 20000 in
theorem BestIs.isMap {W : World} {B sv : Nat} {f : BestF} (h : BestIs W B sv f) : ∃ es clock, W.heap[B]? = some (.map es clock) := by
  obtain ⟨D, ⟨es, clock, hb, _⟩, _⟩ := h
  exact ⟨es, clock, hb⟩
set_option maxRecDepth 20000 in
theorem BestIs.lt {W : World} {B sv : Nat} {f : BestF} (h : BestIs W B sv f) : B < W.heap.size := by
  obtain ⟨es, clock, hb⟩ := h.isMap
  exact (Array.getElem?_eq_some_iff.1 hb).1
set_option maxRecDepth 20000 in
theorem BestIs.made (w : World) (sv : Nat) : BestIs (w.alloc (.map #[] 0)) w.heap.size sv b0F :=
  ⟨.map [], World.ownsMap_made w _ _ _, tidy_empty, fun s x h => (by cases h), fun kl => (by simp [has, b0F]), fun s h => (by cases h)⟩
set_option maxRecDepth 20000 in
theorem BestIs.below {W : World} {B sv : Nat} {f : BestF} (h : BestIs W B sv f) : ∀ s, (f s).isSome = true → s < sv := by
  obtain ⟨_, _, _, _, _, h⟩ := h
  exact h
set_option maxRecDepth 20000 in
/-- the map's keys -/
theorem BestIs.keys {W : World} {B sv : Nat} {f : BestF} (h : BestIs W B sv f) : ∃ D : DataW Unit, W.ownsMap Try.prog 3 smR B (size D) D ∧ (intKeys D).Perm ((keysB sv f).map fun (k : Nat) => (k : Int)) ∧ size D = (keysB sv f).length := by
  obtain ⟨D, ho, ht, ha, hh, hl⟩ := h
  obtain ⟨es, rfl, hp⟩ := ht
  obtain ⟨es', e', hko⟩ := ho.keysOf
  injection e' with e'
  subst e'
  have key : ∀ p ∈ es, ∃ s, (f s).isSome = true ∧ p.1 = .int .i64 (s : Int) := fun p hp' => by
    have h1 : has (.map es : DataW Unit) p.1 = true := by
      rw [has_eq, List.any_eq_true]
      obtain ⟨v, hv⟩ := hko p hp'
      exact ⟨p, hp', WideAt.sameKey_self (keyed_best.key hv)⟩
    exact (hh _).1 h1
  have mem : ∀ x : Int, x ∈ intKeys (.map es : DataW Unit) ↔ x ∈ (keysB sv f).map fun (k : Nat) => (k : Int) := fun x => by
    unfold intKeys
    constructor
    · intro hx
      obtain ⟨p, hp', rfl⟩ := List.mem_map.1 hx
      obtain ⟨s, h1, h2⟩ := key p hp'
      rw [h2]
      exact List.mem_map.2 ⟨s, keysB_mem.2 ⟨hl s h1, h1⟩, rfl⟩
    · intro hx
      obtain ⟨s, h1, rfl⟩ := List.mem_map.1 hx
      obtain ⟨h2, h3⟩ := keysB_mem.1 h1
      have h4 := (hh _).2 ⟨s, h3, rfl⟩
      rw [has_eq, List.any_eq_true] at h4
      obtain ⟨p, hp', q⟩ := h4
      obtain ⟨s', h5, h6⟩ := key p hp'
      refine List.mem_map.2 ⟨p, hp', ?_⟩
      rw [h6] at q ⊢
      simp [Lit.sameKey] at q
      show (s' : Int) = s
      omega
  have nd : (intKeys (.map es : DataW Unit)).Nodup := by
    show (List.map _ es).Nodup
    unfold List.Nodup
    rw [List.pairwise_map]
    refine hp.imp_of_mem fun {a b} ha' hb' q e => ?_
    obtain ⟨s, _, e1⟩ := key a ha'
    obtain ⟨s', _, e2⟩ := key b hb'
    rw [e1, e2] at e
    have e3 : (s : Int) = s' := e
    exact q (by rw [e1, e2, e3])
  have nd2 : ((keysB sv f).map fun (k : Nat) => (k : Int)).Nodup := by
    unfold List.Nodup
    rw [List.pairwise_map]
    exact (keysB_sorted sv f).imp fun h => by omega
  have pm : (intKeys (.map es : DataW Unit)).Perm ((keysB sv f).map fun (k : Nat) => (k : Int)) := (List.perm_ext_iff_of_nodup nd nd2).2 mem
  refine ⟨_, ho, pm, ?_⟩
  have := pm.length_eq
  rw [List.length_map] at this
  rw [← this]
  show es.length = (es.map _).length
  rw [List.length_map]
set_option maxRecDepth 20000 in
theorem BestIs.len {W : World} {B sv : Nat} {f : BestF} (h : BestIs W B sv f) (ty : TypeId) : (Builtin.len_ #[52] ty #[.map (some B)]).run Try.prog W = .ok (.int .i64 ((keysB sv f).length : Nat)) W := by
  obtain ⟨D, ho, _, e⟩ := h.keys
  rw [← e]
  exact ho.len under_best ty
set_option maxRecDepth 20000 in
theorem BestIs.yes {W : World} {B sv : Nat} {f : BestF} (h : BestIs W B sv f) {s : Nat} {x : Int × Int} (e : f s = some x) (hs : sv ≤ 65536) :
    (Instr.lookup 52 (.map (some B)) (.int .i64 s) true).run Try.prog W = .ok (.tuple #[smV x, .bool true]) W := by
  have hb := h.below s (by rw [e]; rfl)
  obtain ⟨D, ho, ht, ha, hh, hl⟩ := h
  obtain ⟨v, ps, hrun, hv⟩ := ho.look_ok keyed_best under_best (zero_best W) (zd := smD (0, 0)) (zp := []) rfl (key_best s (by omega))
  rw [ha _ _ e] at hv
  rw [smR_inv hv, (hh _).2 ⟨s, by rw [e]; rfl, rfl⟩] at hrun
  exact hrun
set_option maxRecDepth 20000 in
theorem BestIs.get {W : World} {B sv : Nat} {f : BestF} (h : BestIs W B sv f) {s : Nat} {x : Int × Int} (e : f s = some x) (hs : sv ≤ 65536) :
    (Instr.lookup 52 (.map (some B)) (.int .i64 s) false).run Try.prog W = .ok (smV x) W := by
  have hb := h.below s (by rw [e]; rfl)
  obtain ⟨D, ho, ht, ha, hh, hl⟩ := h
  obtain ⟨v, ps, hrun, hv⟩ := ho.lookup keyed_best under_best (zero_best W) (zd := smD (0, 0)) (zp := []) rfl (key_best s (by omega))
  rw [ha _ _ e] at hv
  rw [smR_inv hv] at hrun
  exact hrun
set_option maxRecDepth 20000 in
theorem BestIs.no {W : World} {B sv : Nat} {f : BestF} (h : BestIs W B sv f) {s : Nat} (e : f s = none) (hs : s ≤ 65536) :
    (Instr.lookup 52 (.map (some B)) (.int .i64 s) true).run Try.prog W = .ok (.tuple #[smV (0, 0), .bool false]) W := by
  obtain ⟨D, ho, ht, ha, hh, hl⟩ := h
  obtain ⟨v, ps, hrun, hv⟩ := ho.look_ok keyed_best under_best (zero_best W) (zd := smD (0, 0)) (zp := []) rfl (key_best s hs)
  have hf : has D (.int .i64 (s : Int)) = false := by
    rw [Bool.eq_false_iff]
    intro h
    obtain ⟨s', hq, e1⟩ := (hh _).1 h
    injection e1 with _ e1
    have : s = s' := by omega
    rw [← this, e] at hq
    cases hq
  rw [atKey_of_not_has hf] at hv
  rw [hf, smR_inv hv] at hrun
  exact hrun
set_option maxRecDepth 20000 in
theorem BestIs.store {W : World} {B sv : Nat} {f : BestF} (h : BestIs W B sv f) {s : Nat} (hs : s < sv) (hv : sv ≤ 65536) (x : Int × Int) :
    ∃ w', (Instr.mapUpdate 52 (.map (some B)) (.int .i64 s) (smV x)).run Try.prog W = .ok () w' ∧ BestIs w' B sv (putF f s x) ∧ W.mapTurned w' B := by
  have kl := keysB_len sv f
  obtain ⟨D, ho, ht, ha, hh, hl⟩ := h
  have hsz : size D ≤ 65536 := by
    obtain ⟨D', ho', _, e'⟩ := BestIs.keys ⟨D, ho, ht, ha, hh, hl⟩
    obtain ⟨_, _, hb1, _, _, r1⟩ := ho
    obtain ⟨_, _, hb2, _, _, r2⟩ := ho'
    rw [hb1] at hb2
    injection hb2 with hb2
    injection hb2 with hb2 _
    subst hb2
    rw [r1, ← r2, e']
    omega
  obtain ⟨w', hrun, ho', hm⟩ := ho.store keyed_best under_best (by unfold maxLen; omega) (key_best s (by omega)) (smR_mk x)
  have hk := lit_best s (by omega)
  refine ⟨w', hrun, ⟨D.put (.int .i64 (s : Int)) (smD x), ownsMap_tightB ho', ht.put hk _, fun k y e => ?_, fun kl => ?_, fun k e => ?_⟩, hm⟩
  · by_cases c : k = s
    · subst c
      rw [putF_same, Option.some.injEq] at e
      rw [← e]
      exact atKey_put_same ht.isMap hk _ _
    · rw [putF_other _ c] at e
      rw [atKey_put_other (by intro q; injection q with _ q; omega)]
      exact ha k y e
  · by_cases c : kl = .int .i64 (s : Int)
    · subst c
      rw [has_put_same ht.isMap hk]
      exact ⟨fun _ => ⟨s, by rw [putF_same]; rfl, rfl⟩, fun _ => rfl⟩
    · rw [has_put_other c, hh]
      constructor
      · rintro ⟨k, hq, e1⟩
        refine ⟨k, ?_, e1⟩
        rw [putF_other _ (fun e => c (by rw [e1, e]))]
        exact hq
      · rintro ⟨k, hq, e1⟩
        refine ⟨k, ?_, e1⟩
        rw [putF_other _ (fun e => c (by rw [e1, e]))] at hq
        exact hq
  · by_cases c : k = s
    · omega
    · rw [putF_other _ c] at e
      exact hl k e
set_option maxRecDepth 20000 in
theorem BestIs.clear {W : World} {B sv : Nat} {f : BestF} (h : BestIs W B sv f) (ty : TypeId) :
    ∃ w', (Builtin.clear_ #[52] ty #[.map (some B)]).run Try.prog W = .ok (.tuple #[]) w' ∧ BestIs w' B sv b0F ∧ W.mapTurned w' B := by
  obtain ⟨es, clock, hb⟩ := h.isMap
  refine ⟨Go.ChangeMaps.setBlock W B (.map #[] clock), ?_, ⟨.map [], ⟨#[], clock, Go.ChangeMaps.heap_setBlock_same hb _, ?_, Nat.le_refl _, rfl⟩, tidy_empty, fun s x h => (by cases h), fun kl => (by simp [has, b0F]), fun s h => (by cases h)⟩, ⟨es, clock, #[], clock, hb, rfl⟩⟩
  · simp [Builtin.clear_, run_underlying under_best, Go.MapKept.run_getObj_map hb, Go.MapKept.run_setObj_map _ hb, Result.andThen]
    rfl
  · exact ⟨by simp, Go.MapKept.stamped_empty clock, by simp⟩
end Go.Proofs.Ytdgmcgfkammioaa
