/- horologelaw29: calls ([]Do) in memory; others. -/
import Derived.Test.YtlbkcjpnlnlmiaaPendP
import Derived.Test.YtlbkcjpnlnlmiaaPendW
namespace Go.Proofs.Ytlbkcjpnlnlmiaa
open Go.RowKit Go.Maps

def doC (d : Do) : Array Value := #[.int .u8 d.kd] ++ d.k ++ d.a
/-- calls at a slice's address -/
structure DoS (W : World) (A : Option Addr) (cap : Nat) (l : List Do) : Prop where
  le : l.length ≤ cap
  lim : l.length ≤ 4398046511104
  ok : ∀ d ∈ l, DoOk d
  nil : A = none → cap = 0
  at_ : l = [] ∨ ∃ g off, A = some ⟨g, off, none⟩ ∧ ∀ i, (h : i < l.length) → ∀ j v, (doC l[i]).toList[j]? = some v → W.cell? ⟨g, off + i * 40 + j, none⟩ = some v
set_option maxRecDepth 20000 in
theorem do_split (d : Do) : doC d = #[.int .u8 d.kd] ++ (d.k ++ d.a) := by unfold doC; rw [Array.append_assoc]
set_option maxRecDepth 20000 in
theorem do_kd (d : Do) : (doC d)[0]? = some (.int .u8 d.kd) := by
  rw [do_split, Array.getElem?_append, if_pos (by simp)]
  rfl
set_option maxRecDepth 20000 in
theorem ext_mid (m x r : Array Value) (a b : Nat) (h : m.size = a) (h' : x.size + a = b) : (m ++ x ++ r).extract a b = x := by
  subst h
  refine Array.ext_getElem? fun j => ?_
  rw [Array.getElem?_extract]
  by_cases c : j < x.size
  · rw [if_pos (by simp; omega), Array.getElem?_append, if_pos (by simp; omega), Array.getElem?_append, if_neg (by omega)]
    congr 1
    omega
  · rw [if_neg (by simp; omega), Array.getElem?_eq_none (by omega)]
set_option maxRecDepth 20000 in
instance do_sz (d : Do) [hk : SzA d.k 37] [ha : SzA d.a 2] : SzA (doC d) 40 := ⟨by unfold doC; simp [hk.out, ha.out]⟩
set_option maxRecDepth 20000 in
instance do_one (d : Do) [hk : OneA d.k] [ha : OneA d.a] : OneA (doC d) := by
  unfold doC
  have : OneA #[Value.int .u8 d.kd] := ⟨by rw [Array.all_eq_true_iff_forall_mem]; intro v hv; simp at hv; subst hv; rfl⟩
  infer_instance
set_option maxRecDepth 20000 in
theorem do_key (d : Do) [hk : SzA d.k 37] : (doC d).extract 1 38 = d.k := ext_mid #[.int .u8 d.kd] d.k d.a 1 38 rfl (by rw [hk.out])
set_option maxRecDepth 20000 in
theorem do_at (d : Do) [hk : SzA d.k 37] [ha : SzA d.a 2] : (doC d).extract 38 40 = d.a := by
  have h := ext_mid (#[.int .u8 d.kd] ++ d.k) d.a #[] 38 40 (by simp [hk.out]) (by rw [ha.out])
  rw [Array.append_empty] at h
  exact h
set_option maxRecDepth 20000 in
instance row_do : RowT 42 40 := ⟨by kernel_rfl, by kernel_rfl⟩
set_option maxRecDepth 20000 in
theorem loadF_do (v : Value) : Instr.loadAt 42 v = loadF 42 v := rfl
set_option maxRecDepth 20000 in
theorem storeF_do (v x : Value) : Instr.storeAt 42 v x = storeF 42 v x := rfl
set_option maxRecDepth 20000 in
/-- a struct whose cells are known, each -/
theorem run_loadC (T : TypeId) (n : Nat) [h : RowT T n] (w : World) (g o : Nat) (cs : Array Value) (hs : cs.size = n) (hc : ∀ j v, cs.toList[j]? = some v → w.cell? ⟨g, o + j, none⟩ = some v) :
    (loadF T (.pointer (some ⟨g, o, none⟩))).run Try.prog w = .ok (.agg cs) w := by
  have hr := h.row
  split at hr
  case h_2 => cases hr
  case h_1 d hu =>
    have := run_loadAt_mid w g o T cs.toList d hc hu hr (by rw [h.info]; congr 1; simp [hs])
    rwa [Array.toArray_toList] at this
set_option maxRecDepth 20000 in
theorem DoS.mo {W w : World} {A : Option Addr} {cap : Nat} {l : List Do} (h : DoS W A cap l) (k : Mo W w) : DoS w A cap l := by
  refine ⟨h.le, h.lim, h.ok, h.nil, ?_⟩
  rcases h.at_ with e | ⟨g, off, rfl, hc⟩
  · exact .inl e
  · refine .inr ⟨g, off, rfl, fun i hi j v hv => ?_⟩
    have := hc i hi j v hv
    have : LtW g W := LtW.of_cell this
    rw [k.cell, hc i hi j v hv]
set_option maxRecDepth 20000 in
theorem DoS.get {W : World} {A : Option Addr} {cap : Nat} {l : List Do} (h : DoS W A cap l) (i : Nat) (hi : i < l.length) : ∃ g off, A = some ⟨g, off, none⟩ ∧ (loadF 42 (.pointer (some ⟨g, off + i * 40, none⟩))).run Try.prog W = .ok (.agg (doC l[i])) W ∧
    (loadF 38 (.pointer (some ⟨g, off + i * 40 + 1, none⟩))).run Try.prog W = .ok (.agg l[i].k) W ∧ (loadF 40 (.pointer (some ⟨g, off + i * 40 + 38, none⟩))).run Try.prog W = .ok (.agg l[i].a) W := by
  rcases h.at_ with e | ⟨g, off, rfl, hc⟩
  · rw [e] at hi; simp at hi
  · have ok := h.ok _ (List.getElem_mem hi)
    have z1 := key_sz ok.k
    have z2 := at_sz ok.a
    refine ⟨g, off, rfl, run_loadC _ 40 W g _ _ (do_sz l[i]).out (hc i hi), run_loadC _ 37 W g _ _ z1.out fun j v hv => ?_, run_loadC _ 2 W g _ _ z2.out fun j v hv => ?_⟩
    · have := hc i hi (j + 1) v ?_
      · rw [← this]; congr 2; omega
      · have hj : j < l[i].k.size := by
          obtain ⟨hj, -⟩ := List.getElem?_eq_some_iff.1 hv
          simpa using hj
        rw [Array.getElem?_toList] at hv ⊢
        rw [do_split, Array.getElem?_append, if_neg (by simp), Array.getElem?_append, if_pos (by simp; omega)]
        simpa using hv
    · have := hc i hi (j + 38) v ?_
      · rw [← this]; congr 2; omega
      · have hj : j < l[i].a.size := by
          obtain ⟨hj, -⟩ := List.getElem?_eq_some_iff.1 hv
          simpa using hj
        rw [Array.getElem?_toList] at hv ⊢
        rw [do_split, Array.getElem?_append, if_neg (by simp), Array.getElem?_append, if_neg (by simp [z1.out])]
        rw [← hv]
        congr 1
        simp [z1.out]
set_option maxRecDepth 20000 in
theorem sizeDo (w : World) : (sizeOf (Try.prog.elem 22)).run Try.prog w = .ok 40 w := rfl
set_option maxRecDepth 20000 in
/-- l[a:b] -/
theorem DoS.part {W : World} {A : Option Addr} {cap : Nat} {l : List Do} (h : DoS W A cap l) (a b : Nat) (ha : a ≤ b) (hb : b ≤ l.length) :
    ∃ A', DoS W A' (cap - a) ((l.drop a).take (b - a)) ∧ ∀ w : World, (Instr.sliceAt 22 (.slice A l.length cap) (some (.int .i64 (a : Int))) (some (.int .i64 (b : Int))) none).run Try.prog w = .ok (.slice A' (b - a) (cap - a)) w := by
  have hle := h.le
  have hlim := h.lim
  have h1 : ∀ w : World, (Instr.slice 22 (.slice A l.length cap) (some (.int .i64 (a : Int))) (some (.int .i64 (b : Int))) none).run Try.prog w = .ok (sliced A a b cap 40) w := fun w => by
    rw [run_slice_lh w 22 A l.length cap Try.underlying22 .i64 .i64 a b (by omega) (by omega) (by omega), sizeDo]
    rfl
  have h2 : ∀ w : World, (Instr.sliceAt 22 (.slice A l.length cap) (some (.int .i64 (a : Int))) (some (.int .i64 (b : Int))) none).run Try.prog w = .ok (sliced A a b cap 40) w := fun w => by
    rw [run_sliceAt_slice w 22 _ _ _ _ Try.underlying22]
    exact h1 w
  unfold sliced at h2
  refine ⟨_, ⟨by rw [List.length_take, List.length_drop]; omega, by rw [List.length_take, List.length_drop]; omega, fun d hd => h.ok d (List.mem_of_mem_drop (List.mem_of_mem_take hd)), ?_, ?_⟩, h2⟩
  · intro e
    by_cases c : cap = a
    · rw [c, Nat.sub_self]
    · rw [if_neg c] at e
      cases A with
      | none => have := h.nil rfl; omega
      | some x => cases e
  · by_cases z : b = a
    · exact .inl (by rw [z, Nat.sub_self, List.take_zero])
    · rcases h.at_ with e | ⟨g, off, rfl, hc⟩
      · rw [e] at hb; simp at hb; omega
      · rw [if_neg (show ¬ cap = a by omega)]
        refine .inr ⟨g, off + a * 40, ?_, fun i hi j v hv => ?_⟩
        · show some ((⟨g, off, none⟩ : Addr).add (a * 40)) = _
          rw [Go.WideShapes.add_plain]
        · rw [List.length_take, List.length_drop] at hi
          rw [List.getElem_take, List.getElem_drop] at hv
          rw [show off + a * 40 + i * 40 + j = off + (a + i) * 40 + j by omega]
          exact hc (a + i) (by omega) j v hv
/-! ### the set of keys -/
def SetIs (W : World) (B : Nat) (ks : List (Array Value)) : Prop :=
  ∃ D : DataW Unit, W.ownsMap Try.prog 38 unitElem B ks.length D ∧ Tidy D ∧ size D = ks.length ∧ ∀ kl, has D kl = true ↔ ∃ k ∈ ks, litK k = kl
set_option maxRecDepth 20000 in
theorem under_set : Try.prog.underlying 76 = some (.map 38 77) := by kernel_rfl
set_option maxRecDepth 20000 in
theorem SetIs.keep {W w' : World} {B : Nat} {ks : List (Array Value)} (h : SetIs W B ks) (k : w'.heap[B]? = W.heap[B]?) : SetIs w' B ks := by
  obtain ⟨D, ⟨es, clock, hb, F, hs, e⟩, r⟩ := h
  exact ⟨D, ⟨es, clock, k.trans hb, F, hs, e⟩, r⟩
set_option maxRecDepth 20000 in
theorem SetIs.lt {W : World} {B : Nat} {ks : List (Array Value)} (h : SetIs W B ks) : B < W.heap.size := by
  obtain ⟨D, ⟨es, clock, hb, _⟩, _⟩ := h
  exact (Array.getElem?_eq_some_iff.1 hb).1
set_option maxRecDepth 20000 in
theorem SetIs.made (w : World) : SetIs (w.alloc (.map #[] 0)) w.heap.size [] :=
  ⟨.map [], World.ownsMap_made w _ _ _, tidy_empty, rfl, fun kl => (by simp [has])⟩
set_option maxRecDepth 20000 in
theorem SetIs.len {W : World} {B : Nat} {ks : List (Array Value)} (h : SetIs W B ks) (ty : TypeId) : (Builtin.len_ #[76] ty #[.map (some B)]).run Try.prog W = .ok (.int .i64 ks.length) W := by
  obtain ⟨D, ho, ht, hs, hh⟩ := h
  rw [← hs]
  exact ho.len under_set ty
open Classical in
set_option maxRecDepth 20000 in
theorem SetIs.put {W : World} {B : Nat} {ks : List (Array Value)} {k : Array Value} (h : SetIs W B ks) (hl : ks.length < maxLen) (ok : ∀ x ∈ ks, KeyP x) (hk : KeyP k) :
    ∃ w', (Instr.mapUpdate 76 (.map (some B)) (.agg k) (.agg #[])).run Try.prog W = .ok () w' ∧ SetIs w' B (if k ∈ ks then ks else ks ++ [k]) ∧ W.mapTurned w' B := by
  obtain ⟨D, ho, ht, hs, hh⟩ := h
  obtain ⟨w', hrun, ho', hm⟩ := ho.store (law_flat fl_key) under_set hl (litK_eq hk) (val := .agg #[]) (d := .agg []) (ps := []) unitElem_mk
  refine ⟨w', hrun, ?_, hm⟩
  have hkk := litK_key hk
  have tight : ∀ n D, w'.ownsMap Try.prog 38 unitElem B n D → w'.ownsMap Try.prog 38 unitElem B (size (D : DataW Unit)) D := by
    rintro n D ⟨es, clock, hb, F, hs, rfl⟩
    exact ⟨es, clock, hb, F, by simp [size, length_sorted], rfl⟩
  have hi : has D (litK k) = true ↔ k ∈ ks := by
    rw [hh]
    constructor
    · rintro ⟨x, hx, e⟩
      rw [litK_inj (ok x hx) hk e] at hx
      exact hx
    · exact fun h => ⟨k, h, rfl⟩
  have hsz : size (D.put (litK k) (.agg [])) = (if k ∈ ks then ks else ks ++ [k]).length := by
    rw [size_put ht]
    by_cases c : k ∈ ks
    · rw [if_pos c, hi.2 c, if_pos rfl, hs]
    · rw [if_neg c, Bool.eq_false_iff.2 (fun h => c (hi.1 h)), if_neg (by decide), hs, List.length_append]
      rfl
  refine ⟨D.put (litK k) (.agg []), by rw [← hsz]; exact tight _ _ ho', ht.put hkk _, hsz, fun kl => ?_⟩
  by_cases c : kl = litK k
  · subst c
    rw [has_put_same ht.isMap hkk]
    refine ⟨fun _ => ⟨k, ?_, rfl⟩, fun _ => rfl⟩
    by_cases q : k ∈ ks
    · rw [if_pos q]; exact q
    · rw [if_neg q]; simp
  · rw [has_put_other c, hh]
    by_cases q : k ∈ ks
    · rw [if_pos q]
    · rw [if_neg q]
      constructor
      · rintro ⟨x, hx, e⟩; exact ⟨x, List.mem_append_left _ hx, e⟩
      · rintro ⟨x, hx, e⟩
        rcases List.mem_append.1 hx with h | h
        · exact ⟨x, h, e⟩
        · rw [List.mem_singleton] at h; rw [h] at e; exact absurd e.symm c
end Go.Proofs.Ytlbkcjpnlnlmiaa
