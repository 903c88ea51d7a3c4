/- an own row of datagrams ([]Datagram that is appended to). -/
import Derived.Test.YtcflebggepmmcaaMatT
import Derived.Test.YtcflebggepmmcaaMatQ
import Derived.Test.YtcflebggepmmcaaMatX
import Derived.Test.YtcflebggepmmcaaPackJP
namespace Go.Proofs.Ytcflebggepmmcaa
open Go.RowKit

set_option maxRecDepth 20000 in
theorem byteS_same {w w' : World} {A : Option Addr} {cap : Nat} {bs : List Int} (h : ByteS w A cap bs) (k : ∀ g off, A = some ⟨g, off, none⟩ → bs ≠ [] → w'.heap[g]? = w.heap[g]?) : ByteS w' A cap bs := by
  refine ⟨h.le, h.lim, h.byte, h.nil, ?_⟩
  rcases h.at_ with e | ⟨g, off, rfl, hc⟩
  · exact .inl e
  · by_cases e : bs = []
    · exact .inl e
    · exact .inr ⟨g, off, rfl, fun i hi => (World.cell?_of_block (a := ⟨g, off + i, none⟩) (k g off rfl e)).trans (hc i hi)⟩
set_option maxRecDepth 20000 in
theorem byteS_lt {w : World} {g off cap : Nat} {bs : List Int} (h : ByteS w (some ⟨g, off, none⟩) cap bs) (e : bs ≠ []) : g < w.heap.size := by
  rcases h.at_ with e' | ⟨g', off', e', hc⟩
  · exact absurd e' e
  · injection e' with e'
    injection e' with e' _
    subst e'
    exact (LtW.of_cell (hc 0 (List.length_pos_iff.2 e))).out
/-- a datagram's cells; its bytes lie ahead of b, or in no block of datagrams -/
def DgW (b : Nat) (w : World) (d : Dg) (C : Array Value) : Prop := ∃ A cap, C = dgC d.at_ d.src d.dst (.slice A d.bs.length cap) ∧ ByteS w A cap d.bs ∧ ∀ g off, A = some ⟨g, off, none⟩ → d.bs ≠ [] → g < b ∨ NoTy 41 w g
set_option maxRecDepth 20000 in
theorem DgW.same {b : Nat} {w w' : World} {d : Dg} {C : Array Value} (h : DgW b w d C) (k : ∀ g, g < w.heap.size → (g < b ∨ NoTy 41 w g) → w'.heap[g]? = w.heap[g]?) : DgW b w' d C := by
  obtain ⟨A, cap, e, hb, ht⟩ := h
  refine ⟨A, cap, e, byteS_same hb fun g off e1 e2 => k g (byteS_lt (e1 ▸ hb) e2) (ht g off e1 e2), fun g off e1 e2 => ?_⟩
  have h1 := k g (byteS_lt (e1 ▸ hb) e2) (ht g off e1 e2)
  rcases ht g off e1 e2 with q | q
  · exact .inl q
  · refine .inr fun cs f => ?_
    rw [h1]
    exact q cs f
set_option maxRecDepth 20000 in
theorem DgW.mo {b : Nat} {w w' : World} {d : Dg} {C : Array Value} (h : DgW b w d C) (M : Mo w w') : DgW b w' d C := h.same fun g hg _ => M.below.block g hg
set_option maxRecDepth 20000 in
theorem DgW.c {b : Nat} {w : World} {d : Dg} {C : Array Value} (h : DgW b w d C) : DgC w d C := by
  obtain ⟨A, cap, e, hb, _⟩ := h
  exact ⟨A, cap, e, hb⟩
set_option maxRecDepth 20000 in
theorem DgW.sz {b : Nat} {w : World} {d : Dg} {C : Array Value} (h : DgW b w d C) (ok : DgOk d) : C.size = 39 := by
  obtain ⟨A, cap, e, _⟩ := h
  rw [e]
  exact dg_sz (sz_wide ok.at_) (sz_ends ok.src) (sz_ends ok.dst)
structure AllS (b : Nat) (w : World) (v : Value) (l : List Dg) (CL : List (Array Value)) : Prop where
  row : w.ownsRow b 41 39 v l.length (rowS CL)
  len : CL.length = l.length
  ok : ∀ d ∈ l, DgOk d
  c : ∀ (i : Nat) (d : Dg) (C : Array Value), l[i]? = some d → CL[i]? = some C → DgW b w d C
set_option maxRecDepth 20000 in
theorem AllS.nil (b : Nat) (w : World) : AllS b w (.slice none 0 0) [] [] := ⟨World.ownsRow_nil _ _ _ _, rfl, fun d hd => (by cases hd), fun i d C h => (by simp at h)⟩
set_option maxRecDepth 20000 in
theorem AllS.mo {b : Nat} {w w' : World} {v : Value} {l : List Dg} {CL : List (Array Value)} (h : AllS b w v l CL) (M : Mo w w') : AllS b w' v l CL := ⟨owns_mo h.row M, h.len, h.ok, fun i d C h1 h2 => (h.c i d C h1 h2).mo M⟩
set_option maxRecDepth 20000 in
theorem AllS.same {b : Nat} {w w' : World} {v : Value} {l : List Dg} {CL : List (Array Value)} (h : AllS b w v l CL) (row : w'.ownsRow b 41 39 v l.length (rowS CL)) (k : ∀ g, g < w.heap.size → (g < b ∨ NoTy 41 w g) → w'.heap[g]? = w.heap[g]?) : AllS b w' v l CL :=
  ⟨row, h.len, h.ok, fun i d C h1 h2 => (h.c i d C h1 h2).same k⟩
set_option maxRecDepth 20000 in
theorem AllS.szs {b : Nat} {w : World} {v : Value} {l : List Dg} {CL : List (Array Value)} (h : AllS b w v l CL) : ∀ a ∈ CL, a.size = 39 := fun a ha => by
  obtain ⟨i, hi, rfl⟩ := List.getElem_of_mem ha
  have hl : i < l.length := by rw [← h.len]; exact hi
  exact (h.c i l[i] CL[i] (List.getElem?_eq_getElem hl) (List.getElem?_eq_getElem hi)).sz (h.ok _ (List.getElem_mem hl))
set_option maxRecDepth 20000 in
theorem AllS.dgs {b : Nat} {w : World} {v : Value} {l : List Dg} {CL : List (Array Value)} (h : AllS b w v l CL) (lim : l.length ≤ 4398046511104) : ∃ A cap, v = .slice A l.length cap ∧ DgsS w A cap l := by
  have hr := h.row
  rcases hr.2 with ⟨rfl, h0⟩ | ⟨g, cap, cur, rfl, hb, hg, h3, h4, h5, h6⟩
  · exact ⟨none, 0, by rw [h0], by omega, lim, h.ok, fun _ => rfl, .inl (List.eq_nil_of_length_eq_zero h0)⟩
  · refine ⟨_, _, rfl, h3, lim, h.ok, fun e => (by cases e), .inr ⟨g, 0, rfl, fun i hi => ?_⟩⟩
    obtain ⟨g', c2, e, -, hcell⟩ := own_cellsS hr h.szs (by omega)
    injection e with e
    injection e with e
    injection e with e
    subst e
    have hiC : i < CL.length := by rw [h.len]; exact hi
    obtain ⟨A, ca, e1, hbs, -⟩ := h.c i l[i] CL[i] (List.getElem?_eq_getElem hi) (List.getElem?_eq_getElem hiC)
    refine ⟨A, ca, hbs, fun j x hj => ?_⟩
    rw [← e1] at hj
    have := hcell i hiC j x hj
    rwa [Nat.zero_add]
set_option maxRecDepth 20000 in
theorem AllS.snoc {b : Nat} {w w' : World} {v v' : Value} {l : List Dg} {CL : List (Array Value)} {d : Dg} {C : Array Value} (h : AllS b w v l CL) (hc : DgW b w d C) (ok : DgOk d) (hown : w'.ownsRow b 41 39 v' (l.length + 1) (rowS CL ++ C.toList)) (hg : w.grownBy w' v.ownBlock) : AllS b w' v' (l ++ [d]) (CL ++ [C]) := by
  have key : ∀ g, g < w.heap.size → (g < b ∨ NoTy 41 w g) → w'.heap[g]? = w.heap[g]? := fun g hgl q => hg.block g hgl fun e => by
    rcases q with q | q
    · have := (h.row.lt g e.symm).1; omega
    · rcases h.row.2 with ⟨rfl, _⟩ | ⟨g', cap, cur, rfl, _, hb, _⟩
      · simp [Value.ownBlock] at e
      · have e' : g = g' := by simpa [Value.ownBlock] using e
        subst e'
        exact q _ _ hb
  refine ⟨by rw [List.length_append, List.length_singleton, rowS_append, rowS_one]; exact hown, by simp [h.len], fun x hx => ?_, fun i x X h1 h2 => ?_⟩
  · rcases List.mem_append.1 hx with q | q
    · exact h.ok x q
    · rw [List.mem_singleton] at q; rw [q]; exact ok
  · by_cases c : i < l.length
    · rw [List.getElem?_append_left c] at h1
      rw [List.getElem?_append_left (by rw [h.len]; exact c)] at h2
      exact (h.c i x X h1 h2).same key
    · rw [List.getElem?_append_right (by omega)] at h1
      rw [List.getElem?_append_right (by rw [h.len]; omega), h.len] at h2
      have hi : i - l.length = 0 := by
        have := (List.getElem?_eq_some_iff.1 h1).1
        simpa using this
      rw [hi] at h1 h2
      have e1 : d = x := by simpa using h1
      have e2 : C = X := by simpa using h2
      subst e1 e2
      exact hc.same key
set_option maxRecDepth 20000 in
theorem info_dg39 : ∃ i z, Try.prog.info? 41 = some i ∧ i.zero = some z ∧ i.size = 39 ∧ i.bytes = 80 ∧ z.cells.size = 39 := by
  have h1 : (Try.prog.info? 41).map (fun i => (i.size, i.bytes, (i.zero.map (·.cells.size)))) = some (39, 80, some 39) := by kernel_rfl
  cases h : Try.prog.info? 41 with
  | none => rw [h] at h1; cases h1
  | some i =>
    rw [h] at h1
    simp only [Option.map_some, Option.some.injEq, Prod.mk.injEq] at h1
    obtain ⟨a, b, c⟩ := h1
    cases hz : i.zero with
    | none => rw [hz] at c; cases c
    | some z =>
      rw [hz] at c
      exact ⟨i, z, rfl, hz, a, b, by simpa using c⟩
set_option maxRecDepth 20000 in
theorem run_bd1 (c1 : Array Value) [h1 : SzA c1 39] (w : World) : (buildDg 1 #[(0, .agg c1)]).run Try.prog w = .ok (.slice (some ⟨w.heap.size, 0, none⟩) 1 1) (w.alloc (.cells c1 41)) := by
  have := run_buildDg [c1] (fun v hv => by simp at hv; rw [hv]; exact h1.out) 1 rfl (by omega) (by omega) w
  rwa [show rowsD [c1] = c1 by unfold rowsD; simp] at this
end Go.Proofs.Ytcflebggepmmcaa
