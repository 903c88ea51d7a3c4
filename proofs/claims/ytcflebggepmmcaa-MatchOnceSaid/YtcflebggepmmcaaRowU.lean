/- an own row whose block may be longer than its capacity; appends to it. -/
import Derived.Test.YtcflebggepmmcaaMatT
import Derived.ArgAppend
namespace Go.Proofs.Ytcflebggepmmcaa
open Go.RowKit

def RowU (w : World) (base : Nat) (e : TypeId) (size : Nat) (v : Value) (n : Nat) (xs : List Value) : Prop :=
  xs.length = n * size ∧ ((v = .slice none 0 0 ∧ n = 0) ∨ ∃ g cap cur, v = .slice (some ⟨g, 0, none⟩) n cap ∧ base ≤ g ∧ Blk w g e cur ∧ n ≤ cap ∧ cap ≤ maxLen ∧ cap * size ≤ cur.size ∧ cur.toList.take (n * size) = xs)
set_option maxRecDepth 20000 in
theorem rowU_owns {w : World} {b n s : Nat} {e : TypeId} {v : Value} {xs : List Value} (h : w.ownsRow b e s v n xs) : RowU w b e s v n xs := by
  refine ⟨h.1, ?_⟩
  rcases h.2 with hn | ⟨g, cap, cur, rfl, hb, hg, h3, h4, h5, h6⟩
  · exact .inl hn
  · exact .inr ⟨g, cap, cur, rfl, hb, ⟨hg⟩, h3, h4, Nat.le_of_eq h5.symm, h6⟩
set_option maxRecDepth 20000 in
theorem RowU.nil (w : World) (b : Nat) (e : TypeId) (s : Nat) : RowU w b e s (.slice none 0 0) 0 [] := ⟨by simp, .inl ⟨rfl, rfl⟩⟩
set_option maxRecDepth 20000 in
theorem RowU.base {w : World} {b b' n s : Nat} {e : TypeId} {v : Value} {xs : List Value} (h : RowU w b e s v n xs) (hb : b' ≤ b) : RowU w b' e s v n xs := by
  refine ⟨h.1, ?_⟩
  rcases h.2 with hn | ⟨g, cap, cur, rfl, h2, rest⟩
  · exact .inl hn
  · exact .inr ⟨g, cap, cur, rfl, Nat.le_trans hb h2, rest⟩
set_option maxRecDepth 20000 in
theorem RowU.keep {w w' : World} {b n s : Nat} {e : TypeId} {v : Value} {xs : List Value} (h : RowU w b e s v n xs) (k : ∀ g, v.ownBlock = some g → g < w.heap.size → w'.heap[g]? = w.heap[g]?) : RowU w' b e s v n xs := by
  refine ⟨h.1, ?_⟩
  rcases h.2 with hn | ⟨g, cap, cur, rfl, hb, hg, rest⟩
  · exact .inl hn
  · exact .inr ⟨g, cap, cur, rfl, hb, ⟨(k g rfl hg.lt).trans hg.out⟩, rest⟩
set_option maxRecDepth 20000 in
theorem RowU.mo {w w' : World} {b n s : Nat} {e : TypeId} {v : Value} {xs : List Value} (h : RowU w b e s v n xs) (M : Mo w w') : RowU w' b e s v n xs := h.keep fun g _ hg => M.below.block g hg
set_option maxRecDepth 20000 in
theorem RowU.sl {w : World} {b n s : Nat} {e : TypeId} {v : Value} {xs : List Value} (h : RowU w b e s v n xs) : ∃ A c, v = .slice A n c := by
  rcases h.2 with ⟨rfl, rfl⟩ | ⟨g, cap, cur, rfl, _⟩
  · exact ⟨_, _, rfl⟩
  · exact ⟨_, _, rfl⟩
set_option maxRecDepth 20000 in
theorem RowU.lt {w : World} {b n s : Nat} {e : TypeId} {v : Value} {xs : List Value} (h : RowU w b e s v n xs) : ∀ k, v.ownBlock = some k → b ≤ k ∧ k < w.heap.size := fun k hk => by
  rcases h.2 with ⟨rfl, _⟩ | ⟨g, cap, cur, rfl, hb, hg, _⟩
  · simp [Value.ownBlock] at hk
  · have e : g = k := by simpa [Value.ownBlock] using hk
    subst e
    exact ⟨hb, hg.lt⟩
set_option maxRecDepth 20000 in
/-- an append -/
theorem RowU.append {w : World} {base n s : Nat} {v : Value} {xs : List Value} (t ty e : TypeId) (i : TypeInfo) (z : Value) (bytes : Nat) (ht : Try.prog.underlying t = some (.slice e)) (hi : Try.prog.info? e = some i) (hz : i.zero = some z)
    (hsize : i.size = s) (hby : i.bytes = bytes) (hzs : z.cells.size = s) (hsz : 0 < s) (h : RowU w base e s v n xs) (a : Addr) (m c : Nat) (news : List Value) (hl : news.length = m * s) (hnews : ∀ j u, news[j]? = some u → w.cell? (a.add j) = some u) (h1 : ∀ u ∈ news, u.oneCell' = true)
    (h63 : n + m ≤ maxLen) (hbytes : (n + m) * bytes ≤ 140737488355328) (hbase : base ≤ w.heap.size) :
    ∃ v' w', (Builtin.append_ #[t, t] ty #[v, .slice (some a) m c]).run Try.prog w = .ok v' w' ∧ RowU w' base e s v' (n + m) (xs ++ news) ∧ w.grownBy w' v.ownBlock := by
  subst hsize
  rcases h.2 with ⟨rfl, rfl⟩ | ⟨g, cap, cur, rfl, hb, hg, h3, h4, h5, h6⟩
  · have hx : xs = [] := List.eq_nil_of_length_eq_zero (by have := h.1; simpa using this)
    obtain ⟨v', w', r, o, gr, _⟩ := run_append_own (P := Try.prog) w base t ty e i z i.size bytes ht hi hz rfl hby hzs hsz (.slice none 0 0) 0 [] (World.ownsRow_nil w _ e i.size) a m c news hl hnews h1 h63 hbytes hbase
    exact ⟨v', w', r, by rw [hx]; exact rowU_owns o, gr⟩
  · by_cases hr : n + m ≤ cap
    · have ecl : cur.toList.length = cur.size := Array.length_toList
      have hlen' : n * i.size + news.length ≤ cur.size := by
        rw [hl, ← Nat.add_mul]
        exact Nat.le_trans (Nat.mul_le_mul_right _ hr) h5
      have hlen : n * i.size + news.length ≤ cur.toList.length := by rw [ecl]; exact hlen'
      have hcell : ∀ j, j < news.length → (w.cell? ⟨g, 0 + n * i.size + j, none⟩).isSome = true := fun j hj => by
        rw [blk_cell hg]
        have : 0 + n * i.size + j < cur.size := by omega
        rw [Array.getElem?_eq_getElem this]
        rfl
      have hrun := run_append_room_cells (P := Try.prog) w t ty e i ht hi g 0 n cap a m c news hl hnews h1 hr hcell (fun j _ => blk_frozen hg _)
      have b' : Blk w g e cur.toList.toArray := by rw [Array.toArray_toList]; exact hg
      rw [Nat.zero_add, setCells_row news (n * i.size) w g e cur.toList b' hlen] at hrun
      have hb2 : Blk (w.setRow g (spliceL cur.toList (n * i.size) news).toArray) g e (spliceL cur.toList (n * i.size) news).toArray := blk_setRow hg
      have hsl : (spliceL cur.toList (n * i.size) news).length = cur.size := by
        unfold spliceL
        simp only [List.length_append, List.length_take, List.length_drop, ecl]
        omega
      refine ⟨_, _, hrun, ⟨by rw [List.length_append, h.1, hl, Nat.add_mul], .inr ⟨g, cap, _, rfl, hb, hb2, hr, h4, ?_, ?_⟩⟩, ⟨rfl, rfl, rfl, by rw [setRow_size']; exact Nat.le_refl _, fun k _ hk => ?_⟩⟩
      · rw [List.size_toArray, hsl]; exact h5
      · show (spliceL cur.toList (n * i.size) news).take ((n + m) * i.size) = xs ++ news
        unfold spliceL
        rw [h6, List.take_append_of_le_length (by rw [List.length_append, h.1, hl, Nat.add_mul]; exact Nat.le_refl _)]
        rw [List.take_of_length_le]
        rw [List.length_append, h.1, hl, Nat.add_mul]
        exact Nat.le_refl _
      · exact setRow_get_ne w g k _ (fun e => hk (by rw [e]; rfl))
    · have hold : ∀ j u, xs[j]? = some u → w.cell? ((⟨g, 0, none⟩ : Addr).add j) = some u := fun j u hj => by
        have hjl := (List.getElem?_eq_some_iff.1 hj).1
        have ea : (⟨g, 0, none⟩ : Addr).add j = ⟨g, j, none⟩ := by
          unfold Addr.add
          split
          · rename_i e; rw [e]
          · rw [Nat.zero_add]
        rw [ea, blk_cell hg, ← Array.getElem?_toList]
        rw [← h6, List.getElem?_take_of_lt (by rw [h.1] at hjl; exact hjl)] at hj
        exact hj
      obtain ⟨v', w', r, o, gr⟩ := run_append_arg_grows (P := Try.prog) w t ty e i z i.size bytes ht hi hz rfl hby hzs hsz ⟨g, 0, none⟩ n cap xs h.1 hold a m c news hl hnews (by omega) h63 hbytes
      exact ⟨v', w', r, (rowU_owns o).base hbase, ⟨gr.os, gr.tape, gr.output, gr.size, fun k hk _ => gr.block k hk (by simp)⟩⟩
set_option maxRecDepth 20000 in
/-- its cells -/
theorem RowU.cells {w : World} {b : Nat} {t : TypeId} {s : Nat} {v : Value} {N : Nat} {O : List (Array Value)} (h : RowU w b t s v N (rowS O)) (hs : ∀ a ∈ O, a.size = s) (hN : 0 < N) :
    ∃ g c2, v = .slice (some ⟨g, 0, none⟩) N c2 ∧ b ≤ g ∧ N ≤ c2 ∧ ∀ (q : Nat) (hq : q < O.length) j u, O[q].toList[j]? = some u → w.cell? ⟨g, q * s + j, none⟩ = some u := by
  rcases h.2 with ⟨_, h0⟩ | ⟨g, cap, cur, hv, hb, hg, h3, h4, h5, h6⟩
  · omega
  · refine ⟨g, cap, hv, hb, h3, fun q hq j u hj => ?_⟩
    have hjs : j < s := by
      have := (List.getElem?_eq_some_iff.1 hj).1
      rwa [Array.length_toList, hs _ (List.getElem_mem hq)] at this
    have h1 := h.1
    rw [rowS_len hs] at h1
    have e1 := rowS_get hs q hq j hjs
    have lt : q * s + j < O.length * s := Nat.lt_of_lt_of_le (by rw [Nat.succ_mul]; omega) (Nat.mul_le_mul_right s (show q + 1 ≤ O.length from hq))
    rw [hj, ← h6] at e1
    rw [blk_cell hg, ← Array.getElem?_toList, ← e1, List.getElem?_take_of_lt (by omega)]
set_option maxRecDepth 20000 in
/-- cut to its first h, with no more room -/
theorem RowU.cut {w : World} {b : Nat} {t : TypeId} {s : Nat} {g N c2 : Nat} {O : List (Array Value)} (h : RowU w b t s (.slice (some ⟨g, 0, none⟩) N c2) N (rowS O)) (hs : ∀ a ∈ O, a.size = s) (hl : O.length = N) (k : Nat) (hk : k ≤ N) : RowU w b t s (.slice (some ⟨g, 0, none⟩) k k) k (rowS (O.take k)) := by
  have hsT : ∀ a ∈ O.take k, a.size = s := fun a ha => hs a (List.mem_of_mem_take ha)
  refine ⟨by rw [rowS_len hsT, List.length_take, hl, Nat.min_eq_left hk], ?_⟩
  rcases h.2 with ⟨h0, _⟩ | ⟨g', cap, cur, hv, hb, hg, h3, h4, h5, h6⟩
  · cases h0
  · injection hv with hv _ hc
    injection hv with hv
    injection hv with hv
    subst hv hc
    refine .inr ⟨g, k, cur, rfl, hb, hg, Nat.le_refl _, by omega, Nat.le_trans (Nat.mul_le_mul_right s (Nat.le_trans hk h3)) h5, ?_⟩
    have e1 : rowS O = rowS (O.take k) ++ rowS (O.drop k) := by rw [← rowS_append, List.take_append_drop]
    have e2 : (rowS (O.take k)).length = k * s := by rw [rowS_len hsT, List.length_take, hl, Nat.min_eq_left hk]
    have e3 : cur.toList.take (k * s) = (cur.toList.take (N * s)).take (k * s) := by rw [List.take_take, Nat.min_eq_left (Nat.mul_le_mul_right s hk)]
    rw [e3, h6, e1, List.take_append_of_le_length (Nat.le_of_eq e2.symm), List.take_of_length_le (Nat.le_of_eq e2)]
end Go.Proofs.Ytcflebggepmmcaa
