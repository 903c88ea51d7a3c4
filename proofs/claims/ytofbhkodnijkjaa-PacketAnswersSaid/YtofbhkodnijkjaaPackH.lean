/- horologeref23.Key: the key of a datagram, by the document (printed by gen/genpackh.py). -/
import Derived.Test.YtofbhkodnijkjaaPackG
namespace Go.Proofs.Ytofbhkodnijkjaa
open Go.RowKit

def spliceA (cs : Array Value) (o : Nat) (v : Array Value) : Array Value := (spliceL cs.toList o v.toList).toArray
set_option maxRecDepth 20000 in
theorem run_storeFA (T : TypeId) (n : Nat) [h : RowT T n] (w : World) (g o : Nat) (t : TypeId) (cs v : Array Value) (k : Nat) [b : Blk w g t cs] [z : SzA cs k] [y : SzA v n] [q : OneA v] (hk : o + n ≤ k) (_hn : n < k) :
    (storeF T (.pointer (some ⟨g, o, none⟩)) (.agg v)).run Try.prog w = .ok () (w.setRow g (spliceA cs o v)) := by
  obtain ⟨cs⟩ := cs
  obtain ⟨v⟩ := v
  exact run_storeF T n w g o t cs v k hk
set_option maxRecDepth 20000 in
theorem ky_splice0 (s t s' : Array Value) (n : Int) [hs : SzA s 18] [hs' : SzA s' 18] : spliceA (kyC s t n) 0 s' = kyC s' t n := by
  have h1 := hs.out
  have h2 := hs'.out
  apply Array.toList_inj.1
  unfold spliceA spliceL kyC
  simp only [Array.toList_append, List.take_zero, List.nil_append, Array.length_toList, Nat.zero_add]
  rw [List.append_assoc, List.drop_left' (by rw [Array.length_toList, h1, h2])]
  simp
set_option maxRecDepth 20000 in
theorem ky_splice18 (s t t' : Array Value) (n : Int) [hs : SzA s 18] [ht : SzA t 18] [ht' : SzA t' 18] : spliceA (kyC s t n) 18 t' = kyC s t' n := by
  have h1 := hs.out
  have h2 := ht.out
  have h3 := ht'.out
  apply Array.toList_inj.1
  unfold spliceA spliceL kyC
  have e1 : (s.toList ++ t.toList ++ [Value.int .u64 n]).take 18 = s.toList := by rw [List.append_assoc, List.take_left' (by rw [Array.length_toList, h1])]
  have e2 : (s.toList ++ t.toList ++ [Value.int .u64 n]).drop (18 + 18) = [Value.int .u64 n] := List.drop_left' (by rw [List.length_append, Array.length_toList, Array.length_toList, h1, h2])
  simp only [Array.toList_append, Array.length_toList, h3]
  rw [e1, e2]
set_option maxRecDepth 20000 in
theorem ky_set (s t : Array Value) (n m : Int) [hs : SzA s 18] [ht : SzA t 18] : (kyC s t n).setIfInBounds 36 (.int .u64 m) = kyC s t m := by
  have h1 := hs.out
  have h2 := ht.out
  apply Array.toList_inj.1
  unfold kyC
  rw [Array.toList_setIfInBounds, Array.toList_append, List.set_append_right _ _ (by rw [Array.length_toList, Array.size_append, h1, h2]; exact Nat.le_refl _), Array.toList_append]
  simp [h1, h2]
set_option maxRecDepth 20000 in
theorem ky_cell (s t : Array Value) (n : Int) [hs : SzA s 18] [ht : SzA t 18] : (kyC s t n)[36]? = some (.int .u64 n) := by
  have h1 := hs.out
  have h2 := ht.out
  unfold kyC
  rw [Array.getElem?_append_right (by rw [Array.size_append, h1, h2]; exact Nat.le_refl _)]
  simp [h1, h2]
set_option maxRecDepth 20000 in
theorem loadF_key (v : Value) : Instr.loadAt 55 v = loadF 55 v := rfl
set_option maxRecDepth 20000 in
theorem storeF_ends (v x : Value) : Instr.storeAt 30 v x = storeF 30 v x := rfl
attribute [local go_sem] blk_cell' blk_frozen' dg_b dg_src dg_dst ky_splice0 ky_splice18 ky_set ky_cell
attribute [local go_sem ↓] loadF_dg loadF_ends loadF_key storeF_ends storeF_key buildF_flow buildF_key
attribute [local go_sem] run_loadFo run_loadF0 run_storeF0 run_storeFA run_build_flow run_build_key run_build_key0
set_option maxRecDepth 20000 in
set_option maxHeartbeats 8000000 in
theorem rkey_any (d : Dg) (p : Pk) (v u : Value) (W : World) (hv : DgV W d v) (kd : DgOk d) (hu : PkV W p u) :
    Calls Try.prog 15 #[v, u] W fun e w' => e = .returned (.tuple #[.agg (keyC d p.h), .bool (keyB p.h)]) ∧ Mo W w' := by
  obtain ⟨A, cap, rfl, -⟩ := hv
  obtain ⟨a1, c1, a2, c2, rfl, -, -⟩ := hu
  have za := sz_wide kd.at_
  have zs := sz_ends kd.src
  have zt := sz_ends kd.dst
  have oa := one_of_fits kd.at_
  have os := one_of_fits kd.src
  have ot := one_of_fits kd.dst
  clear kd
  obtain ⟨da, ds, dd, bs⟩ := d
  obtain ⟨ph, pe, pm⟩ := p
  simp only at za zs zt oa os ot ⊢
  generalize bs.length = n at *
  generalize pe.length = n1 at *
  generalize pm.length = n2 at *
  unfold keyC keyB
  by_cases m3 : ph.m = 3
  · have d1 : (ph.m == 3) = true := by simp [m3]
    have d2 : (ph.m == 4) = false := by simp [m3]
    rw [if_pos m3, decide_eq_true m3, Bool.true_or]
    clear m3
    go_enter Try.func15, Try.ntmps15
    go_upto_region 10 with (fail)
    go_region
    go_wp2_with fail
    refine ret_cell_tmp Try.results15 (W.heap.size + 2) (.agg (kyC ds dd ph.x)) rfl rfl (loadVar_flat _ (inferInstance : Blk _ (W.heap.size + 2) 55 _) (ky_size _ _ _).out) ?_
    exact ⟨rfl, Mor.out⟩
  · have d1 : (ph.m == 3) = false := by simp [m3]
    rw [if_neg m3, decide_eq_false m3, Bool.false_or]
    clear m3
    by_cases m4 : ph.m = 4
    · have d2 : (ph.m == 4) = true := by simp [m4]
      rw [if_pos m4, decide_eq_true m4]
      clear m4
      go_enter Try.func15, Try.ntmps15
      go_upto_region 10 with (fail)
      go_region
      go_wp2_with fail
      refine ret_cell_tmp Try.results15 (W.heap.size + 2) (.agg (kyC dd ds ph.o)) rfl rfl (loadVar_flat _ (inferInstance : Blk _ (W.heap.size + 2) 55 _) (ky_size _ _ _).out) ?_
      exact ⟨rfl, Mor.out⟩
    · have d2 : (ph.m == 4) = false := by simp [m4]
      rw [if_neg m4, decide_eq_false m4]
      clear m4
      go_enter Try.func15, Try.ntmps15
      go_upto_region 10 with (fail)
      go_region
      go_wp2_with fail
      refine ret_cell_tmp Try.results15 (W.heap.size + 2) (.agg (kyC en0 en0 0)) rfl rfl (loadVar_flat _ (inferInstance : Blk _ (W.heap.size + 2) 55 _) (ky_size _ _ _).out) ?_
      exact ⟨rfl, Mor.out⟩
end Go.Proofs.Ytofbhkodnijkjaa
