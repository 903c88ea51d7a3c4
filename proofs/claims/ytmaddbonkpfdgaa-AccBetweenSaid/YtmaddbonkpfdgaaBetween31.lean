/- horologelaw31.AccBetween returns true. -/
import Derived.Test.YtmaddbonkpfdgaaWorks31
namespace Go.Proofs.Ytmaddbonkpfdgaa
open Go.RowKit

theorem rootV_of_sq {d : Int} (h : 0 ≤ d) : rootV (d * d) = d :=
  root_uniq (rootV_is (Int.mul_nonneg h h)) ⟨h, Int.le_refl _, by simp only [Int.mul_add, Int.add_mul]; omega⟩
theorem spread_le {S : St} {m : Int} (h : Good S m) (hc : 0 < S.c) : 0 ≤ spreadS S ∧ spreadS S ≤ S.hi - S.lo := by
  refine ⟨rootV_nonneg _, ?_⟩
  have lh := h.lh
  rw [← rootV_of_sq (show 0 ≤ S.hi - S.lo by omega)]
  refine rootV_mono ?_
  obtain ⟨f0, f1⟩ := far_bd h hc
  have : farS S / S.c < (S.hi - S.lo) * (S.hi - S.lo) + 1 := Int.ediv_lt_of_lt_mul hc (by rw [Int.add_mul, Int.mul_comm]; omega)
  omega
theorem spread_two {S : St} {m : Int} (h : Good S m) (hc : S.c = 2) (d : 2 ≤ S.hi - S.lo) : spreadS S ≠ 0 := by
  obtain ⟨o1, o2⟩ := h.two hc
  have hm : meanS S = (S.lo + S.hi) / 2 := by unfold meanS; rw [o1, hc]
  have f : farS S = (S.lo - meanS S) * (S.lo - meanS S) + (S.hi - meanS S) * (S.hi - meanS S) := by
    unfold farS
    rw [o1, o2, hc]
    generalize meanS S = k
    simp only [Int.sub_mul, Int.mul_sub, Int.mul_add, Int.add_mul, Int.mul_comm k, Int.mul_assoc 2]
    rw [Int.mul_comm S.lo k, Int.mul_comm S.hi k]
    omega
  have a : 1 ≤ (S.lo - meanS S) * (S.lo - meanS S) := by
    rw [← Int.neg_mul_neg]
    have : 1 * 1 ≤ -(S.lo - meanS S) * -(S.lo - meanS S) := Int.mul_le_mul (by omega) (by omega) (by omega) (by omega)
    omega
  have b : 1 ≤ (S.hi - meanS S) * (S.hi - meanS S) := by
    have : 1 * 1 ≤ (S.hi - meanS S) * (S.hi - meanS S) := Int.mul_le_mul (by omega) (by omega) (by omega) (by omega)
    omega
  have g : 1 ≤ farS S / S.c := by rw [hc]; omega
  have r := rootV_is (show 0 ≤ farS S / S.c by omega)
  intro e
  unfold spreadS at e
  rw [e] at r
  have := r.2.2
  omega
theorem blk_cell {w : World} {g : Nat} {t : TypeId} {cs : Array Value} (h : Blk w g t cs) (i : Nat) : w.cell? ⟨g, i, none⟩ = cs[i]? := by
  unfold World.cell?
  rw [h.out]
  simp
theorem blk_setRow {w : World} {g : Nat} {t : TypeId} {cs cs' : Array Value} (h : Blk w g t cs) : Blk (w.setRow g cs') g t cs' := ⟨setRow_heap w g cs cs' t (0, 0) h.out⟩
def rowOf (cs : Array Value) : Obj → Obj
  | .cells _ elem frozen => .cells cs elem frozen
  | o => o
theorem mo_setRow {V W : World} (h : Mo V W) {g : Nat} (hg : V.heap.size ≤ g) (cs : Array Value) : Mo V (W.setRow g cs) := by
  obtain ⟨J, d, rfl⟩ := h
  refine ⟨J.modify (g - V.heap.size) (rowOf cs), d, ?_⟩
  have e : ((V.heap ++ J).modify g (rowOf cs)) = V.heap ++ J.modify (g - V.heap.size) (rowOf cs) := by
    generalize rowOf cs = f
    refine Array.ext_getElem? fun k => ?_
    rw [Array.getElem?_modify, Array.getElem?_append, Array.getElem?_append, Array.getElem?_modify]
    by_cases c : k < V.heap.size
    · rw [if_pos c, if_pos c, if_neg (show ¬ g = k by omega)]
    · rw [if_neg c, if_neg c]
      by_cases q : g = k
      · rw [if_pos q, if_pos (show g - V.heap.size = k - V.heap.size by omega)]
      · rw [if_neg q, if_neg (show ¬ g - V.heap.size = k - V.heap.size by omega)]
  show World.mk ((V.heap ++ J).modify g (rowOf cs)) _ _ _ _ = World.mk _ _ _ _ _
  rw [e]
  rfl
/-- all the facts of what is told, in the letters of the walk -/
theorem tv_facts {S : St} {m : Int} (h : Good S m) (c w lo hi mean sp : Int) (e1 : S.c = c) (e2 : S.w = w) (e3 : S.lo = lo) (e4 : S.hi = hi) (e5 : meanS S = mean) (e6 : spreadS S = sp) :
    0 ≤ c ∧ 0 ≤ w ∧ c + w = m ∧ (c = 0 → lo = 0 ∧ hi = 0 ∧ mean = 0 ∧ sp = 0) ∧ (0 < c → lo ≤ mean ∧ mean ≤ hi ∧ sp ≤ hi - lo ∧ (lo = hi → sp = 0)) ∧ (c = 2 → 2 ≤ hi - lo → sp ≠ 0) ∧ 0 ≤ hi - lo ∧ hi - lo ≤ 281474976710656 ∧ 0 ≤ sp := by
  subst e1 e2 e3 e4 e5 e6
  have a1 := h.lo
  have a2 := h.lh
  have a3 := h.hi
  refine ⟨h.c0, h.w0, h.cw, fun z => ?_, fun z => ?_, fun z d => spread_two h z d, by omega, by omega, rootV_nonneg _⟩
  · obtain ⟨z1, z2, z3, z4⟩ := h.z z
    exact ⟨z1, z2, by unfold meanS; rw [z, Int.ediv_zero], by unfold spreadS; rw [z, Int.ediv_zero, rootV_0]⟩
  · obtain ⟨b1, b2⟩ := mean_bd h z
    obtain ⟨b3, b4⟩ := spread_le h z
    exact ⟨b1, b2, b4, fun e => by omega⟩

set_option maxRecDepth 20000 in
set_option maxHeartbeats 8000000 in
theorem between_any (A : Option Addr) (l : List Int) (cap : Nat) (wild : Int) (W : World) (w1 : -9223372036854775808 ≤ wild) (w2 : wild ≤ 9223372036854775807)
    (hOf : l.length ≤ 200 → ∀ W', Mo W W' → Calls Try.prog 9 #[.slice A l.length cap] W' (OfRet l W')) :
    Calls Try.prog 5 #[.slice A l.length cap, .int .i64 wild] W fun e w' => e = .returned (.bool true) ∧ Mo W w' := by
  by_cases hl : 200 < l.length
  · go_enter Try.func5, Try.ntmps5
    go_wp2_with fail
    refine (works_any _).mono ?_; rintro e w1 ⟨rfl, J1, d1, rfl⟩
    go_wp2_with fail
    go_ret
    exact ⟨rfl, Mor.out⟩
  have hO := Lib.hid (hOf (by omega))
  clear hOf
  have hG := good_sum l
  obtain ⟨S, hS⟩ : ∃ S, sumL l = S := ⟨_, rfl⟩
  rw [hS] at hG
  obtain ⟨c, hc⟩ : ∃ x, S.c = x := ⟨_, rfl⟩
  obtain ⟨w, hw⟩ : ∃ x, S.w = x := ⟨_, rfl⟩
  obtain ⟨lo, hlo⟩ : ∃ x, S.lo = x := ⟨_, rfl⟩
  obtain ⟨hi, hhi⟩ : ∃ x, S.hi = x := ⟨_, rfl⟩
  obtain ⟨mean, hmean⟩ : ∃ x, meanS S = x := ⟨_, rfl⟩
  obtain ⟨sp, hsp⟩ : ∃ x, spreadS S = x := ⟨_, rfl⟩
  have TF := tv_facts hG c w lo hi mean sp hc hw hlo hhi hmean hsp
  obtain ⟨t1, t2, t3, t4, t5, t6, t7, t8, t9⟩ := TF
  have T1 : Hid (∀ (p : Nat) (W' : World), Blk W' p 39 (accC true S) → Calls Try.prog 11 #[.pointer (some ⟨p, 0, none⟩)] W' fun e w' => e = .returned (.agg #[.int .i64 c, .int .i64 w, .int .i64 lo, .int .i64 hi, .int .i64 mean, .int .u64 sp]) ∧ Mo W' w') := Lib.hid (fun p W' hB => by
    have := told_acc p true S _ W' hB hG (by omega)
    unfold TV at this
    rwa [hc, hw, hlo, hhi, hmean, hsp] at this)
  obtain ⟨n, hn⟩ : ∃ n : Nat, l.length = n := ⟨_, rfl⟩
  have AD : Hid (¬ Tame wild → ∀ (p : Nat) (W' : World), Blk W' p 39 (accC true S) → ∃ cs, (∀ (W' : World), Blk W' p 39 cs → Calls Try.prog 11 #[.pointer (some ⟨p, 0, none⟩)] W' fun e w' => e = .returned (.agg #[.int .i64 c, .int .i64 (w + 1), .int .i64 lo, .int .i64 hi, .int .i64 mean, .int .u64 sp]) ∧ Mo W' w') ∧ Calls Try.prog 10 #[.pointer (some ⟨p, 0, none⟩), .int .i64 wild] W' fun e w' => e = .returned (.tuple #[]) ∧ Mo (W'.setRow p cs) w') := Lib.hid (fun ht p W' hB => by
    have ga := hG.add wild
    have ea : addN S wild = ⟨S.c, S.w + 1, S.lo, S.hi, S.s, S.q⟩ := by unfold addN; rw [if_neg ht]
    refine ⟨accC true (addN S wild), fun W2 hB2 => ?_, add_acc p S wild _ W' hB hG (by omega)⟩
    have := told_acc p true (addN S wild) _ W2 hB2 ga (by omega)
    rw [ea] at this
    have m1 : meanS ⟨S.c, S.w + 1, S.lo, S.hi, S.s, S.q⟩ = mean := by rw [← hmean]; rfl
    have m2 : spreadS ⟨S.c, S.w + 1, S.lo, S.hi, S.s, S.q⟩ = sp := by rw [← hsp]; rfl
    unfold TV at this
    rw [m1, m2] at this
    simp only [hc, hw, hlo, hhi] at this
    exact this)
  have OR : ∀ W' e w', OfRet l W' e w' → ∃ p, e = .returned (.pointer (some ⟨p, 0, none⟩)) ∧ W'.heap.size ≤ p ∧ Blk w' p 39 (accC true S) ∧ Mo W' w' := fun W' e w' h => by
    obtain ⟨p, h1, h2, h3, h4⟩ := h
    rw [hS] at h3
    exact ⟨p, h1, h2, h3, h4⟩
  have OR' := Lib.hid OR
  rw [hn] at hl t3 hO ⊢
  clear OR hG hS hc hw hlo hhi hmean hsp hn
  go_enter Try.func5, Try.ntmps5
  go_wp2_with fail
  refine (hO.out _ (Mo.refl _)).mono ?_
  intro e w3 hr
  obtain ⟨p, rfl, hp, hB, hM⟩ := OR'.out _ _ _ hr
  clear hr OR'
  go_wp2_with fail
  refine (T1.out p _ hB).mono ?_; rintro e w1 ⟨rfl, J1, d1, rfl⟩
  have hk : c = 0 ∨ (0 < c ∧ c ≠ 2 ∧ lo = hi) ∨ (0 < c ∧ c ≠ 2 ∧ lo < hi) ∨ (c = 2 ∧ lo = hi) ∨ (c = 2 ∧ lo < hi ∧ hi - lo < 2) ∨ (c = 2 ∧ lo < hi ∧ 2 ≤ hi - lo) := by omega
  rcases hk with hc | ⟨c1, c2, e⟩ | ⟨c1, c2, e⟩ | ⟨rfl, e⟩ | ⟨rfl, e, e'⟩ | ⟨rfl, e, e'⟩
  · subst hc
    obtain ⟨rfl, rfl, rfl, rfl⟩ := t4 rfl
    obtain rfl : w = (n : Int) := by omega
    clear t1 t2 t3 t4 t5 t6 t7 t8 t9
    have hx : (-140737488355328 ≤ wild ∧ wild ≤ 140737488355328) ∨ wild < -140737488355328 ∨ (-140737488355328 ≤ wild ∧ 140737488355328 < wild) := by omega
    rcases hx with ⟨x1, x2⟩ | x1 | ⟨x1, x2⟩
    · go_wp2_with fail
      refine (works_any _).mono ?_; rintro e w1 ⟨rfl, J2, d2, rfl⟩
      go_wp2_with fail
      go_ret
      exact ⟨rfl, hM.trans Mor.out⟩
    · skip
      obtain ⟨cs, TC, AC⟩ := AD.out (fun h => by have := h.1; have := h.2; omega) p _ (by infer_instance : Blk ((more w3 J1 d1).alloc (.cells #[.int .i64 0, .int .i64 n, .int .i64 0, .int .i64 0, .int .i64 0, .int .u64 0] 29)) p 39 (accC true S))
      simp only [setRow_alloc_past, setRow_more] at AC
      replace TC := Lib.hid TC
      replace AC := Lib.hid AC
      have hz : (w3.setRow p cs).heap.size = w3.heap.size := setRow_size w3 p cs
      have Bz : Blk (w3.setRow p cs) p 39 cs := blk_setRow hB
      have Mz : Mo W (w3.setRow p cs) := mo_setRow hM hp cs
      generalize w3.setRow p cs = z at *
      clear hM hB AD T1
      go_wp2_with fail
      refine AC.out.mono ?_; rintro e w1 ⟨rfl, J3, d3, rfl⟩
      rw [← hz]
      clear hz AC
      go_wp2_with fail
      refine wp_region_mo' (by kernel_rfl) (by kernel_rfl) ?_
      repeat (go_big_quiet_step (first | (with_reducible exact quiet_mo (TC.out _ (by infer_instance))) | (with_reducible exact quiet_mo (works_any _))))
      refine wpQuiet_nil ?_
      intro _ hw'
      obtain ⟨⟨J9, d9⟩, hw''⟩ := hw'
      subst hw''
      go_wp2_with fail
      go_ret
      exact ⟨rfl, Mz.trans Mor.out⟩
    · skip
      obtain ⟨cs, TC, AC⟩ := AD.out (fun h => by have := h.1; have := h.2; omega) p _ (by infer_instance : Blk ((more w3 J1 d1).alloc (.cells #[.int .i64 0, .int .i64 n, .int .i64 0, .int .i64 0, .int .i64 0, .int .u64 0] 29)) p 39 (accC true S))
      simp only [setRow_alloc_past, setRow_more] at AC
      replace TC := Lib.hid TC
      replace AC := Lib.hid AC
      have hz : (w3.setRow p cs).heap.size = w3.heap.size := setRow_size w3 p cs
      have Bz : Blk (w3.setRow p cs) p 39 cs := blk_setRow hB
      have Mz : Mo W (w3.setRow p cs) := mo_setRow hM hp cs
      generalize w3.setRow p cs = z at *
      clear hM hB AD T1
      go_wp2_with fail
      refine AC.out.mono ?_; rintro e w1 ⟨rfl, J3, d3, rfl⟩
      rw [← hz]
      clear hz AC
      go_wp2_with fail
      refine wp_region_mo' (by kernel_rfl) (by kernel_rfl) ?_
      repeat (go_big_quiet_step (first | (with_reducible exact quiet_mo (TC.out _ (by infer_instance))) | (with_reducible exact quiet_mo (works_any _))))
      refine wpQuiet_nil ?_
      intro _ hw'
      obtain ⟨⟨J9, d9⟩, hw''⟩ := hw'
      subst hw''
      go_wp2_with fail
      go_ret
      exact ⟨rfl, Mz.trans Mor.out⟩
  · obtain ⟨u1, u2, u3, u4⟩ := t5 c1
    obtain rfl : w = (n : Int) - c := by omega
    subst e
    obtain rfl := u4 rfl
    obtain rfl : lo = mean := by omega
    clear t3 t4 t5 t6 u4
    have hx : (-140737488355328 ≤ wild ∧ wild ≤ 140737488355328) ∨ wild < -140737488355328 ∨ (-140737488355328 ≤ wild ∧ 140737488355328 < wild) := by omega
    rcases hx with ⟨x1, x2⟩ | x1 | ⟨x1, x2⟩
    · go_wp2_with fail
      refine (works_any _).mono ?_; rintro e w1 ⟨rfl, J2, d2, rfl⟩
      go_wp2_with fail
      go_ret
      exact ⟨rfl, hM.trans Mor.out⟩
    · skip
      obtain ⟨cs, TC, AC⟩ := AD.out (fun h => by have := h.1; have := h.2; omega) p _ (by infer_instance : Blk ((more w3 J1 d1).alloc (.cells #[.int .i64 c, .int .i64 (n - c), .int .i64 lo, .int .i64 lo, .int .i64 lo, .int .u64 0] 29)) p 39 (accC true S))
      simp only [setRow_alloc_past, setRow_more] at AC
      replace TC := Lib.hid TC
      replace AC := Lib.hid AC
      have hz : (w3.setRow p cs).heap.size = w3.heap.size := setRow_size w3 p cs
      have Bz : Blk (w3.setRow p cs) p 39 cs := blk_setRow hB
      have Mz : Mo W (w3.setRow p cs) := mo_setRow hM hp cs
      generalize w3.setRow p cs = z at *
      clear hM hB AD T1
      go_wp2_with fail
      refine AC.out.mono ?_; rintro e w1 ⟨rfl, J3, d3, rfl⟩
      rw [← hz]
      clear hz AC
      go_wp2_with fail
      refine wp_region_mo' (by kernel_rfl) (by kernel_rfl) ?_
      repeat (go_big_quiet_step (first | (with_reducible exact quiet_mo (TC.out _ (by infer_instance))) | (with_reducible exact quiet_mo (works_any _))))
      refine wpQuiet_nil ?_
      intro _ hw'
      obtain ⟨⟨J9, d9⟩, hw''⟩ := hw'
      subst hw''
      go_wp2_with fail
      go_ret
      exact ⟨rfl, Mz.trans Mor.out⟩
    · skip
      obtain ⟨cs, TC, AC⟩ := AD.out (fun h => by have := h.1; have := h.2; omega) p _ (by infer_instance : Blk ((more w3 J1 d1).alloc (.cells #[.int .i64 c, .int .i64 (n - c), .int .i64 lo, .int .i64 lo, .int .i64 lo, .int .u64 0] 29)) p 39 (accC true S))
      simp only [setRow_alloc_past, setRow_more] at AC
      replace TC := Lib.hid TC
      replace AC := Lib.hid AC
      have hz : (w3.setRow p cs).heap.size = w3.heap.size := setRow_size w3 p cs
      have Bz : Blk (w3.setRow p cs) p 39 cs := blk_setRow hB
      have Mz : Mo W (w3.setRow p cs) := mo_setRow hM hp cs
      generalize w3.setRow p cs = z at *
      clear hM hB AD T1
      go_wp2_with fail
      refine AC.out.mono ?_; rintro e w1 ⟨rfl, J3, d3, rfl⟩
      rw [← hz]
      clear hz AC
      go_wp2_with fail
      refine wp_region_mo' (by kernel_rfl) (by kernel_rfl) ?_
      repeat (go_big_quiet_step (first | (with_reducible exact quiet_mo (TC.out _ (by infer_instance))) | (with_reducible exact quiet_mo (works_any _))))
      refine wpQuiet_nil ?_
      intro _ hw'
      obtain ⟨⟨J9, d9⟩, hw''⟩ := hw'
      subst hw''
      go_wp2_with fail
      go_ret
      exact ⟨rfl, Mz.trans Mor.out⟩
  · obtain ⟨u1, u2, u3, u4⟩ := t5 c1
    obtain rfl : w = (n : Int) - c := by omega
    have en : ¬ lo = hi := by omega
    clear t3 t4 t5 t6 u4
    have hx : (-140737488355328 ≤ wild ∧ wild ≤ 140737488355328) ∨ wild < -140737488355328 ∨ (-140737488355328 ≤ wild ∧ 140737488355328 < wild) := by omega
    rcases hx with ⟨x1, x2⟩ | x1 | ⟨x1, x2⟩
    · go_wp2_with fail
      refine (works_any _).mono ?_; rintro e w1 ⟨rfl, J2, d2, rfl⟩
      go_wp2_with fail
      go_ret
      exact ⟨rfl, hM.trans Mor.out⟩
    · skip
      obtain ⟨cs, TC, AC⟩ := AD.out (fun h => by have := h.1; have := h.2; omega) p _ (by infer_instance : Blk ((more w3 J1 d1).alloc (.cells #[.int .i64 c, .int .i64 (n - c), .int .i64 lo, .int .i64 hi, .int .i64 mean, .int .u64 sp] 29)) p 39 (accC true S))
      simp only [setRow_alloc_past, setRow_more] at AC
      replace TC := Lib.hid TC
      replace AC := Lib.hid AC
      have hz : (w3.setRow p cs).heap.size = w3.heap.size := setRow_size w3 p cs
      have Bz : Blk (w3.setRow p cs) p 39 cs := blk_setRow hB
      have Mz : Mo W (w3.setRow p cs) := mo_setRow hM hp cs
      generalize w3.setRow p cs = z at *
      clear hM hB AD T1
      go_wp2_with fail
      refine AC.out.mono ?_; rintro e w1 ⟨rfl, J3, d3, rfl⟩
      rw [← hz]
      clear hz AC
      go_wp2_with fail
      refine wp_region_mo' (by kernel_rfl) (by kernel_rfl) ?_
      repeat (go_big_quiet_step (first | (with_reducible exact quiet_mo (TC.out _ (by infer_instance))) | (with_reducible exact quiet_mo (works_any _))))
      refine wpQuiet_nil ?_
      intro _ hw'
      obtain ⟨⟨J9, d9⟩, hw''⟩ := hw'
      subst hw''
      go_wp2_with fail
      go_ret
      exact ⟨rfl, Mz.trans Mor.out⟩
    · skip
      obtain ⟨cs, TC, AC⟩ := AD.out (fun h => by have := h.1; have := h.2; omega) p _ (by infer_instance : Blk ((more w3 J1 d1).alloc (.cells #[.int .i64 c, .int .i64 (n - c), .int .i64 lo, .int .i64 hi, .int .i64 mean, .int .u64 sp] 29)) p 39 (accC true S))
      simp only [setRow_alloc_past, setRow_more] at AC
      replace TC := Lib.hid TC
      replace AC := Lib.hid AC
      have hz : (w3.setRow p cs).heap.size = w3.heap.size := setRow_size w3 p cs
      have Bz : Blk (w3.setRow p cs) p 39 cs := blk_setRow hB
      have Mz : Mo W (w3.setRow p cs) := mo_setRow hM hp cs
      generalize w3.setRow p cs = z at *
      clear hM hB AD T1
      go_wp2_with fail
      refine AC.out.mono ?_; rintro e w1 ⟨rfl, J3, d3, rfl⟩
      rw [← hz]
      clear hz AC
      go_wp2_with fail
      refine wp_region_mo' (by kernel_rfl) (by kernel_rfl) ?_
      repeat (go_big_quiet_step (first | (with_reducible exact quiet_mo (TC.out _ (by infer_instance))) | (with_reducible exact quiet_mo (works_any _))))
      refine wpQuiet_nil ?_
      intro _ hw'
      obtain ⟨⟨J9, d9⟩, hw''⟩ := hw'
      subst hw''
      go_wp2_with fail
      go_ret
      exact ⟨rfl, Mz.trans Mor.out⟩
  · obtain ⟨u1, u2, u3, u4⟩ := t5 (by omega)
    obtain rfl : w = (n : Int) - 2 := by omega
    subst e
    obtain rfl := u4 rfl
    obtain rfl : lo = mean := by omega
    clear t3 t4 t5 t6 u4
    have hx : (-140737488355328 ≤ wild ∧ wild ≤ 140737488355328) ∨ wild < -140737488355328 ∨ (-140737488355328 ≤ wild ∧ 140737488355328 < wild) := by omega
    rcases hx with ⟨x1, x2⟩ | x1 | ⟨x1, x2⟩
    · go_wp2_with fail
      refine (works_any _).mono ?_; rintro e w1 ⟨rfl, J2, d2, rfl⟩
      go_wp2_with fail
      go_ret
      exact ⟨rfl, hM.trans Mor.out⟩
    · skip
      obtain ⟨cs, TC, AC⟩ := AD.out (fun h => by have := h.1; have := h.2; omega) p _ (by infer_instance : Blk ((more w3 J1 d1).alloc (.cells #[.int .i64 2, .int .i64 (n - 2), .int .i64 lo, .int .i64 lo, .int .i64 lo, .int .u64 0] 29)) p 39 (accC true S))
      simp only [setRow_alloc_past, setRow_more] at AC
      replace TC := Lib.hid TC
      replace AC := Lib.hid AC
      have hz : (w3.setRow p cs).heap.size = w3.heap.size := setRow_size w3 p cs
      have Bz : Blk (w3.setRow p cs) p 39 cs := blk_setRow hB
      have Mz : Mo W (w3.setRow p cs) := mo_setRow hM hp cs
      generalize w3.setRow p cs = z at *
      clear hM hB AD T1
      go_wp2_with fail
      refine AC.out.mono ?_; rintro e w1 ⟨rfl, J3, d3, rfl⟩
      rw [← hz]
      clear hz AC
      go_wp2_with fail
      refine wp_region_mo' (by kernel_rfl) (by kernel_rfl) ?_
      repeat (go_big_quiet_step (first | (with_reducible exact quiet_mo (TC.out _ (by infer_instance))) | (with_reducible exact quiet_mo (works_any _))))
      refine wpQuiet_nil ?_
      intro _ hw'
      obtain ⟨⟨J9, d9⟩, hw''⟩ := hw'
      subst hw''
      go_wp2_with fail
      go_ret
      exact ⟨rfl, Mz.trans Mor.out⟩
    · skip
      obtain ⟨cs, TC, AC⟩ := AD.out (fun h => by have := h.1; have := h.2; omega) p _ (by infer_instance : Blk ((more w3 J1 d1).alloc (.cells #[.int .i64 2, .int .i64 (n - 2), .int .i64 lo, .int .i64 lo, .int .i64 lo, .int .u64 0] 29)) p 39 (accC true S))
      simp only [setRow_alloc_past, setRow_more] at AC
      replace TC := Lib.hid TC
      replace AC := Lib.hid AC
      have hz : (w3.setRow p cs).heap.size = w3.heap.size := setRow_size w3 p cs
      have Bz : Blk (w3.setRow p cs) p 39 cs := blk_setRow hB
      have Mz : Mo W (w3.setRow p cs) := mo_setRow hM hp cs
      generalize w3.setRow p cs = z at *
      clear hM hB AD T1
      go_wp2_with fail
      refine AC.out.mono ?_; rintro e w1 ⟨rfl, J3, d3, rfl⟩
      rw [← hz]
      clear hz AC
      go_wp2_with fail
      refine wp_region_mo' (by kernel_rfl) (by kernel_rfl) ?_
      repeat (go_big_quiet_step (first | (with_reducible exact quiet_mo (TC.out _ (by infer_instance))) | (with_reducible exact quiet_mo (works_any _))))
      refine wpQuiet_nil ?_
      intro _ hw'
      obtain ⟨⟨J9, d9⟩, hw''⟩ := hw'
      subst hw''
      go_wp2_with fail
      go_ret
      exact ⟨rfl, Mz.trans Mor.out⟩
  · obtain ⟨u1, u2, u3, u4⟩ := t5 (by omega)
    obtain rfl : w = (n : Int) - 2 := by omega
    have en : ¬ lo = hi := by omega
    clear t3 t4 t5 t6 u4
    have hx : (-140737488355328 ≤ wild ∧ wild ≤ 140737488355328) ∨ wild < -140737488355328 ∨ (-140737488355328 ≤ wild ∧ 140737488355328 < wild) := by omega
    rcases hx with ⟨x1, x2⟩ | x1 | ⟨x1, x2⟩
    · go_wp2_with fail
      refine (works_any _).mono ?_; rintro e w1 ⟨rfl, J2, d2, rfl⟩
      go_wp2_with fail
      go_ret
      exact ⟨rfl, hM.trans Mor.out⟩
    · skip
      obtain ⟨cs, TC, AC⟩ := AD.out (fun h => by have := h.1; have := h.2; omega) p _ (by infer_instance : Blk ((more w3 J1 d1).alloc (.cells #[.int .i64 2, .int .i64 (n - 2), .int .i64 lo, .int .i64 hi, .int .i64 mean, .int .u64 sp] 29)) p 39 (accC true S))
      simp only [setRow_alloc_past, setRow_more] at AC
      replace TC := Lib.hid TC
      replace AC := Lib.hid AC
      have hz : (w3.setRow p cs).heap.size = w3.heap.size := setRow_size w3 p cs
      have Bz : Blk (w3.setRow p cs) p 39 cs := blk_setRow hB
      have Mz : Mo W (w3.setRow p cs) := mo_setRow hM hp cs
      generalize w3.setRow p cs = z at *
      clear hM hB AD T1
      go_wp2_with fail
      refine AC.out.mono ?_; rintro e w1 ⟨rfl, J3, d3, rfl⟩
      rw [← hz]
      clear hz AC
      go_wp2_with fail
      refine wp_region_mo' (by kernel_rfl) (by kernel_rfl) ?_
      repeat (go_big_quiet_step (first | (with_reducible exact quiet_mo (TC.out _ (by infer_instance))) | (with_reducible exact quiet_mo (works_any _))))
      refine wpQuiet_nil ?_
      intro _ hw'
      obtain ⟨⟨J9, d9⟩, hw''⟩ := hw'
      subst hw''
      go_wp2_with fail
      go_ret
      exact ⟨rfl, Mz.trans Mor.out⟩
    · skip
      obtain ⟨cs, TC, AC⟩ := AD.out (fun h => by have := h.1; have := h.2; omega) p _ (by infer_instance : Blk ((more w3 J1 d1).alloc (.cells #[.int .i64 2, .int .i64 (n - 2), .int .i64 lo, .int .i64 hi, .int .i64 mean, .int .u64 sp] 29)) p 39 (accC true S))
      simp only [setRow_alloc_past, setRow_more] at AC
      replace TC := Lib.hid TC
      replace AC := Lib.hid AC
      have hz : (w3.setRow p cs).heap.size = w3.heap.size := setRow_size w3 p cs
      have Bz : Blk (w3.setRow p cs) p 39 cs := blk_setRow hB
      have Mz : Mo W (w3.setRow p cs) := mo_setRow hM hp cs
      generalize w3.setRow p cs = z at *
      clear hM hB AD T1
      go_wp2_with fail
      refine AC.out.mono ?_; rintro e w1 ⟨rfl, J3, d3, rfl⟩
      rw [← hz]
      clear hz AC
      go_wp2_with fail
      refine wp_region_mo' (by kernel_rfl) (by kernel_rfl) ?_
      repeat (go_big_quiet_step (first | (with_reducible exact quiet_mo (TC.out _ (by infer_instance))) | (with_reducible exact quiet_mo (works_any _))))
      refine wpQuiet_nil ?_
      intro _ hw'
      obtain ⟨⟨J9, d9⟩, hw''⟩ := hw'
      subst hw''
      go_wp2_with fail
      go_ret
      exact ⟨rfl, Mz.trans Mor.out⟩
  · obtain ⟨u1, u2, u3, u4⟩ := t5 (by omega)
    obtain rfl : w = (n : Int) - 2 := by omega
    have en : ¬ lo = hi := by omega
    have sn : ¬ sp = 0 := t6 rfl e'
    clear t3 t4 t5 t6 u4
    have hx : (-140737488355328 ≤ wild ∧ wild ≤ 140737488355328) ∨ wild < -140737488355328 ∨ (-140737488355328 ≤ wild ∧ 140737488355328 < wild) := by omega
    rcases hx with ⟨x1, x2⟩ | x1 | ⟨x1, x2⟩
    · go_wp2_with fail
      refine (works_any _).mono ?_; rintro e w1 ⟨rfl, J2, d2, rfl⟩
      go_wp2_with fail
      go_ret
      exact ⟨rfl, hM.trans Mor.out⟩
    · skip
      obtain ⟨cs, TC, AC⟩ := AD.out (fun h => by have := h.1; have := h.2; omega) p _ (by infer_instance : Blk ((more w3 J1 d1).alloc (.cells #[.int .i64 2, .int .i64 (n - 2), .int .i64 lo, .int .i64 hi, .int .i64 mean, .int .u64 sp] 29)) p 39 (accC true S))
      simp only [setRow_alloc_past, setRow_more] at AC
      replace TC := Lib.hid TC
      replace AC := Lib.hid AC
      have hz : (w3.setRow p cs).heap.size = w3.heap.size := setRow_size w3 p cs
      have Bz : Blk (w3.setRow p cs) p 39 cs := blk_setRow hB
      have Mz : Mo W (w3.setRow p cs) := mo_setRow hM hp cs
      generalize w3.setRow p cs = z at *
      clear hM hB AD T1
      go_wp2_with fail
      refine AC.out.mono ?_; rintro e w1 ⟨rfl, J3, d3, rfl⟩
      rw [← hz]
      clear hz AC
      go_wp2_with fail
      refine wp_region_mo' (by kernel_rfl) (by kernel_rfl) ?_
      repeat (go_big_quiet_step (first | (with_reducible exact quiet_mo (TC.out _ (by infer_instance))) | (with_reducible exact quiet_mo (works_any _))))
      refine wpQuiet_nil ?_
      intro _ hw'
      obtain ⟨⟨J9, d9⟩, hw''⟩ := hw'
      subst hw''
      go_wp2_with fail
      go_ret
      exact ⟨rfl, Mz.trans Mor.out⟩
    · skip
      obtain ⟨cs, TC, AC⟩ := AD.out (fun h => by have := h.1; have := h.2; omega) p _ (by infer_instance : Blk ((more w3 J1 d1).alloc (.cells #[.int .i64 2, .int .i64 (n - 2), .int .i64 lo, .int .i64 hi, .int .i64 mean, .int .u64 sp] 29)) p 39 (accC true S))
      simp only [setRow_alloc_past, setRow_more] at AC
      replace TC := Lib.hid TC
      replace AC := Lib.hid AC
      have hz : (w3.setRow p cs).heap.size = w3.heap.size := setRow_size w3 p cs
      have Bz : Blk (w3.setRow p cs) p 39 cs := blk_setRow hB
      have Mz : Mo W (w3.setRow p cs) := mo_setRow hM hp cs
      generalize w3.setRow p cs = z at *
      clear hM hB AD T1
      go_wp2_with fail
      refine AC.out.mono ?_; rintro e w1 ⟨rfl, J3, d3, rfl⟩
      rw [← hz]
      clear hz AC
      go_wp2_with fail
      refine wp_region_mo' (by kernel_rfl) (by kernel_rfl) ?_
      repeat (go_big_quiet_step (first | (with_reducible exact quiet_mo (TC.out _ (by infer_instance))) | (with_reducible exact quiet_mo (works_any _))))
      refine wpQuiet_nil ?_
      intro _ hw'
      obtain ⟨⟨J9, d9⟩, hw''⟩ := hw'
      subst hw''
      go_wp2_with fail
      go_ret
      exact ⟨rfl, Mz.trans Mor.out⟩
end Go.Proofs.Ytmaddbonkpfdgaa
