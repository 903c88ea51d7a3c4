/- Written by gen/bundle36.py: Acc, Acc2, Works31, Acc4 in one text. -/
import Derived.Test.YthgkhllkhhnlpaaWideS
import Derived.Test.YthgkhllkhhnlpaaBlkS
import Derived.Test.YthgkhllkhhnlpaaDivS
/- acc: of, joined, Add, Of, Told: what they do, in integers. -/
namespace Go.Proofs.Ythgkhllkhhnlpaa
open Go.RowKit

abbrev SV (S : St) : Value := .agg #[.int .i64 S.c, .int .i64 S.w, .int .i64 S.lo, .int .i64 S.hi, .int .i64 (hiW S.s), .int .u64 (loW S.s), .int .i64 (hiW S.q), .int .u64 (loW S.q)]
abbrev accC (b : Bool) (S : St) : Array Value := #[.bool b, .int .i64 S.c, .int .i64 S.w, .int .i64 S.lo, .int .i64 S.hi, .int .i64 (hiW S.s), .int .u64 (loW S.s), .int .i64 (hiW S.q), .int .u64 (loW S.q)]

set_option maxRecDepth 20000 in
set_option maxHeartbeats 400000 in
theorem of_acc (p : Nat) (b : Bool) (S : St) (W : World) (hB : Blk W p 136 (accC b S)) :
    Calls Try.prog 59 #[.pointer (some ⟨p, 0, none⟩)] W fun e w' => e = .returned (SV S) ∧ Mo W w' := by
  obtain ⟨V, J, d, rfl, rfl⟩ := blk_world hB
  clear hB
  obtain ⟨c, w, lo, hi, s, q⟩ := S
  go_enter Try.func59, Try.ntmps59
  go_wp2_with fail
  exact bodyPost_ret (v := SV ⟨c, w, lo, hi, s, q⟩) (by simp [results, Try.results59, go_sem]) rfl ⟨rfl, Mor.out⟩
set_option maxRecDepth 20000 in
set_option maxHeartbeats 400000 in
theorem of_nil (W : World) :
    Calls Try.prog 59 #[.pointer none] W fun e w' => e = .returned (SV st0) ∧ Mo W w' := by
  have e1 : hiW 0 = 0 := by decide
  have e2 : loW 0 = 0 := by decide
  go_enter Try.func59, Try.ntmps59
  go_wp2_with fail
  exact bodyPost_ret (v := SV st0) (by simp [results, Try.results59, go_sem, st0, e1, e2]) rfl ⟨rfl, Mor.out⟩

set_option maxRecDepth 20000 in
theorem min_I (x y : Int) : min x y = minI x y := by unfold minI; split <;> omega
set_option maxRecDepth 20000 in
theorem max_I (x y : Int) : max x y = maxI x y := by unfold maxI; split <;> omega
set_option maxRecDepth 20000 in
theorem joined_left (a b : St) (hc : a.c = 0) (w1 : 0 ≤ b.w + a.w) (w2 : b.w + a.w ≤ 9223372036854775807) (W : World) :
    Calls Try.prog 50 #[SV a, SV b] W fun e w' => e = .returned (SV ⟨b.c, b.w + a.w, b.lo, b.hi, b.s, b.q⟩) ∧ Mo W w' := by
  obtain ⟨c, w, lo, hi, s, q⟩ := a
  obtain ⟨c', w', lo', hi', s', q'⟩ := b
  simp only at hc w1 w2
  subst hc
  go_enter Try.func50, Try.ntmps50
  go_wp2_with fail
  exact bodyPost_ret (v := SV ⟨c', w' + w, lo', hi', s', q'⟩) (by simp [results, Try.results50, go_sem]) rfl ⟨rfl, Mor.out⟩
set_option maxRecDepth 20000 in
theorem joined_right (a b : St) (hc : a.c ≠ 0) (hb : b.c = 0) (w1 : 0 ≤ a.w + b.w) (w2 : a.w + b.w ≤ 9223372036854775807) (W : World) :
    Calls Try.prog 50 #[SV a, SV b] W fun e w' => e = .returned (SV ⟨a.c, a.w + b.w, a.lo, a.hi, a.s, a.q⟩) ∧ Mo W w' := by
  obtain ⟨c, w, lo, hi, s, q⟩ := a
  obtain ⟨c', w', lo', hi', s', q'⟩ := b
  simp only at hc hb w1 w2
  subst hb
  go_enter Try.func50, Try.ntmps50
  go_wp2_with fail
  exact bodyPost_ret (v := SV ⟨c, w + w', lo, hi, s, q⟩) (by simp [results, Try.results50, go_sem]) rfl ⟨rfl, Mor.out⟩
set_option maxRecDepth 20000 in
set_option maxHeartbeats 1000000 in
theorem joined_both (a b : St) (hc : a.c ≠ 0) (hb : b.c ≠ 0) (w1 : 0 ≤ a.w + b.w) (w2 : a.w + b.w ≤ 9223372036854775807) (c1 : 0 ≤ a.c + b.c) (c2 : a.c + b.c ≤ 9223372036854775807)
    (i1 : InW a.s) (i2 : InW b.s) (i3 : InW (a.s + b.s)) (i4 : InW a.q) (i5 : InW b.q) (i6 : InW (a.q + b.q)) (W : World) :
    Calls Try.prog 50 #[SV a, SV b] W fun e w' => e = .returned (SV ⟨a.c + b.c, a.w + b.w, minI a.lo b.lo, maxI a.hi b.hi, a.s + b.s, a.q + b.q⟩) ∧ Mo W w' := by
  obtain ⟨c, w, lo, hi, s, q⟩ := a
  obtain ⟨c', w', lo', hi', s', q'⟩ := b
  simp only at hc hb w1 w2 c1 c2 i1 i2 i3 i4 i5 i6
  have A1 : Hid (∀ W, Calls Try.prog 77 #[WV s, WV s'] W fun e w' => e = .returned (WV (s + s')) ∧ Mo W w') := Lib.hid (fun W => by
    have := add_any s s' i1 i2 W
    rwa [cl_in i3] at this)
  have A2 : Hid (∀ W, Calls Try.prog 77 #[WV q, WV q'] W fun e w' => e = .returned (WV (q + q')) ∧ Mo W w') := Lib.hid (fun W => by
    have := add_any q q' i4 i5 W
    rwa [cl_in i6] at this)
  clear i1 i2 i3 i4 i5 i6
  go_enter Try.func50, Try.ntmps50
  go_upto_region 7 with (fail)
  refine wp_region_mo_tail 31 (by kernel_rfl) (by kernel_rfl) ?_
  simp only [List.take_succ_cons, List.take_zero, List.drop_succ_cons, List.drop_zero]
  repeat (go_big_quiet_step (first | (with_reducible exact quiet_mo (A1.out _)) | (with_reducible exact quiet_mo (A2.out _))))
  refine wpQuiet_nil ?_
  intro _ hw'
  obtain ⟨⟨J2, d2⟩, hw''⟩ := hw'
  subst hw''
  go_wp2_with fail
  exact bodyPost_ret (v := SV ⟨c + c', w + w', minI lo lo', maxI hi hi', s + s', q + q'⟩) (by simp [results, Try.results50, go_sem, min_I, max_I]) rfl ⟨rfl, Mor.out⟩

set_option maxRecDepth 20000 in
theorem mo_more (A : World) (J J' : Array Obj) (d d' : Nat) : Mo (more A J d) (more A (J ++ J') d') := ⟨J', d', by rw [more_more]⟩
set_option maxRecDepth 20000 in
theorem bd_in {x B : Int} (h1 : -B ≤ x) (h2 : x ≤ B) (h : B ≤ 170141183460469231731687303715884105727) : InW x := by unfold InW; omega
set_option maxRecDepth 20000 in
/-- sums of at most 2^31 numbers are wide numbers -/
theorem Good.sIn {S : St} {m : Int} (h : Good S m) (hm : m ≤ 2147483648) : -302231454903657293676544 ≤ S.s ∧ S.s ≤ 302231454903657293676544 := by
  have a := h.c0
  have b := h.cw
  have w := h.w0
  have p1 : S.c * (-140737488355328) ≤ S.c * S.lo := Int.mul_le_mul_of_nonneg_left h.lo a
  have p2 : S.c * S.hi ≤ S.c * 140737488355328 := Int.mul_le_mul_of_nonneg_left h.hi a
  have := h.s1
  have := h.s2
  omega
set_option maxRecDepth 20000 in
theorem Good.qIn {S : St} {m : Int} (h : Good S m) (hm : m ≤ 2147483648) : 0 ≤ S.q ∧ S.q ≤ 42535295865117307932921825928971026432 := by
  have a := h.c0
  have b := h.cw
  have w := h.w0
  have := h.q0
  have := h.q1
  omega
set_option maxRecDepth 20000 in
theorem joined_any (a b : St) (m k : Int) (ha : Good a m) (hb : Good b k) (hm : m ≤ 2147483648) (hk : k ≤ 2147483648) (W : World) :
    Calls Try.prog 50 #[SV a, SV b] W fun e w' => e = .returned (SV (joinS a b)) ∧ Mo W w' := by
  have a0 := ha.c0
  have a1 := ha.w0
  have a2 := ha.cw
  have b0 := hb.c0
  have b1 := hb.w0
  have b2 := hb.cw
  obtain ⟨s1, s2⟩ := ha.sIn hm
  obtain ⟨s3, s4⟩ := hb.sIn hk
  obtain ⟨q1, q2⟩ := ha.qIn hm
  obtain ⟨q3, q4⟩ := hb.qIn hk
  unfold joinS
  by_cases c1 : a.c = 0
  · rw [if_pos c1]; exact joined_left a b c1 (by omega) (by omega) W
  · rw [if_neg c1]
    by_cases c2 : b.c = 0
    · rw [if_pos c2]; exact joined_right a b c1 c2 (by omega) (by omega) W
    · rw [if_neg c2]
      exact joined_both a b c1 c2 (by omega) (by omega) (by omega) (by omega) (by unfold InW; omega) (by unfold InW; omega) (by unfold InW; omega) (by unfold InW; omega) (by unfold InW; omega) (by unfold InW; omega) W
set_option maxRecDepth 20000 in
theorem good_single {n : Int} (h : Tame n) : Good (single n) 1 := by
  have := good0.add n
  unfold addN at this
  rw [if_pos h] at this
  have e : joinS st0 (single n) = single n := by unfold joinS single st0; simp
  rw [e] at this
  simpa using this
set_option maxRecDepth 20000 in
set_option maxHeartbeats 1000000 in
theorem add_wild (p : Nat) (S : St) (n : Int) (W : World) (hB : Blk W p 136 (accC true S)) (hn : ¬ Tame n) (w1 : 0 ≤ S.w) (w2 : S.w ≤ 2147483648) :
    Calls Try.prog 31 #[.pointer (some ⟨p, 0, none⟩), .int .i64 n] W fun e w' => e = .returned (.tuple #[]) ∧ Mo (W.setRow p (accC true ⟨S.c, S.w + 1, S.lo, S.hi, S.s, S.q⟩)) w' := by
  obtain ⟨V, J, d, rfl, rfl⟩ := blk_world hB
  clear hB
  obtain ⟨c, w, lo, hi, s, q⟩ := S
  simp only at w1 w2
  rw [setRow_more, setRow_alloc_at]
  have hc : n < -140737488355328 ∨ ¬ n < -140737488355328 ∧ 140737488355328 < n := by unfold Tame at hn; omega
  clear hn
  rcases hc with h | ⟨h, h'⟩
  · go_enter Try.func31, Try.ntmps31
    go_wp2_with fail
    exact bodyPost_ret (v := .tuple #[]) (by simp [results, Try.results31, go_sem]) rfl ⟨rfl, Mor.out⟩
  · go_enter Try.func31, Try.ntmps31
    go_wp2_with fail
    exact bodyPost_ret (v := .tuple #[]) (by simp [results, Try.results31, go_sem]) rfl ⟨rfl, Mor.out⟩
set_option maxRecDepth 20000 in
set_option maxHeartbeats 1000000 in
theorem add_tame (p : Nat) (S : St) (n m : Int) (W : World) (hB : Blk W p 136 (accC true S)) (hn : Tame n) (hS : Good S m) (hm : m ≤ 2147483648) :
    Calls Try.prog 31 #[.pointer (some ⟨p, 0, none⟩), .int .i64 n] W fun e w' => e = .returned (.tuple #[]) ∧ Mo (W.setRow p (accC true (joinS S (single n)))) w' := by
  obtain ⟨V, J, d, rfl, rfl⟩ := blk_world hB
  clear hB
  have J1 : Hid (∀ W, Calls Try.prog 50 #[SV S, SV (single n)] W fun e w' => e = .returned (SV (joinS S (single n))) ∧ Mo W w') := Lib.hid (joined_any S (single n) m 1 hS (good_single hn) hm (by omega))
  rw [setRow_more, setRow_alloc_at]
  generalize joinS S (single n) = S' at *
  unfold Tame at hn
  obtain ⟨n1, n2⟩ := hn
  have O1 : Hid (∀ W, Calls Try.prog 48 #[.int .i64 n] W fun e w' => e = .returned (WV n) ∧ Mo W w') := Lib.hid (of_any n (by omega) (by omega))
  have M1 : Hid (∀ W, Calls Try.prog 51 #[.int .i64 n, .int .i64 n] W fun e w' => e = .returned (WV (n * n)) ∧ Mo W w') := Lib.hid (mul_any n n (by omega) (by omega) (by omega) (by omega))
  clear hS hm
  unfold single at J1
  obtain ⟨c, w, lo, hi, s, q⟩ := S
  obtain ⟨c', w', lo', hi', s', q'⟩ := S'
  generalize n * n = nn at *
  go_enter Try.func31, Try.ntmps31
  go_upto_region 3 with (fail)
  refine wp_name ?_
  intro W hW
  have c1 : W.cell? ⟨V.heap.size, 1, none⟩ = some (.int .i64 c) := by rw [hW]; simp [go_sem]
  have c2 : W.cell? ⟨V.heap.size, 2, none⟩ = some (.int .i64 w) := by rw [hW]; simp [go_sem]
  have c3 : W.cell? ⟨V.heap.size, 3, none⟩ = some (.int .i64 lo) := by rw [hW]; simp [go_sem]
  have c4 : W.cell? ⟨V.heap.size, 4, none⟩ = some (.int .i64 hi) := by rw [hW]; simp [go_sem]
  have c5 : W.cell? ⟨V.heap.size, 5, none⟩ = some (.int .i64 (hiW s)) := by rw [hW]; simp [go_sem]
  have c6 : W.cell? ⟨V.heap.size, 6, none⟩ = some (.int .u64 (loW s)) := by rw [hW]; simp [go_sem]
  have c7 : W.cell? ⟨V.heap.size, 7, none⟩ = some (.int .i64 (hiW q)) := by rw [hW]; simp [go_sem]
  have c8 : W.cell? ⟨V.heap.size, 8, none⟩ = some (.int .u64 (loW q)) := by rw [hW]; simp [go_sem]
  have HW := Lib.hid hW
  clear hW
  have LW' : LtW V.heap.size W := LtW.of_cell c1
  refine wp_region_mo_tail 16 (by kernel_rfl) (by kernel_rfl) ?_
  simp only [List.take_succ_cons, List.take_zero, List.drop_succ_cons, List.drop_zero]
  repeat (go_big_quiet_step (first | (with_reducible exact quiet_mo (O1.out _)) | (with_reducible exact quiet_mo (M1.out _)) | (with_reducible exact quiet_mo (J1.out _))))
  refine wpQuiet_nil ?_
  intro _ hw'
  obtain ⟨⟨J2, d2⟩, hw''⟩ := hw'
  subst hw''
  obtain rfl := HW.out
  clear HW c1 c2 c3 c4 c5 c6 c7 c8 LW'
  go_wp2_with fail
  go_end0
  exact ⟨rfl, mo_more _ _ _ _ _⟩
set_option maxRecDepth 20000 in
theorem add_acc (p : Nat) (S : St) (n m : Int) (W : World) (hB : Blk W p 136 (accC true S)) (hS : Good S m) (hm : m ≤ 2147483648) :
    Calls Try.prog 31 #[.pointer (some ⟨p, 0, none⟩), .int .i64 n] W fun e w' => e = .returned (.tuple #[]) ∧ Mo (W.setRow p (accC true (addN S n))) w' := by
  unfold addN
  by_cases h : Tame n
  · rw [if_pos h]; exact add_tame p S n m W hB h hS hm
  · rw [if_neg h]; exact add_wild p S n W hB h hS.w0 (by have := hS.cw; have := hS.c0; omega)

/-- Of: what a slice of numbers comes to -/
def OfRet (l : List Int) (W : World) (e : Ending) (w' : World) : Prop := ∃ p, e = .returned (.pointer (some ⟨p, 0, none⟩)) ∧ W.heap.size ≤ p ∧ Blk w' p 136 (accC true (sumL l)) ∧ Mo W w'
set_option maxRecDepth 20000 in
theorem sumL_snoc (l : List Int) (k : Nat) (hk : k < l.length) : sumL (l.take (k + 1)) = addN (sumL (l.take k)) (l.getD k 0) := by
  unfold sumL
  rw [List.take_add_one, List.foldl_append, List.getElem?_eq_getElem hk]
  simp [hk]
set_option maxRecDepth 20000 in
theorem acc_0 : accC true (sumL []) = #[.bool true, .int .i64 0, .int .i64 0, .int .i64 0, .int .i64 0, .int .i64 0, .int .u64 0, .int .i64 0, .int .u64 0] := by rfl
set_option maxRecDepth 20000 in
theorem good_take (l : List Int) (k : Nat) (hk : k ≤ l.length) : Good (sumL (l.take k)) k := by
  have := good_sum (l.take k)
  rwa [List.length_take, Nat.min_eq_left hk] at this
set_option maxRecDepth 20000 in
set_option maxHeartbeats 1000000 in
theorem of_nothing (W : World) : Calls Try.prog 49 #[.slice none 0 0] W (OfRet [] W) := by
  go_enter Try.func49, Try.ntmps49
  go_wp2
  go_rounds 1
  go_ret
  refine ⟨W.heap.size, rfl, by omega, ?_, Mor.out⟩
  rw [acc_0]
  infer_instance
set_option maxRecDepth 20000 in
set_option maxHeartbeats 1000000 in
theorem of_some (l : List Int) (g off cap : Nat) (W : World) (hl : l.length ≤ 2147483648) (hc : ∀ j, j < l.length → W.cell? ⟨g, off + j, none⟩ = some (.int .i64 (l.getD j 0))) (hp : 0 < l.length) :
    Calls Try.prog 49 #[.slice (some ⟨g, off, none⟩) l.length cap] W (OfRet l W) := by
  have LG : LtW g W := LtW.of_cell (hc 0 hp)
  have HC := Lib.hid hc
  clear hc
  go_enter Try.func49, Try.ntmps49
  go_wp2
  go_loopw [5, 10] (fun x i wr => ∃ k : Nat, k ≤ l.length ∧ i = .int .i64 k ∧ Mo (W.alloc (.cells (accC true (sumL (l.take k))) 136)) wr) (fun _ i _ => l.length - (intOf i).toNat)
  case atStart => exact ⟨0, by omega, rfl, by rw [List.take_zero, acc_0]; exact Mor.out⟩
  case round =>
    obtain ⟨k, hk, rfl, J, d, rfl⟩ := hrel
    by_cases ck : k < l.length
    · have ce := HC.out k ck
      have A := Lib.hid (fun d => add_acc W.heap.size (sumL (l.take k)) (l.getD k 0) k (more (W.alloc (.cells (accC true (sumL (l.take k))) 136)) J d) inferInstance (good_take l k hk) (by omega))
      have SN := Lib.hid (sumL_snoc l k ck)
      generalize l.getD k 0 = n at *
      generalize sumL (l.take k) = S at *
      generalize addN S n = S' at *
      simp only [setRow_more, setRow_alloc_at] at A
      go_wp2_with fail
      refine (A.out _).mono ?_
      rintro e w1 ⟨rfl, J2, d2, rfl⟩
      go_wp2_with fail
      go_roundw
      case rel => exact ⟨k + 1, by omega, by go_num, by rw [SN.out]; exact Mor.out⟩
      case measure => simp [intOf]; omega
    · obtain rfl : k = l.length := by omega
      rw [List.take_length]
      go_wp2
      go_ret
      exact ⟨W.heap.size, rfl, by omega, inferInstance, Mor.out⟩
end Go.Proofs.Ythgkhllkhhnlpaa
/- acc.Told: what it returns, in integers. -/
namespace Go.Proofs.Ythgkhllkhhnlpaa
open Go.RowKit

set_option maxRecDepth 20000 in
/-- a block that came behind V, laid in its place -/
theorem mo_split {V W : World} (h : Mo V W) {g : Nat} {t : TypeId} {cs : Array Value} (hB : Blk W g t cs) (hg : V.heap.size ≤ g) : ∃ (J J' : Array Obj) (d d' : Nat), g = V.heap.size + J.size ∧ W = more ((more V J d).alloc (.cells cs t)) J' d' := by
  obtain ⟨K, e, rfl⟩ := h
  have hl := hB.lt
  have hv := (Array.getElem?_eq_some_iff.1 hB.out).2
  have hl' : g < V.heap.size + K.size := by have : (more V K e).heap.size = V.heap.size + K.size := by simp [more]
                                            omega
  have hK : K[g - V.heap.size]? = some (.cells cs t (0, 0)) := by
    have := hB.out
    simp only [more] at this
    rw [Array.getElem?_append_right hg] at this
    exact this
  refine ⟨K.extract 0 (g - V.heap.size), K.extract (g - V.heap.size + 1) K.size, e, e, by simp; omega, ?_⟩
  show World.mk _ _ _ _ _ = World.mk _ _ _ _ _
  congr 1
  refine Array.ext_getElem? fun k => ?_
  show (V.heap ++ K)[k]? = ((V.heap ++ K.extract 0 (g - V.heap.size)).push (.cells cs t) ++ K.extract (g - V.heap.size + 1) K.size)[k]?
  simp only [Array.getElem?_append, Array.size_push, Array.size_append, Array.size_extract, Array.getElem?_push, Array.getElem?_extract]
  (repeat' split) <;> first
    | rfl
    | (exfalso; omega)
    | (congr 1; omega)
    | (subst_vars; rw [← hK]; congr 1; omega)
    | (rw [Array.getElem?_eq_none (by omega)])
    | (rw [← hK]; congr 1; omega)

/-- what is told of sums: the mean, and the squares' sum from it -/
def meanS (S : St) : Int := S.s / S.c
def farS (S : St) : Int := S.q - 2 * meanS S * S.s + S.c * (meanS S * meanS S)
noncomputable def spreadS (S : St) : Int := rootV (farS S / S.c)
noncomputable abbrev TV (S : St) : Value := .agg #[.int .i64 S.c, .int .i64 S.w, .int .i64 S.lo, .int .i64 S.hi, .int .i64 (meanS S), .int .u64 (spreadS S)]
set_option maxRecDepth 20000 in
theorem mean_bd {S : St} {m : Int} (h : Good S m) (hc : 0 < S.c) : S.lo ≤ meanS S ∧ meanS S ≤ S.hi := by
  unfold meanS
  have a := h.s1
  have b := h.s2
  rw [Int.mul_comm] at a b
  constructor
  · exact Int.le_ediv_of_mul_le hc a
  · have : S.s / S.c < S.hi + 1 := Int.ediv_lt_of_lt_mul hc (by rw [Int.add_mul]; omega)
    omega
set_option maxRecDepth 20000 in
/-- how the program comes to it -/
theorem far_way (S : St) : S.q - meanS S * meanS S * S.c - 2 * meanS S * (S.s % S.c) = farS S := by
  have e := Int.mul_ediv_add_emod S.s S.c
  unfold farS
  have e2 : S.s = S.c * meanS S + S.s % S.c := by unfold meanS; omega
  generalize S.s % S.c = r at *
  generalize meanS S = m at *
  rw [e2, Int.mul_add]
  have : 2 * m * (S.c * m) = 2 * (S.c * (m * m)) := by
    rw [Int.mul_assoc 2, Int.mul_left_comm m]
  rw [this, Int.mul_comm (m * m) S.c]
  omega
set_option maxRecDepth 20000 in
theorem far_bd {S : St} {m : Int} (h : Good S m) (hc : 0 < S.c) : 0 ≤ farS S ∧ farS S ≤ S.c * ((S.hi - S.lo) * (S.hi - S.lo)) := by
  obtain ⟨a, b⟩ := mean_bd h hc
  exact h.var S.lo S.hi (meanS S) (Int.le_refl _) (Int.le_refl _) a b
set_option maxRecDepth 20000 in
theorem rootV_0 : rootV 0 = 0 := root_uniq (rootV_is (by decide)) ⟨by decide, by decide, by decide⟩
set_option maxRecDepth 10000 in
set_option maxHeartbeats 2000000 in
theorem told_some (c w lo hi s q mean r mm mc f1 m2 f2 f3 r3 sp : Int) (arg : Value) (W : World) (c0 : 0 < c) (c1 : c ≤ 2147483648) (b1 : -140737488355328 ≤ mean) (b2 : mean ≤ 140737488355328) (r0 : 0 ≤ r) (r1 : r < c)
    (hO : Hid (∀ W', Mo W W' → Calls Try.prog 59 #[arg] W' fun e w' => e = .returned (SV ⟨c, w, lo, hi, s, q⟩) ∧ Mo W' w'))
    (D1 : Hid (∀ W, Calls Try.prog 52 #[WV s, .int .u64 c] W fun e w' => e = .returned (.tuple #[WV mean, .int .u64 r, .bool true]) ∧ Mo W w'))
    (K1 : Hid (∀ W, Calls Try.prog 53 #[WV mean] W fun e w' => e = .returned (.int .i64 mean) ∧ Mo W w'))
    (M1 : Hid (∀ W, Calls Try.prog 51 #[.int .i64 mean, .int .i64 mean] W fun e w' => e = .returned (WV mm) ∧ Mo W w'))
    (S1 : Hid (∀ W, Calls Try.prog 61 #[WV mm, .int .u32 c] W fun e w' => e = .returned (WV mc) ∧ Mo W w'))
    (B1 : Hid (∀ W, Calls Try.prog 60 #[WV q, WV mc] W fun e w' => e = .returned (WV f1) ∧ Mo W w'))
    (M2 : Hid (∀ W, Calls Try.prog 51 #[.int .i64 (2 * mean), .int .i64 r] W fun e w' => e = .returned (WV m2) ∧ Mo W w'))
    (B2 : Hid (∀ W, Calls Try.prog 60 #[WV f1, WV m2] W fun e w' => e = .returned (WV f2) ∧ Mo W w'))
    (D2 : Hid (∀ W, Calls Try.prog 52 #[WV f2, .int .u64 c] W fun e w' => e = .returned (.tuple #[WV f3, .int .u64 r3, .bool true]) ∧ Mo W w'))
    (R1 : Hid (∀ W, Calls Try.prog 62 #[WV f3] W fun e w' => e = .returned (.int .u64 sp) ∧ Mo W w')) :
    Calls Try.prog 35 #[arg] W fun e w' => e = .returned (.agg #[.int .i64 c, .int .i64 w, .int .i64 lo, .int .i64 hi, .int .i64 mean, .int .u64 sp]) ∧ Mo W w' := by
  have cn : c ≠ 0 := by omega
  have S2 : Hid (∀ W, Calls Try.prog 61 #[WV mm, .int .u32 (IntKind.u32.wrap c)] W fun e w' => e = .returned (WV mc) ∧ Mo W w') := by
    rw [show IntKind.u32.wrap c = c by rw [IntKind.wrap_u32]; omega]; exact S1
  go_enter Try.func35, Try.ntmps35
  go_wp2_with fail
  refine (hO.out _ Mor.out).mono ?_; rintro e w1 ⟨rfl, J1, d1, rfl⟩
  go_wp2_with fail
  refine (D1.out _).mono ?_; rintro e w1 ⟨rfl, J2, d2, rfl⟩
  go_wp2_with fail
  refine (K1.out _).mono ?_; rintro e w1 ⟨rfl, J3, d3, rfl⟩
  go_wp2_with fail
  refine wp_name ?_
  intro V hV
  have k0 : V.cell? ⟨W.heap.size + 1 + J1.size, 6, none⟩ = some (.int .i64 (hiW q)) := by rw [hV]; simp [go_sem]
  have k1 : V.cell? ⟨W.heap.size + 1 + J1.size, 7, none⟩ = some (.int .u64 (loW q)) := by rw [hV]; simp [go_sem]
  have k2 : V.cell? ⟨W.heap.size + 1 + J1.size + 1, 4, none⟩ = some (.int .i64 mean) := by rw [hV]; simp [go_sem]
  have HV := Lib.hid hV
  clear hV
  have L3 : LtW (W.heap.size + 1 + J1.size) V := LtW.of_cell k0
  have L4 : LtW (W.heap.size + 1 + J1.size + 1) V := LtW.of_cell k2
  go_cut [9] (fun s9 wx => ∃ p, s9 = .pointer (some ⟨p, 0, none⟩) ∧ V.heap.size ≤ p ∧ Blk wx p 43 #[.int .i64 (hiW f1), .int .u64 (loW f1)] ∧ Mo V wx)
  case first =>
    as_aux_lemma =>
      go_region_held3 (fun w' => w'.cell? ⟨W.heap.size + 1 + J1.size, 6, none⟩ = some (.int .i64 (hiW q)) ∧ w'.cell? ⟨W.heap.size + 1 + J1.size, 7, none⟩ = some (.int .u64 (loW q)) ∧ w'.cell? ⟨W.heap.size + 1 + J1.size + 1, 4, none⟩ = some (.int .i64 mean)) (simp [go_sem, k0, k1, k2])
        (first
        | ((with_reducible refine (M1.out _).mono ?_); rintro e w1 ⟨rfl, J3, d3, rfl⟩)
        | ((with_reducible refine (S2.out _).mono ?_); rintro e w1 ⟨rfl, J3, d3, rfl⟩)
        | ((with_reducible refine (B1.out _).mono ?_); rintro e w1 ⟨rfl, J3, d3, rfl⟩))
      all_goals (go_wp2_with fail; go_meet; exact ⟨_, rfl, by first | exact Nat.le_refl _ | exact Nat.le_add_right _ _, inferInstance, Mor.out⟩)
  obtain ⟨p9, rfl, hp9, B9, hM⟩ := hcut
  obtain ⟨J4, J5, d4, d5, rfl, hwc⟩ := mo_split hM B9 hp9
  replace k2 : wc.cell? ⟨W.heap.size + 1 + J1.size + 1, 4, none⟩ = some (.int .i64 mean) := hM.cell.trans k2
  have k3 : wc.cell? ⟨V.heap.size + J4.size, 0, none⟩ = some (.int .i64 (hiW f1)) := by rw [hwc]; simp [go_sem]
  have k4 : wc.cell? ⟨V.heap.size + J4.size, 1, none⟩ = some (.int .u64 (loW f1)) := by rw [hwc]; simp [go_sem]
  have HC := Lib.hid hwc
  clear hwc hp9 B9 hM k0 k1 L3 L4
  have L4 : LtW (W.heap.size + 1 + J1.size + 1) wc := LtW.of_cell k2
  have L9 : LtW (V.heap.size + J4.size) wc := LtW.of_cell k3
  go_upto_region 9 with (fail)
  refine wp_region_mo_tail 8 (by kernel_rfl) (by kernel_rfl) ?_
  simp only [List.take_succ_cons, List.take_zero, List.drop_succ_cons, List.drop_zero]
  repeat (go_big_quiet_step (first | (with_reducible exact quiet_mo (M2.out _)) | (with_reducible exact quiet_mo (B2.out _))))
  refine wpQuiet_nil ?_
  intro _ hw'
  obtain ⟨⟨J6, d6⟩, hw''⟩ := hw'
  subst hw''
  have e9 : V.heap.size + J4.size = W.heap.size + 1 + J1.size + 1 + 1 + J2.size + 1 + (J3.size + J4.size) := by
    rw [HV.out]; simp [go_sem, Nat.add_assoc]
  rw [e9]
  obtain rfl := HC.out
  clear HC k2 k3 k4 L4 L9 e9
  obtain rfl := HV.out
  clear HV
  go_wp2_with fail
  refine (D2.out _).mono ?_; rintro e w1 ⟨rfl, J7, d7, rfl⟩
  go_wp2_with fail
  refine (R1.out _).mono ?_; rintro e w1 ⟨rfl, J8, d8, rfl⟩
  go_wp2_with fail
  exact bodyPost_ret (v := .agg #[.int .i64 c, .int .i64 w, .int .i64 lo, .int .i64 hi, .int .i64 mean, .int .u64 sp]) (by simp [results, Try.results35, go_sem]) rfl ⟨rfl, Mor.out⟩
set_option maxRecDepth 20000 in
set_option maxHeartbeats 1000000 in
theorem told_none (w lo hi s q : Int) (arg : Value) (W : World)
    (hO : Hid (∀ W', Mo W W' → Calls Try.prog 59 #[arg] W' fun e w' => e = .returned (SV ⟨0, w, lo, hi, s, q⟩) ∧ Mo W' w')) :
    Calls Try.prog 35 #[arg] W fun e w' => e = .returned (.agg #[.int .i64 0, .int .i64 w, .int .i64 lo, .int .i64 hi, .int .i64 0, .int .u64 0]) ∧ Mo W w' := by
  go_enter Try.func35, Try.ntmps35
  go_wp2_with fail
  refine (hO.out _ Mor.out).mono ?_; rintro e w1 ⟨rfl, J1, d1, rfl⟩
  go_wp2_with fail
  exact bodyPost_ret (v := .agg #[.int .i64 0, .int .i64 w, .int .i64 lo, .int .i64 hi, .int .i64 0, .int .u64 0]) (by simp [results, Try.results35, go_sem]) rfl ⟨rfl, Mor.out⟩
set_option maxRecDepth 20000 in
theorem told_of (S : St) (m : Int) (arg : Value) (W : World) (hS : Good S m) (hm : m ≤ 2147483648)
    (hO : ∀ W', Mo W W' → Calls Try.prog 59 #[arg] W' fun e w' => e = .returned (SV S) ∧ Mo W' w') :
    Calls Try.prog 35 #[arg] W fun e w' => e = .returned (TV S) ∧ Mo W w' := by
  have c0 := hS.c0
  have w0 := hS.w0
  have cw := hS.cw
  by_cases c : S.c = 0
  · have e1 : meanS S = 0 := by unfold meanS; rw [c, Int.ediv_zero]
    have e2 : spreadS S = 0 := by unfold spreadS; rw [c, Int.ediv_zero, rootV_0]
    unfold TV
    rw [e1, e2]
    obtain ⟨c', w, lo, hi, s, q⟩ := S
    simp only at c
    subst c
    exact told_none w lo hi s q arg W (Lib.hid hO)
  · have cp : 0 < S.c := by omega
    obtain ⟨mb1, mb2⟩ := mean_bd hS cp
    obtain ⟨fb1, fb2⟩ := far_bd hS cp
    have fw := far_way S
    have a1 := hS.lo
    have a3 := hS.hi
    obtain ⟨s1, s2⟩ := hS.sIn hm
    obtain ⟨q1, q2⟩ := hS.qIn hm
    have r0 : 0 ≤ S.s % S.c := Int.emod_nonneg _ c
    have r1 : S.s % S.c < S.c := Int.emod_lt_of_pos _ cp
    have mm1 : meanS S * meanS S ≤ 140737488355328 * 140737488355328 := sq_bd (by omega) (by omega)
    have mm0 := sq_nn (meanS S)
    have mc0 : 0 ≤ meanS S * meanS S * S.c := Int.mul_nonneg mm0 c0
    have mc1 : meanS S * meanS S * S.c ≤ 140737488355328 * 140737488355328 * 2147483648 := Int.mul_le_mul mm1 (by omega) c0 (by omega)
    have m2a : 2 * meanS S * (S.s % S.c) ≤ 281474976710656 * 2147483648 := by
      have : 2 * meanS S * (S.s % S.c) ≤ 281474976710656 * (S.s % S.c) := Int.mul_le_mul_of_nonneg_right (by omega) r0
      omega
    have m2b : -(281474976710656 * 2147483648) ≤ 2 * meanS S * (S.s % S.c) := by
      have : -281474976710656 * (S.s % S.c) ≤ 2 * meanS S * (S.s % S.c) := Int.mul_le_mul_of_nonneg_right (by omega) r0
      omega
    have fc : farS S / S.c ≤ farS S := Int.ediv_le_self _ fb1
    have fc0 : 0 ≤ farS S / S.c := Int.ediv_nonneg fb1 c0
    have D1 := div_any S.s S.c (by unfold InW; omega) cp (by omega)
    have K1 := clip_any (meanS S) (by unfold InW; omega)
    rw [clip_in (by omega) (by omega)] at K1
    have M1 := mul_any (meanS S) (meanS S) (by omega) (by omega) (by omega) (by omega)
    have S1 := scale_any (meanS S * meanS S) S.c (by unfold InW; omega) c0 (by omega)
    rw [cl_in (by unfold InW; omega)] at S1
    have B1 := sub_any S.q (meanS S * meanS S * S.c) (by unfold InW; omega) (by unfold InW; omega)
    rw [cl_in (by unfold InW; omega)] at B1
    have M2 := mul_any (2 * meanS S) (S.s % S.c) (by omega) (by omega) (by omega) (by omega)
    have B2 := sub_any (S.q - meanS S * meanS S * S.c) (2 * meanS S * (S.s % S.c)) (by unfold InW; omega) (by unfold InW; omega)
    rw [cl_in (by unfold InW; omega), fw] at B2
    have D2 := div_any (farS S) S.c (by unfold InW; omega) cp (by omega)
    have R1 := root_any (farS S / S.c) (by unfold InW; omega)
    obtain ⟨c', w, lo, hi, s, q⟩ := S
    exact told_some c' w lo hi s q _ _ _ _ _ _ _ _ _ _ arg W cp (by simp only at *; omega) (by simp only at *; omega) (by simp only at *; omega) r0 r1 (Lib.hid hO) (Lib.hid D1) (Lib.hid K1) (Lib.hid M1) (Lib.hid S1) (Lib.hid B1) (Lib.hid M2) (Lib.hid B2) (Lib.hid D2) (Lib.hid R1)
set_option maxRecDepth 20000 in
theorem told_acc (p : Nat) (b : Bool) (S : St) (m : Int) (W : World) (hB : Blk W p 136 (accC b S)) (hS : Good S m) (hm : m ≤ 2147483648) :
    Calls Try.prog 35 #[.pointer (some ⟨p, 0, none⟩)] W fun e w' => e = .returned (TV S) ∧ Mo W w' :=
  told_of S m _ W hS hm (fun W' hW => of_acc p b S W' (hW.blk hB))
set_option maxRecDepth 20000 in
theorem told_nil (W : World) : Calls Try.prog 35 #[.pointer none] W fun e w' => e = .returned (TV st0) ∧ Mo W w' :=
  told_of st0 0 _ W good0 (by omega) (fun W' _ => of_nil W')
set_option maxRecDepth 20000 in
/-- the document's examples -/
theorem told_ex1 : TV (sumL [1, 2, 4, 140737488355329]) = .agg #[.int .i64 3, .int .i64 1, .int .i64 1, .int .i64 4, .int .i64 2, .int .u64 1] := by
  have e : sumL [1, 2, 4, 140737488355329] = ⟨3, 1, 1, 4, 7, 21⟩ := by rfl
  have r : spreadS ⟨3, 1, 1, 4, 7, 21⟩ = 1 := root_uniq (rootV_is (by decide)) ⟨by decide, by decide, by decide⟩
  unfold TV
  rw [e, r]
  rfl
set_option maxRecDepth 20000 in
theorem told_ex2 : TV (sumL [-1, 0]) = .agg #[.int .i64 2, .int .i64 0, .int .i64 (-1), .int .i64 0, .int .i64 (-1), .int .u64 0] := by
  have e : sumL [-1, 0] = ⟨2, 0, -1, 0, -1, 1⟩ := by rfl
  have r : spreadS ⟨2, 0, -1, 0, -1, 1⟩ = 0 := root_uniq (rootV_is (by decide)) ⟨by decide, by decide, by decide⟩
  unfold TV
  rw [e, r]
  rfl
set_option maxRecDepth 20000 in
theorem told_ex3 : TV (sumL []) = .agg #[.int .i64 0, .int .i64 0, .int .i64 0, .int .i64 0, .int .i64 0, .int .u64 0] := by
  have r : spreadS ⟨0, 0, 0, 0, 0, 0⟩ = 0 := root_uniq (rootV_is (by decide)) ⟨by decide, by decide, by decide⟩
  show TV ⟨0, 0, 0, 0, 0, 0⟩ = _
  unfold TV
  rw [r]
  rfl
end Go.Proofs.Ythgkhllkhhnlpaa
/- horologelaw31.works returns true. -/
namespace Go.Proofs.Ythgkhllkhhnlpaa
open Go.RowKit

end Go.Proofs.Ythgkhllkhhnlpaa
/- acc: Add in any world; facts of what is told. -/
namespace Go.Proofs.Ythgkhllkhhnlpaa
open Go.RowKit

/-- what Add leaves -/
def AddRet (p : Nat) (S' : St) (W : World) (e : Ending) (w' : World) : Prop :=
  e = .returned (.tuple #[]) ∧ Blk w' p 136 (accC true S') ∧ (∀ (q : Nat) (t : TypeId) (cs : Array Value), q ≠ p → Blk W q t cs → Blk w' q t cs) ∧ (∀ V : World, V.heap.size ≤ p → Mo V W → Mo V w')
set_option maxRecDepth 20000 in
theorem add_ret (p : Nat) (S : St) (n m : Int) (W : World) (hB : Blk W p 136 (accC true S)) (hS : Good S m) (hm : m ≤ 2147483648) :
    Calls Try.prog 31 #[.pointer (some ⟨p, 0, none⟩), .int .i64 n] W (AddRet p (addN S n) W) := by
  refine (add_acc p S n m W hB hS hm).mono ?_
  rintro e w1 ⟨rfl, hM⟩
  exact ⟨rfl, hM.blk (blk_setRow hB), fun q t cs hq hb => hM.blk (blk_setRow_ne hb (Ne.symm hq)), fun V hV hVW => (mo_setRow hVW hV _).trans hM⟩
set_option maxRecDepth 20000 in
theorem rootV_of_sq {d : Int} (h : 0 ≤ d) : rootV (d * d) = d :=
  root_uniq (rootV_is (Int.mul_nonneg h h)) ⟨h, Int.le_refl _, by simp only [Int.mul_add, Int.add_mul]; omega⟩
set_option maxRecDepth 20000 in
theorem spread_le {S : St} {m : Int} (h : Good S m) (hc : 0 < S.c) : 0 ≤ spreadS S ∧ spreadS S ≤ S.hi - S.lo := by
  refine ⟨rootV_nonneg _, ?_⟩
  have lh := h.lh
  rw [← rootV_of_sq (show 0 ≤ S.hi - S.lo by omega)]
  refine rootV_mono ?_
  obtain ⟨f0, f1⟩ := far_bd h hc
  have : farS S / S.c < (S.hi - S.lo) * (S.hi - S.lo) + 1 := Int.ediv_lt_of_lt_mul hc (by rw [Int.add_mul, Int.mul_comm]; omega)
  omega
end Go.Proofs.Ythgkhllkhhnlpaa
