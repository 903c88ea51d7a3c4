/- acc: of, joined, Add, Of, Told: what they do, in integers. -/
import Derived.Test.YtmaddbonkpfdgaaAccP
import Derived.Test.YtmaddbonkpfdgaaNum
import Derived.Test.YtmaddbonkpfdgaaDiv
import Derived.Test.YtmaddbonkpfdgaaWide4
import Derived.Test.YtmaddbonkpfdgaaQTail
namespace Go.Proofs.Ytmaddbonkpfdgaa
open Go.RowKit

instance blk_lt (w : World) (g : Nat) (t : TypeId) (cs : Array Value) [h : Blk w g t cs] : LtW g w := ⟨h.lt⟩
theorem Mo.blk {a b : World} (h : Mo a b) {g : Nat} {t : TypeId} {cs : Array Value} (k : Blk a g t cs) : Blk b g t cs := by
  obtain ⟨J, d, rfl⟩ := h
  infer_instance
class MoC (a : outParam World) (b : World) : Prop where
  out : Mo a b
instance (priority := low) moc_blk (a b : World) (g : Nat) (t : TypeId) (cs : Array Value) [h : MoC a b] [k : Blk a g t cs] : Blk b g t cs := h.out.blk k
/-- a world in which a block is known is one that laid it -/
theorem blk_world {W : World} {g : Nat} {t : TypeId} {cs : Array Value} (h : Blk W g t cs) : ∃ (V : World) (J : Array Obj) (d : Nat), V.heap.size = g ∧ W = more (V.alloc (.cells cs t)) J d := by
  have hl := h.lt
  have hv : W.heap[g] = .cells cs t (0, 0) := (Array.getElem?_eq_some_iff.1 h.out).2
  refine ⟨{ W with heap := W.heap.extract 0 g }, W.heap.extract (g + 1) W.heap.size, W.drawn, by simp; omega, ?_⟩
  show W = World.mk _ _ _ _ _
  cases W with
  | mk heap tape drawn os output =>
    simp only at hl hv ⊢
    congr 1
    refine Array.ext_getElem? fun k => ?_
    show heap[k]? = ((heap.extract 0 g).push (.cells cs t) ++ heap.extract (g + 1) heap.size)[k]?
    simp only [Array.getElem?_append, Array.size_push, Array.size_extract, Array.getElem?_push, Array.getElem?_extract]
    rcases Nat.lt_trichotomy k g with c | c | c
    · rw [if_pos (by omega), if_neg (by omega), if_pos (by omega)]; simp
    · subst c
      rw [if_pos (by omega), if_pos (by omega), Array.getElem?_eq_getElem hl, hv]
    · rw [if_neg (by omega)]
      by_cases e : k < heap.size
      · rw [if_pos (by omega)]; congr 1; omega
      · rw [if_neg (by omega), Array.getElem?_eq_none (by omega)]

abbrev SV (S : St) : Value := .agg #[.int .i64 S.c, .int .i64 S.w, .int .i64 S.lo, .int .i64 S.hi, .int .i64 (hiW S.s), .int .u64 (loW S.s), .int .i64 (hiW S.q), .int .u64 (loW S.q)]
abbrev accC (b : Bool) (S : St) : Array Value := #[.bool b, .int .i64 S.c, .int .i64 S.w, .int .i64 S.lo, .int .i64 S.hi, .int .i64 (hiW S.s), .int .u64 (loW S.s), .int .i64 (hiW S.q), .int .u64 (loW S.q)]

set_option maxHeartbeats 400000 in
theorem of_acc (p : Nat) (b : Bool) (S : St) (W : World) (hB : Blk W p 39 (accC b S)) :
    Calls Try.prog 18 #[.pointer (some ⟨p, 0, none⟩)] W fun e w' => e = .returned (SV S) ∧ Mo W w' := by
  obtain ⟨V, J, d, rfl, rfl⟩ := blk_world hB
  clear hB
  obtain ⟨c, w, lo, hi, s, q⟩ := S
  go_enter Try.func18, Try.ntmps18
  go_wp2_with fail
  exact bodyPost_ret (v := SV ⟨c, w, lo, hi, s, q⟩) (by simp [results, Try.results18, go_sem]) rfl ⟨rfl, Mor.out⟩
set_option maxHeartbeats 400000 in
theorem of_nil (W : World) :
    Calls Try.prog 18 #[.pointer none] W fun e w' => e = .returned (SV st0) ∧ Mo W w' := by
  have e1 : hiW 0 = 0 := by decide
  have e2 : loW 0 = 0 := by decide
  go_enter Try.func18, Try.ntmps18
  go_wp2_with fail
  exact bodyPost_ret (v := SV st0) (by simp [results, Try.results18, go_sem, st0, e1, e2]) rfl ⟨rfl, Mor.out⟩

theorem min_I (x y : Int) : min x y = minI x y := by unfold minI; split <;> omega
theorem max_I (x y : Int) : max x y = maxI x y := by unfold maxI; split <;> omega
theorem joined_left (a b : St) (hc : a.c = 0) (w1 : 0 ≤ b.w + a.w) (w2 : b.w + a.w ≤ 9223372036854775807) (W : World) :
    Calls Try.prog 15 #[SV a, SV b] W fun e w' => e = .returned (SV ⟨b.c, b.w + a.w, b.lo, b.hi, b.s, b.q⟩) ∧ Mo W w' := by
  obtain ⟨c, w, lo, hi, s, q⟩ := a
  obtain ⟨c', w', lo', hi', s', q'⟩ := b
  simp only at hc w1 w2
  subst hc
  go_enter Try.func15, Try.ntmps15
  go_wp2_with fail
  exact bodyPost_ret (v := SV ⟨c', w' + w, lo', hi', s', q'⟩) (by simp [results, Try.results15, go_sem]) rfl ⟨rfl, Mor.out⟩
theorem joined_right (a b : St) (hc : a.c ≠ 0) (hb : b.c = 0) (w1 : 0 ≤ a.w + b.w) (w2 : a.w + b.w ≤ 9223372036854775807) (W : World) :
    Calls Try.prog 15 #[SV a, SV b] W fun e w' => e = .returned (SV ⟨a.c, a.w + b.w, a.lo, a.hi, a.s, a.q⟩) ∧ Mo W w' := by
  obtain ⟨c, w, lo, hi, s, q⟩ := a
  obtain ⟨c', w', lo', hi', s', q'⟩ := b
  simp only at hc hb w1 w2
  subst hb
  go_enter Try.func15, Try.ntmps15
  go_wp2_with fail
  exact bodyPost_ret (v := SV ⟨c, w + w', lo, hi, s, q⟩) (by simp [results, Try.results15, go_sem]) rfl ⟨rfl, Mor.out⟩
set_option maxHeartbeats 1000000 in
theorem joined_both (a b : St) (hc : a.c ≠ 0) (hb : b.c ≠ 0) (w1 : 0 ≤ a.w + b.w) (w2 : a.w + b.w ≤ 9223372036854775807) (c1 : 0 ≤ a.c + b.c) (c2 : a.c + b.c ≤ 9223372036854775807)
    (i1 : InW a.s) (i2 : InW b.s) (i3 : InW (a.s + b.s)) (i4 : InW a.q) (i5 : InW b.q) (i6 : InW (a.q + b.q)) (W : World) :
    Calls Try.prog 15 #[SV a, SV b] W fun e w' => e = .returned (SV ⟨a.c + b.c, a.w + b.w, minI a.lo b.lo, maxI a.hi b.hi, a.s + b.s, a.q + b.q⟩) ∧ Mo W w' := by
  obtain ⟨c, w, lo, hi, s, q⟩ := a
  obtain ⟨c', w', lo', hi', s', q'⟩ := b
  simp only at hc hb w1 w2 c1 c2 i1 i2 i3 i4 i5 i6
  have A1 : Hid (∀ W, Calls Try.prog 32 #[WV s, WV s'] W fun e w' => e = .returned (WV (s + s')) ∧ Mo W w') := Lib.hid (fun W => by
    have := add_any s s' i1 i2 W
    rwa [cl_in i3] at this)
  have A2 : Hid (∀ W, Calls Try.prog 32 #[WV q, WV q'] W fun e w' => e = .returned (WV (q + q')) ∧ Mo W w') := Lib.hid (fun W => by
    have := add_any q q' i4 i5 W
    rwa [cl_in i6] at this)
  clear i1 i2 i3 i4 i5 i6
  go_enter Try.func15, Try.ntmps15
  go_upto_region 7 with (fail)
  refine wp_region_mo_tail 31 (by kernel_rfl) (by kernel_rfl) ?_
  simp only [List.take_succ_cons, List.take_zero, List.drop_succ_cons, List.drop_zero]
  repeat (go_big_quiet_step (first | (with_reducible exact quiet_mo (A1.out _)) | (with_reducible exact quiet_mo (A2.out _))))
  refine wpQuiet_nil ?_
  intro _ hw'
  obtain ⟨⟨J2, d2⟩, hw''⟩ := hw'
  subst hw''
  go_wp2_with fail
  exact bodyPost_ret (v := SV ⟨c + c', w + w', minI lo lo', maxI hi hi', s + s', q + q'⟩) (by simp [results, Try.results15, go_sem, min_I, max_I]) rfl ⟨rfl, Mor.out⟩

theorem mo_more (A : World) (J J' : Array Obj) (d d' : Nat) : Mo (more A J d) (more A (J ++ J') d') := ⟨J', d', by rw [more_more]⟩
theorem bd_in {x B : Int} (h1 : -B ≤ x) (h2 : x ≤ B) (h : B ≤ 170141183460469231731687303715884105727) : InW x := by unfold InW; omega
/-- sums of at most 2^31 numbers are wide numbers -/
theorem Good.sIn {S : St} {m : Int} (h : Good S m) (hm : m ≤ 2147483648) : -302231454903657293676544 ≤ S.s ∧ S.s ≤ 302231454903657293676544 := by
  have a := h.c0
  have b := h.cw
  have w := h.w0
  have p1 : S.c * (-140737488355328) ≤ S.c * S.lo := Int.mul_le_mul_of_nonneg_left h.lo a
  have p2 : S.c * S.hi ≤ S.c * 140737488355328 := Int.mul_le_mul_of_nonneg_left h.hi a
  have := h.s1
  have := h.s2
  omega
theorem Good.qIn {S : St} {m : Int} (h : Good S m) (hm : m ≤ 2147483648) : 0 ≤ S.q ∧ S.q ≤ 42535295865117307932921825928971026432 := by
  have a := h.c0
  have b := h.cw
  have w := h.w0
  have := h.q0
  have := h.q1
  omega
theorem joined_any (a b : St) (m k : Int) (ha : Good a m) (hb : Good b k) (hm : m ≤ 2147483648) (hk : k ≤ 2147483648) (W : World) :
    Calls Try.prog 15 #[SV a, SV b] W fun e w' => e = .returned (SV (joinS a b)) ∧ Mo W w' := by
  have a0 := ha.c0
  have a1 := ha.w0
  have a2 := ha.cw
  have b0 := hb.c0
  have b1 := hb.w0
  have b2 := hb.cw
  obtain ⟨s1, s2⟩ := ha.sIn hm
  obtain ⟨s3, s4⟩ := hb.sIn hk
  obtain ⟨q1, q2⟩ := ha.qIn hm
  obtain ⟨q3, q4⟩ := hb.qIn hk
  unfold joinS
  by_cases c1 : a.c = 0
  · rw [if_pos c1]; exact joined_left a b c1 (by omega) (by omega) W
  · rw [if_neg c1]
    by_cases c2 : b.c = 0
    · rw [if_pos c2]; exact joined_right a b c1 c2 (by omega) (by omega) W
    · rw [if_neg c2]
      exact joined_both a b c1 c2 (by omega) (by omega) (by omega) (by omega) (by unfold InW; omega) (by unfold InW; omega) (by unfold InW; omega) (by unfold InW; omega) (by unfold InW; omega) (by unfold InW; omega) W
theorem good_single {n : Int} (h : Tame n) : Good (single n) 1 := by
  have := good0.add n
  unfold addN at this
  rw [if_pos h] at this
  have e : joinS st0 (single n) = single n := by unfold joinS single st0; simp
  rw [e] at this
  simpa using this
set_option maxHeartbeats 1000000 in
theorem add_wild (p : Nat) (S : St) (n : Int) (W : World) (hB : Blk W p 39 (accC true S)) (hn : ¬ Tame n) (w1 : 0 ≤ S.w) (w2 : S.w ≤ 2147483648) :
    Calls Try.prog 10 #[.pointer (some ⟨p, 0, none⟩), .int .i64 n] W fun e w' => e = .returned (.tuple #[]) ∧ Mo (W.setRow p (accC true ⟨S.c, S.w + 1, S.lo, S.hi, S.s, S.q⟩)) w' := by
  obtain ⟨V, J, d, rfl, rfl⟩ := blk_world hB
  clear hB
  obtain ⟨c, w, lo, hi, s, q⟩ := S
  simp only at w1 w2
  rw [setRow_more, setRow_alloc_at]
  have hc : n < -140737488355328 ∨ ¬ n < -140737488355328 ∧ 140737488355328 < n := by unfold Tame at hn; omega
  clear hn
  rcases hc with h | ⟨h, h'⟩
  · go_enter Try.func10, Try.ntmps10
    go_wp2_with fail
    exact bodyPost_ret (v := .tuple #[]) (by simp [results, Try.results10, go_sem]) rfl ⟨rfl, Mor.out⟩
  · go_enter Try.func10, Try.ntmps10
    go_wp2_with fail
    exact bodyPost_ret (v := .tuple #[]) (by simp [results, Try.results10, go_sem]) rfl ⟨rfl, Mor.out⟩
set_option maxHeartbeats 1000000 in
theorem add_tame (p : Nat) (S : St) (n m : Int) (W : World) (hB : Blk W p 39 (accC true S)) (hn : Tame n) (hS : Good S m) (hm : m ≤ 2147483648) :
    Calls Try.prog 10 #[.pointer (some ⟨p, 0, none⟩), .int .i64 n] W fun e w' => e = .returned (.tuple #[]) ∧ Mo (W.setRow p (accC true (joinS S (single n)))) w' := by
  obtain ⟨V, J, d, rfl, rfl⟩ := blk_world hB
  clear hB
  have J1 : Hid (∀ W, Calls Try.prog 15 #[SV S, SV (single n)] W fun e w' => e = .returned (SV (joinS S (single n))) ∧ Mo W w') := Lib.hid (joined_any S (single n) m 1 hS (good_single hn) hm (by omega))
  rw [setRow_more, setRow_alloc_at]
  generalize joinS S (single n) = S' at *
  unfold Tame at hn
  obtain ⟨n1, n2⟩ := hn
  have O1 : Hid (∀ W, Calls Try.prog 16 #[.int .i64 n] W fun e w' => e = .returned (WV n) ∧ Mo W w') := Lib.hid (of_any n (by omega) (by omega))
  have M1 : Hid (∀ W, Calls Try.prog 17 #[.int .i64 n, .int .i64 n] W fun e w' => e = .returned (WV (n * n)) ∧ Mo W w') := Lib.hid (mul_any n n (by omega) (by omega) (by omega) (by omega))
  clear hS hm
  unfold single at J1
  obtain ⟨c, w, lo, hi, s, q⟩ := S
  obtain ⟨c', w', lo', hi', s', q'⟩ := S'
  generalize n * n = nn at *
  go_enter Try.func10, Try.ntmps10
  go_upto_region 3 with (fail)
  refine wp_name ?_
  intro W hW
  have c1 : W.cell? ⟨V.heap.size, 1, none⟩ = some (.int .i64 c) := by rw [hW]; simp [go_sem]
  have c2 : W.cell? ⟨V.heap.size, 2, none⟩ = some (.int .i64 w) := by rw [hW]; simp [go_sem]
  have c3 : W.cell? ⟨V.heap.size, 3, none⟩ = some (.int .i64 lo) := by rw [hW]; simp [go_sem]
  have c4 : W.cell? ⟨V.heap.size, 4, none⟩ = some (.int .i64 hi) := by rw [hW]; simp [go_sem]
  have c5 : W.cell? ⟨V.heap.size, 5, none⟩ = some (.int .i64 (hiW s)) := by rw [hW]; simp [go_sem]
  have c6 : W.cell? ⟨V.heap.size, 6, none⟩ = some (.int .u64 (loW s)) := by rw [hW]; simp [go_sem]
  have c7 : W.cell? ⟨V.heap.size, 7, none⟩ = some (.int .i64 (hiW q)) := by rw [hW]; simp [go_sem]
  have c8 : W.cell? ⟨V.heap.size, 8, none⟩ = some (.int .u64 (loW q)) := by rw [hW]; simp [go_sem]
  have HW := Lib.hid hW
  clear hW
  have LW' : LtW V.heap.size W := LtW.of_cell c1
  refine wp_region_mo_tail 16 (by kernel_rfl) (by kernel_rfl) ?_
  simp only [List.take_succ_cons, List.take_zero, List.drop_succ_cons, List.drop_zero]
  repeat (go_big_quiet_step (first | (with_reducible exact quiet_mo (O1.out _)) | (with_reducible exact quiet_mo (M1.out _)) | (with_reducible exact quiet_mo (J1.out _))))
  refine wpQuiet_nil ?_
  intro _ hw'
  obtain ⟨⟨J2, d2⟩, hw''⟩ := hw'
  subst hw''
  obtain rfl := HW.out
  clear HW c1 c2 c3 c4 c5 c6 c7 c8 LW'
  go_wp2_with fail
  go_end0
  exact ⟨rfl, mo_more _ _ _ _ _⟩
theorem add_acc (p : Nat) (S : St) (n m : Int) (W : World) (hB : Blk W p 39 (accC true S)) (hS : Good S m) (hm : m ≤ 2147483648) :
    Calls Try.prog 10 #[.pointer (some ⟨p, 0, none⟩), .int .i64 n] W fun e w' => e = .returned (.tuple #[]) ∧ Mo (W.setRow p (accC true (addN S n))) w' := by
  unfold addN
  by_cases h : Tame n
  · rw [if_pos h]; exact add_tame p S n m W hB h hS hm
  · rw [if_neg h]; exact add_wild p S n W hB h hS.w0 (by have := hS.cw; have := hS.c0; omega)

/-- Of: what a slice of numbers comes to -/
def OfRet (l : List Int) (W : World) (e : Ending) (w' : World) : Prop := ∃ p, e = .returned (.pointer (some ⟨p, 0, none⟩)) ∧ W.heap.size ≤ p ∧ Blk w' p 39 (accC true (sumL l)) ∧ Mo W w'
theorem sumL_snoc (l : List Int) (k : Nat) (hk : k < l.length) : sumL (l.take (k + 1)) = addN (sumL (l.take k)) (l.getD k 0) := by
  unfold sumL
  rw [List.take_add_one, List.foldl_append, List.getElem?_eq_getElem hk]
  simp [hk]
theorem acc_0 : accC true (sumL []) = #[.bool true, .int .i64 0, .int .i64 0, .int .i64 0, .int .i64 0, .int .i64 0, .int .u64 0, .int .i64 0, .int .u64 0] := by rfl
theorem good_take (l : List Int) (k : Nat) (hk : k ≤ l.length) : Good (sumL (l.take k)) k := by
  have := good_sum (l.take k)
  rwa [List.length_take, Nat.min_eq_left hk] at this
set_option maxHeartbeats 1000000 in
theorem of_nothing (W : World) : Calls Try.prog 9 #[.slice none 0 0] W (OfRet [] W) := by
  go_enter Try.func9, Try.ntmps9
  go_wp2
  go_rounds 1
  go_ret
  refine ⟨W.heap.size, rfl, by omega, ?_, Mor.out⟩
  rw [acc_0]
  infer_instance
set_option maxHeartbeats 1000000 in
theorem of_some (l : List Int) (g off cap : Nat) (W : World) (hl : l.length ≤ 2147483648) (hc : ∀ j, j < l.length → W.cell? ⟨g, off + j, none⟩ = some (.int .i64 (l.getD j 0))) (hp : 0 < l.length) :
    Calls Try.prog 9 #[.slice (some ⟨g, off, none⟩) l.length cap] W (OfRet l W) := by
  have LG : LtW g W := LtW.of_cell (hc 0 hp)
  have HC := Lib.hid hc
  clear hc
  go_enter Try.func9, Try.ntmps9
  go_wp2
  go_loopw [5, 10] (fun x i wr => ∃ k : Nat, k ≤ l.length ∧ i = .int .i64 k ∧ Mo (W.alloc (.cells (accC true (sumL (l.take k))) 39)) wr) (fun _ i _ => l.length - (intOf i).toNat)
  case atStart => exact ⟨0, by omega, rfl, by rw [List.take_zero, acc_0]; exact Mor.out⟩
  case round =>
    obtain ⟨k, hk, rfl, J, d, rfl⟩ := hrel
    by_cases ck : k < l.length
    · have ce := HC.out k ck
      have A := Lib.hid (fun d => add_acc W.heap.size (sumL (l.take k)) (l.getD k 0) k (more (W.alloc (.cells (accC true (sumL (l.take k))) 39)) J d) inferInstance (good_take l k hk) (by omega))
      have SN := Lib.hid (sumL_snoc l k ck)
      generalize l.getD k 0 = n at *
      generalize sumL (l.take k) = S at *
      generalize addN S n = S' at *
      simp only [setRow_more, setRow_alloc_at] at A
      go_wp2_with fail
      refine (A.out _).mono ?_
      rintro e w1 ⟨rfl, J2, d2, rfl⟩
      go_wp2_with fail
      go_roundw
      case rel => exact ⟨k + 1, by omega, by go_num, by rw [SN.out]; exact Mor.out⟩
      case measure => simp [intOf]; omega
    · obtain rfl : k = l.length := by omega
      rw [List.take_length]
      go_wp2
      go_ret
      exact ⟨W.heap.size, rfl, by omega, inferInstance, Mor.out⟩
end Go.Proofs.Ytmaddbonkpfdgaa
