/- horologeref35: a maker of the reference, plain and in memory; Last, Put. -/
import Derived.Test.YtdgmcgfkammioaaEpV
import Derived.Test.YtdgmcgfkammioaaEpQ
namespace Go.Proofs.Ytdgmcgfkammioaa
open Go.RowKit Go.Maps

/-- a sample of the reference's -/
structure RS where
  s : Int
  at_ : Int
  o : Int
  d : Int
def rsC (x : RS) : List Value := [.int .i64 x.s, .int .i64 (hiW x.at_), .int .u64 (loW x.at_), .int .i64 x.o, .int .i64 x.d]
def rsL (L : List RS) : List Value := L.flatMap rsC
set_option maxRecDepth 20000 in
theorem rsL_len (L : List RS) : (rsL L).length = L.length * 5 := by
  induction L with
  | nil => rfl
  | cons x L ih =>
    show (rsC x ++ rsL L).length = _
    rw [List.length_append, ih, List.length_cons]
    show 5 + _ = _
    omega
set_option maxRecDepth 20000 in
theorem rsL_snoc (L : List RS) (x : RS) : rsL (L ++ [x]) = rsL L ++ rsC x := by unfold rsL; rw [List.flatMap_append]; simp
set_option maxRecDepth 20000 in
theorem rsL_get (L : List RS) : ∀ (j : Nat) (h : j < L.length) (i : Nat), i < 5 → (rsL L)[j * 5 + i]? = (rsC L[j])[i]? := by
  induction L with
  | nil => intro j h; cases h
  | cons x L ih =>
    intro j h i hi
    show (rsC x ++ rsL L)[j * 5 + i]? = _
    cases j with
    | zero => rw [Nat.zero_mul, Nat.zero_add, List.getElem?_append_left (by show i < 5; exact hi)]; rfl
    | succ j =>
      rw [List.getElem?_append_right (by show 5 ≤ _; omega)]
      have e : (j + 1) * 5 + i - (rsC x).length = j * 5 + i := by show _ - 5 = _; omega
      rw [e, ih j (by simpa using h) i hi]
      rfl
def smOf (x : RS) : Sm := ⟨x.s.toNat, x.o, x.d⟩
def flS (wd num : Int) (L : List RS) : List Sm := (L.filter fun x => decide (nOf wd x.at_ = num)).map smOf
set_option maxRecDepth 20000 in
theorem flS_snoc (wd num : Int) (L : List RS) (x : RS) : flS wd num (L ++ [x]) = flS wd num L ++ if nOf wd x.at_ = num then [smOf x] else [] := by
  unfold flS
  rw [List.filter_append, List.map_append]
  by_cases c : nOf wd x.at_ = num
  · rw [if_pos c]; simp [c]
  · rw [if_neg c]; simp [c]
set_option maxRecDepth 20000 in
theorem flS_take (wd num : Int) (L : List RS) (j : Nat) (hj : j < L.length) : flS wd num (L.take (j + 1)) = flS wd num (L.take j) ++ if nOf wd L[j].at_ = num then [smOf L[j]] else [] := by
  rw [List.take_add_one, List.getElem?_eq_getElem hj]
  exact flS_snoc _ _ _ _
/-- the place of the best one of a server's, among the first j -/
def BIdx (wd num : Int) (L : List RS) (k j : Nat) (bi : Int) : Prop :=
  (bi = -1 ∧ bestL (flS wd num (L.take j)) k = none) ∨ ∃ p : Nat, bi = p ∧ p < j ∧ ∃ h : p < L.length, bestL (flS wd num (L.take j)) k = some (L[p].o, L[p].d)
set_option maxRecDepth 20000 in
theorem BIdx.start (wd num : Int) (L : List RS) (k : Nat) : BIdx wd num L k 0 (-1) := .inl ⟨rfl, rfl⟩
set_option maxRecDepth 20000 in
theorem BIdx.skip {wd num : Int} {L : List RS} {k j : Nat} {bi : Int} (h : BIdx wd num L k j bi) (hj : j < L.length) (c : L[j].s.toNat ≠ k ∨ nOf wd L[j].at_ ≠ num) : BIdx wd num L k (j + 1) bi := by
  have e : bestL (flS wd num (L.take (j + 1))) k = bestL (flS wd num (L.take j)) k := by
    rw [flS_take _ _ _ _ hj]
    by_cases q : nOf wd L[j].at_ = num
    · rw [if_pos q, bestL_snoc]
      refine bestPut_other _ _ fun e => ?_
      rcases c with c | c
      · exact c e.symm
      · exact c q
    · rw [if_neg q, List.append_nil]
  rcases h with ⟨h1, h2⟩ | ⟨p, h1, h2, h3, h4⟩
  · exact .inl ⟨h1, by rw [e]; exact h2⟩
  · exact .inr ⟨p, h1, by omega, h3, by rw [e]; exact h4⟩
set_option maxRecDepth 20000 in
theorem BIdx.first {wd num : Int} {L : List RS} {k j : Nat} (h : BIdx wd num L k j (-1)) (hj : j < L.length) (c1 : L[j].s = k) (c2 : nOf wd L[j].at_ = num) : BIdx wd num L k (j + 1) j := by
  rcases h with ⟨-, h2⟩ | ⟨p, h1, _⟩
  · refine .inr ⟨j, rfl, by omega, hj, ?_⟩
    have ek : (smOf L[j]).s = k := by show L[j].s.toNat = k; omega
    rw [flS_take _ _ _ _ hj, if_pos c2, bestL_snoc, ek, bestPut_same, h2]
    rfl
  · omega
set_option maxRecDepth 20000 in
theorem BIdx.less {wd num : Int} {L : List RS} {k j p : Nat} (h : BIdx wd num L k j p) (hj : j < L.length) (hp : p < L.length) (c1 : L[j].s = k) (c2 : nOf wd L[j].at_ = num) (c3 : L[j].d < L[p].d) : BIdx wd num L k (j + 1) j := by
  rcases h with ⟨h1, -⟩ | ⟨q, h1, h2, h3, h4⟩
  · omega
  · obtain rfl : p = q := by omega
    refine .inr ⟨j, rfl, by omega, hj, ?_⟩
    have ek : (smOf L[j]).s = k := by show L[j].s.toNat = k; omega
    rw [flS_take _ _ _ _ hj, if_pos c2, bestL_snoc, ek, bestPut_same, h4]
    simp only
    rw [if_pos (by exact c3)]
    rfl
set_option maxRecDepth 20000 in
theorem BIdx.keep {wd num : Int} {L : List RS} {k j p : Nat} (h : BIdx wd num L k j p) (hj : j < L.length) (hp : p < L.length) (c1 : L[j].s = k) (c2 : nOf wd L[j].at_ = num) (c3 : ¬ L[j].d < L[p].d) : BIdx wd num L k (j + 1) p := by
  rcases h with ⟨h1, -⟩ | ⟨q, h1, h2, h3, h4⟩
  · omega
  · obtain rfl : p = q := by omega
    refine .inr ⟨p, rfl, by omega, hp, ?_⟩
    have ek : (smOf L[j]).s = k := by show L[j].s.toNat = k; omega
    rw [flS_take _ _ _ _ hj, if_pos c2, bestL_snoc, ek, bestPut_same, h4]
    simp only
    rw [if_neg (by exact c3)]
set_option maxRecDepth 20000 in
theorem BIdx.none {wd num : Int} {L : List RS} {k : Nat} {bi : Int} (h : BIdx wd num L k L.length bi) (c : bi < 0) : bestL (flS wd num L) k = none := by
  rcases h with ⟨-, h2⟩ | ⟨p, h1, _⟩
  · rwa [List.take_length] at h2
  · omega
set_option maxRecDepth 20000 in
theorem BIdx.some {wd num : Int} {L : List RS} {k : Nat} {bi : Int} (h : BIdx wd num L k L.length bi) (c : 0 ≤ bi) : ∃ p : Nat, bi = p ∧ ∃ h : p < L.length, bestL (flS wd num L) k = some (L[p].o, L[p].d) := by
  rcases h with ⟨h1, -⟩ | ⟨p, h1, h2, h3, h4⟩
  · omega
  · rw [List.take_length] at h4
    exact ⟨p, h1, h3, h4⟩
set_option maxRecDepth 20000 in
theorem keysB_succ (k : Nat) (f : BestF) : keysB (k + 1) f = keysB k f ++ if (f k).isSome = true then [k] else [] := by
  unfold keysB
  rw [List.range_succ, List.filter_append]
  congr 1
  by_cases c : (f k).isSome = true
  · rw [if_pos c]; simp [c]
  · rw [if_neg c]; simp [c]
set_option maxRecDepth 20000 in
theorem ivsB_succ (k : Nat) (f : BestF) : ivsB (k + 1) f = ivsB k f ++ match f k with | some x => [ivP x] | none => [] := by
  unfold ivsB
  rw [keysB_succ, List.map_append]
  congr 1
  cases e : f k with
  | none => simp
  | some x => simp [e]
/-! ### in memory -/
structure RfIs (W : World) (R b : Nat) (v : Value) (wd : Int) (sv : Nat) (L : List RS) : Prop where
  m : Blk W R 30 #[.int .i64 wd, .int .i64 (sv : Nat), v]
  row : W.ownsRow b 35 5 v L.length (rsL L)
  lt : R < b
  ok : ∀ x ∈ L, 0 ≤ x.s ∧ x.s < sv ∧ InW x.at_ ∧ Is64 x.o ∧ Is64 x.d
set_option maxRecDepth 20000 in
theorem RfIs.mo {W w : World} {R b : Nat} {v : Value} {wd : Int} {sv : Nat} {L : List RS} (h : RfIs W R b v wd sv L) (k : Mo W w) : RfIs w R b v wd sv L := ⟨k.blk h.m, owns_mo h.row k, h.lt, h.ok⟩
set_option maxRecDepth 20000 in
theorem own_at35 {w : World} {b T s n : Nat} {v : Value} {xs : List Value} (h : w.ownsRow b T s v n xs) (h0 : 0 < n) : ∃ g cap, v = .slice (some ⟨g, 0, none⟩) n cap ∧ b ≤ g ∧ ∀ (k : Nat) u, xs[k]? = some u → w.cell? ⟨g, k, none⟩ = some u := by
  rcases h.2 with ⟨_, e⟩ | ⟨g, cap, cur, hv, hb, hg, h3, h4, h5, h6⟩
  · omega
  · refine ⟨g, cap, hv, hb, fun k u hk => ?_⟩
    have lt := (List.getElem?_eq_some_iff.1 hk).1
    rw [h.1] at lt
    rw [blk_cell (⟨hg⟩ : Blk w g T cur), ← Array.getElem?_toList]
    rw [← h6, List.getElem?_take_of_lt lt] at hk
    exact hk
set_option maxRecDepth 20000 in
theorem own_sl35 {w : World} {b n s : Nat} {T : TypeId} {v : Value} {xs : List Value} (h : w.ownsRow b T s v n xs) : ∃ A c, v = .slice A n c := by
  rcases h.2 with ⟨rfl, rfl⟩ | ⟨g, cap, _, rfl, _⟩
  · exact ⟨none, 0, rfl⟩
  · exact ⟨_, cap, rfl⟩
set_option maxRecDepth 20000 in
theorem run_loadC35 (T : TypeId) (n : Nat) [h : RowT T n] (w : World) (g o : Nat) (cs : Array Value) (hs : cs.size = n) (hc : ∀ j v, cs.toList[j]? = some v → w.cell? ⟨g, o + j, none⟩ = some v) :
    (loadF T (.pointer (some ⟨g, o, none⟩))).run Try.prog w = .ok (.agg cs) w := by
  have hr := h.row
  split at hr
  case h_2 => cases hr
  case h_1 d hu =>
    have := run_loadAt_mid w g o T cs.toList d hc hu hr (by rw [h.info]; congr 1; simp [hs])
    rwa [Array.toArray_toList] at this
set_option maxRecDepth 20000 in
/-- a sample that is read -/
theorem RfIs.get {W : World} {R b : Nat} {v : Value} {wd : Int} {sv : Nat} {L : List RS} (h : RfIs W R b v wd sv L) (j : Nat) (hj : j < L.length) : ∃ g cap, v = .slice (some ⟨g, 0, none⟩) L.length cap ∧ LtW g W ∧ W.cell? ⟨g, j * 5, none⟩ = some (.int .i64 L[j].s) ∧ W.cell? ⟨g, j * 5 + 3, none⟩ = some (.int .i64 L[j].o) ∧ W.cell? ⟨g, j * 5 + 4, none⟩ = some (.int .i64 L[j].d) ∧
    (loadF 33 (.pointer (some ⟨g, j * 5 + 1, none⟩))).run Try.prog W = .ok (WV L[j].at_) W := by
  obtain ⟨g, cap, e, -, hc⟩ := own_at35 h.row (by omega)
  have c : ∀ i u, (rsC L[j])[i]? = some u → i < 5 → W.cell? ⟨g, j * 5 + i, none⟩ = some u := fun i u hu hi => hc _ _ (by rw [rsL_get L j hj i hi]; exact hu)
  have c0 := c 0 _ rfl (by omega)
  refine ⟨g, cap, e, LtW.of_cell c0, c0, c 3 _ rfl (by omega), c 4 _ rfl (by omega), ?_⟩
  refine run_loadC35 33 2 W g (j * 5 + 1) #[.int .i64 (hiW L[j].at_), .int .u64 (loW L[j].at_)] rfl fun i u hu => ?_
  match i, hu with
  | 0, hu => exact c 1 u hu (by omega)
  | 1, hu => exact c 2 u hu (by omega)
set_option maxRecDepth 20000 in
theorem RfIs.ld {W w : World} {R b g cap : Nat} {wd : Int} {sv : Nat} {L : List RS} (h : RfIs W R b (.slice (some ⟨g, 0, none⟩) L.length cap) wd sv L) (j : Nat) (hj : j < L.length) (M : Mo W w) : (loadF 33 (.pointer (some ⟨g, j * 5 + 1, none⟩))).run Try.prog w = .ok (WV L[j].at_) w := by
  obtain ⟨g', cap', e, -, -, -, -, ld⟩ := (h.mo M).get j hj
  injection e with e
  injection e with e
  injection e with e
  subst e
  exact ld
set_option maxRecDepth 20000 in
theorem loadF_wide35 (v : Value) : Instr.loadAt 33 v = loadF 33 v := rfl
attribute [local go_sem] blk_cell' blk_frozen'
attribute [local go_sem ↓] loadF_wide35 app35_fold
set_option maxRecDepth 20000 in
set_option maxHeartbeats 4000000 in
theorem rlast_no (R b : Nat) (v : Value) (wd : Int) (sv : Nat) (W : World) (h : RfIs W R b v wd sv []) :
    Calls Try.prog 16 #[.pointer (some ⟨R, 0, none⟩)] W fun e w' => e = .returned (.tuple #[.int .i64 0, .bool false]) ∧ Mo W w' := by
  have bR := h.m
  obtain ⟨A, c, rfl⟩ := own_sl35 h.row
  clear h
  go_enter Try.func16, Try.ntmps16
  go_wp2_with fail
  go_ret2
  exact ⟨rfl, Mor.out⟩
set_option maxRecDepth 20000 in
set_option maxHeartbeats 4000000 in
theorem rlast_yes (R b n : Nat) (v : Value) (wd : Int) (sv : Nat) (L : List RS) (W : World) (h : RfIs W R b v wd sv L) (hn : L.length = n + 1) (hl : n ≤ 1000) (w0 : 1 ≤ wd) (w1 : wd ≤ 1152921504606846976) :
    Calls Try.prog 16 #[.pointer (some ⟨R, 0, none⟩)] W fun e w' => e = .returned (.tuple #[.int .i64 (nOf wd (L[n]'(by omega)).at_), .bool true]) ∧ Mo W w' := by
  have bR := h.m
  obtain ⟨g, cap, rfl, lt, -, -, -, ld⟩ := h.get n (by omega)
  have ok := h.ok _ (List.getElem_mem (show n < L.length by omega))
  have NU := Lib.hid (fun w (m : Mo W w) => rnum35_any R wd (.int .i64 (sv : Nat)) (.slice (some ⟨g, 0, none⟩) L.length cap) L[n].at_ w (m.blk h.m) w0 w1 ok.2.2.1)
  have lds := fun J d => h.ld n (by omega) (Mor.out : Mo W (more W J d))
  rw [hn] at bR
  generalize nOf wd L[n].at_ = r at *
  generalize L[n].at_ = at_ at *
  have hw : IntKind.i64.wrap (((n + 1 : Nat) : Int) - 1) = n := by rw [IntKind.wrap_i64]; omega
  have hw' : IntKind.i64.wrap ((n : Int) + 1 - 1) = n := by rw [IntKind.wrap_i64]; omega
  have i0 : (0 : Int) ≤ n := by omega
  have i1 : (n : Int) < ((n + 1 : Nat) : Int) := by omega
  have i1' : (n : Int) < (n : Int) + 1 := by omega
  have d0 : ((((n + 1 : Nat) : Int)) == 0) = false := by simp; omega
  have d0' : (((n : Int) + 1) == 0) = false := by simp; omega
  clear h ok hn ld
  go_enter Try.func16, Try.ntmps16
  go_upto_region 3 with (fail)
  first | (refine wp_region_mo (by kernel_rfl) (by kernel_rfl) ?_) | (refine wp_region_mo' (by kernel_rfl) (by kernel_rfl) ?_)
  repeat (go_big_quiet_step (first | (with_reducible exact quiet_mo (NU.out _ Mor.out))))
  refine wpQuiet_nil ?_
  intro _ hw'
  obtain ⟨⟨J9, d9⟩, hw''⟩ := hw'
  subst hw''
  go_wp2_with fail
  go_ret2
  exact ⟨rfl, Mor.out⟩
def lastN (wd : Int) (L : List RS) : Int := match L.getLast? with
  | some x => nOf wd x.at_
  | none => 0
set_option maxRecDepth 20000 in
theorem rlast_any (R b : Nat) (v : Value) (wd : Int) (sv : Nat) (L : List RS) (W : World) (h : RfIs W R b v wd sv L) (hl : L.length ≤ 1000) (w0 : 1 ≤ wd) (w1 : wd ≤ 1152921504606846976) :
    Calls Try.prog 16 #[.pointer (some ⟨R, 0, none⟩)] W fun e w' => e = .returned (.tuple #[.int .i64 (lastN wd L), .bool (!L.isEmpty)]) ∧ Mo W w' := by
  cases hn : L.length with
  | zero =>
    obtain rfl : L = [] := List.eq_nil_of_length_eq_zero hn
    exact rlast_no R b v wd sv W h
  | succ n =>
    have := rlast_yes R b n v wd sv L W h hn (by omega) w0 w1
    have e1 : lastN wd L = nOf wd (L[n]'(by omega)).at_ := by
      unfold lastN
      have q : L.length - 1 = n := by omega
      rw [List.getLast?_eq_getElem?, q, List.getElem?_eq_getElem (by omega)]
    have e2 : (!L.isEmpty) = true := by
      cases L with
      | nil => cases hn
      | cons _ _ => rfl
    rw [e1, e2]
    exact this
set_option maxRecDepth 20000 in
theorem infoRS : (Try.prog.info? 35).map (fun i => (i.zero, i.size, i.bytes)) = some (some (.agg #[.int .i64 0, .int .i64 0, .int .u64 0, .int .i64 0, .int .i64 0]), 5, 40) := by kernel_rfl
set_option maxRecDepth 20000 in
set_option maxHeartbeats 4000000 in
theorem rput_other (R : Nat) (v : Value) (wd : Int) (sv : Nat) (s a o d : Int) (W : World) (bR : Blk W R 30 #[.int .i64 wd, .int .i64 (sv : Nat), v]) (c : s < 0 ∨ (sv : Int) ≤ s) :
    Calls Try.prog 12 #[.pointer (some ⟨R, 0, none⟩), .agg #[.int .i64 s, .int .i64 (hiW a), .int .u64 (loW a), .int .i64 o, .int .i64 d]] W fun e w' => e = .returned (.tuple #[.int .i64 0, .bool false, .int .u8 3]) ∧ Mo W w' := by
  by_cases c1 : s < 0
  · have d1 : decide (s < 0) = true := decide_eq_true c1
    clear c
    go_enter Try.func12, Try.ntmps12
    go_upto_region 1 with (fail)
    first | (refine wp_region_mo (by kernel_rfl) (by kernel_rfl) ?_) | (refine wp_region_mo' (by kernel_rfl) (by kernel_rfl) ?_)
    repeat (go_big_quiet_step (fail))
    refine wpQuiet_nil ?_
    intro _ hw'
    obtain ⟨⟨J9, d9⟩, hw''⟩ := hw'
    subst hw''
    go_wp2_with fail
    exact bodyPost_ret (v := .tuple #[.int .i64 0, .bool false, .int .u8 3]) (by simp [results, Try.results12, go_sem]) rfl ⟨rfl, Mor.out⟩
  · have d1 : decide (s < 0) = false := decide_eq_false c1
    have d2 : decide ((sv : Int) ≤ s) = true := decide_eq_true (by omega)
    clear c
    go_enter Try.func12, Try.ntmps12
    go_upto_region 1 with (fail)
    first | (refine wp_region_mo (by kernel_rfl) (by kernel_rfl) ?_) | (refine wp_region_mo' (by kernel_rfl) (by kernel_rfl) ?_)
    repeat (go_big_quiet_step (fail))
    refine wpQuiet_nil ?_
    intro _ hw'
    obtain ⟨⟨J9, d9⟩, hw''⟩ := hw'
    subst hw''
    go_wp2_with fail
    exact bodyPost_ret (v := .tuple #[.int .i64 0, .bool false, .int .u8 3]) (by simp [results, Try.results12, go_sem]) rfl ⟨rfl, Mor.out⟩
set_option maxRecDepth 20000 in
set_option maxHeartbeats 4000000 in
theorem rput_late (R b n : Nat) (v : Value) (wd : Int) (sv : Nat) (L : List RS) (a o d : Int) (W : World) (h : RfIs W R b v wd sv L) (hl : L.length ≤ 1000) (w0 : 1 ≤ wd) (w1 : wd ≤ 1152921504606846976) (hn : n < sv) (ha : InW a) (ne : L.isEmpty = false) (c : nOf wd a < lastN wd L) :
    Calls Try.prog 12 #[.pointer (some ⟨R, 0, none⟩), .agg #[.int .i64 n, .int .i64 (hiW a), .int .u64 (loW a), .int .i64 o, .int .i64 d]] W fun e w' => e = .returned (.tuple #[.int .i64 0, .bool false, .int .u8 2]) ∧ Mo W w' := by
  have LA := Lib.hid (fun w (k : Mo W w) => rlast_any R b v wd sv L w (h.mo k) hl w0 w1)
  have NU := Lib.hid (fun w (k : Mo W w) => rnum35_any R wd (.int .i64 (sv : Nat)) v a w (k.blk h.m) w0 w1 ha)
  have bR := h.m
  have d1 : decide ((n : Int) < 0) = false := decide_eq_false (by omega)
  have d2 : decide ((sv : Int) ≤ n) = false := decide_eq_false (by omega)
  have d2' : decide (sv ≤ n) = false := decide_eq_false (by omega)
  rw [ne] at LA
  generalize lastN wd L = ls at *
  generalize nOf wd a = nO at *
  have d3 : decide (nO < ls) = true := decide_eq_true c
  clear h
  go_enter Try.func12, Try.ntmps12
  go_upto_region 1 with (fail)
  first | (refine wp_region_mo (by kernel_rfl) (by kernel_rfl) ?_) | (refine wp_region_mo' (by kernel_rfl) (by kernel_rfl) ?_)
  repeat (go_big_quiet_step (fail))
  refine wpQuiet_nil ?_
  intro _ hw'
  obtain ⟨⟨J9, d9⟩, hw''⟩ := hw'
  subst hw''
  go_upto_region 3 with (fail)
  refine wp_name ?_
  intro wq hwq
  have bx : Blk wq W.heap.size 35 #[.int .i64 n, .int .i64 (hiW a), .int .u64 (loW a), .int .i64 o, .int .i64 d] := by rw [hwq]; infer_instance
  have Mq : Mo W wq := by rw [hwq]; exact Mor.out
  clear hwq
  go_wp2_with fail
  refine (LA.out _ Mq).mono ?_
  rintro e w1 ⟨rfl, M1⟩
  have M1' := Mq.trans M1
  have bx1 := M1.blk bx
  have bR1 := M1'.blk bR
  have ldx : (loadF 33 (.pointer (some ⟨W.heap.size, 1, none⟩))).run Try.prog w1 = .ok (WV a) w1 := run_loadC35 33 2 w1 W.heap.size 1 #[.int .i64 (hiW a), .int .u64 (loW a)] rfl fun i u hu => by
    match i, hu with
    | 0, hu => rw [blk_cell bx1]; exact hu
    | 1, hu => rw [blk_cell bx1]; exact hu
  clear M1 LA bx Mq bR
  go_wp2_with fail
  refine (NU.out _ M1').mono ?_
  rintro e w2 ⟨rfl, M2⟩
  have N2 := M1'.trans M2
  have bx2 := M2.blk bx1
  have bR2 := M2.blk bR1
  clear M2 NU bx1 M1' bR1 ldx
  go_wp2_with fail
  exact bodyPost_ret (v := .tuple #[.int .i64 0, .bool false, .int .u8 2]) (by simp [results, Try.results12, go_sem]) rfl ⟨rfl, N2⟩
/-- what the reference's Put does with a sample that is kept -/
def RPutRet (R n : Nat) (v : Value) (wd : Int) (sv : Nat) (L : List RS) (a o d : Int) (U W : World) (e : Ending) (w' : World) : Prop :=
  ∃ v', RfIs w' R U.heap.size v' wd sv (L ++ [⟨n, a, o, d⟩]) ∧ KpS (fun i => i = R ∨ v.ownBlock = some i) W w' ∧
      e = .returned (.tuple (if L.isEmpty = false ∧ lastN wd L < nOf wd a then #[.int .i64 (lastN wd L), .bool true, .int .u8 1] else #[.int .i64 0, .bool false, .int .u8 1]))
set_option maxRecDepth 20000 in
set_option maxHeartbeats 8000000 in
theorem rput_kept (R n : Nat) (v : Value) (wd : Int) (sv : Nat) (L : List RS) (a o d : Int) (U W : World) (h : RfIs W R U.heap.size v wd sv L) (hl : L.length ≤ 1000) (w0 : 1 ≤ wd) (w1 : wd ≤ 1152921504606846976) (hn : n < sv) (ha : InW a) (ho : Is64 o) (hd : Is64 d) (c : L.isEmpty = false → lastN wd L ≤ nOf wd a) (hU : U.heap.size ≤ W.heap.size) :
    Calls Try.prog 12 #[.pointer (some ⟨R, 0, none⟩), .agg #[.int .i64 n, .int .i64 (hiW a), .int .u64 (loW a), .int .i64 o, .int .i64 d]] W (RPutRet R n v wd sv L a o d U W) := by
  obtain ⟨PO, hPO⟩ : ∃ P, RPutRet R n v wd sv L a o d U W = P := ⟨_, rfl⟩
  rw [hPO]
  unfold RPutRet at hPO
  have RR := Lib.hid hPO
  clear hPO
  have LA := Lib.hid (fun w (k : Mo W w) => rlast_any R U.heap.size v wd sv L w (h.mo k) hl w0 w1)
  obtain ⟨em, hem⟩ : ∃ b, L.isEmpty = b := ⟨_, rfl⟩
  have HEM := Lib.hid hem
  rw [hem] at LA c
  clear hem
  have NU := Lib.hid (fun w (k : Mo W w) => rnum35_any R wd (.int .i64 (sv : Nat)) v a w (k.blk h.m) w0 w1 ha)
  have bR := h.m
  have d1 : decide ((n : Int) < 0) = false := decide_eq_false (by omega)
  have d2 : decide ((sv : Int) ≤ n) = false := decide_eq_false (by omega)
  have d2' : decide (sv ≤ n) = false := decide_eq_false (by omega)
  have HH := Lib.hid h
  generalize lastN wd L = ls at *
  generalize nOf wd a = nO at *
  have RN := rsL_snoc L ⟨n, a, o, d⟩
  have OK : ∀ x ∈ L ++ [(⟨n, a, o, d⟩ : RS)], 0 ≤ x.s ∧ x.s < sv ∧ InW x.at_ ∧ Is64 x.o ∧ Is64 x.d := fun x hx => by
    rcases List.mem_append.1 hx with q | q
    · exact h.ok x q
    · rw [List.mem_singleton] at q
      rw [q]
      exact ⟨by show (0 : Int) ≤ n; omega, by show (n : Int) < sv; omega, ha, ho, hd⟩
  have HOK := Lib.hid OK
  have HRN := Lib.hid RN
  have HLT := Lib.hid h.lt
  obtain ⟨i0, hi, hz0, hz1, hz2⟩ := info_parts infoRS
  clear h RN OK
  go_enter Try.func12, Try.ntmps12
  go_upto_region 1 with (fail)
  first | (refine wp_region_mo (by kernel_rfl) (by kernel_rfl) ?_) | (refine wp_region_mo' (by kernel_rfl) (by kernel_rfl) ?_)
  repeat (go_big_quiet_step (fail))
  refine wpQuiet_nil ?_
  intro _ hw'
  obtain ⟨⟨J9, d9⟩, hw''⟩ := hw'
  subst hw''
  go_upto_region 3 with (fail)
  refine wp_name ?_
  intro wq hwq
  have bx : Blk wq W.heap.size 35 #[.int .i64 n, .int .i64 (hiW a), .int .u64 (loW a), .int .i64 o, .int .i64 d] := by rw [hwq]; infer_instance
  have Mq : Mo W wq := by rw [hwq]; exact Mor.out
  clear hwq
  go_wp2_with fail
  refine (LA.out _ Mq).mono ?_
  rintro e w1 ⟨rfl, M1⟩
  have M1' := Mq.trans M1
  have bx1 := M1.blk bx
  have bR1 := M1'.blk bR
  have ldx : (loadF 33 (.pointer (some ⟨W.heap.size, 1, none⟩))).run Try.prog w1 = .ok (WV a) w1 := run_loadC35 33 2 w1 W.heap.size 1 #[.int .i64 (hiW a), .int .u64 (loW a)] rfl fun i u hu => by
    match i, hu with
    | 0, hu => rw [blk_cell bx1]; exact hu
    | 1, hu => rw [blk_cell bx1]; exact hu
  clear M1 LA bx Mq bR
  go_wp2_with fail
  refine (NU.out _ M1').mono ?_
  rintro e w2 ⟨rfl, M2⟩
  have N2 := M1'.trans M2
  have bx2 := M2.blk bx1
  have bR2 := M2.blk bR1
  clear M2 NU bx1 M1' bR1 ldx
  cases em with
  | true =>
    clear c
    have hT := (Mor.out : Mo w2 ((w2.alloc (.cells #[.int .i64 n, .int .i64 (hiW a), .int .u64 (loW a), .int .i64 o, .int .i64 d] 35)).drew))
    have row2 := owns_mo HH.out.row N2
    obtain ⟨v4, w4, hrun, hown4, hgrow4, -, -⟩ := run_append_own_at (P := Try.prog) ((w2.alloc (.cells #[.int .i64 n, .int .i64 (hiW a), .int .u64 (loW a), .int .i64 o, .int .i64 d] 35)).drew) U.heap.size 22 22 35 i0 (.agg #[.int .i64 0, .int .i64 0, .int .u64 0, .int .i64 0, .int .i64 0]) 5 40 Try.underlying22 hi hz0 hz1 hz2 rfl (by decide) _ _ _ (owns_mo row2 hT) ⟨w2.heap.size, 0, none⟩ 1 1 [.int .i64 n, .int .i64 (hiW a), .int .u64 (loW a), .int .i64 o, .int .i64 d] rfl (news_of_blk (g := w2.heap.size) (t := 35) (cs := #[.int .i64 n, .int .i64 (hiW a), .int .u64 (loW a), .int .i64 o, .int .i64 d]) inferInstance _ rfl) (by intro u hu; simp at hu; rcases hu with rfl | rfl | rfl | rfl | rfl <;> rfl) (by unfold maxLen; omega) (by omega) (Nat.le_trans hU (N2.trans hT).size)
    replace hrun : (app35 #[22, 22] 22 #[v, .slice (some ⟨w2.heap.size, 0, none⟩) 1 1]).run Try.prog _ = .ok v4 w4 := hrun
    obtain ⟨g4, c4, rfl⟩ := ownsRow_succ hown4
    have gne : some R ≠ v.ownBlock := fun e => by
      have := (row2.lt R e.symm).1
      have := HLT.out
      omega
    have bR4 : Blk w4 R 30 #[.int .i64 wd, .int .i64 (sv : Nat), v] := ⟨(hgrow4.block R (by have := bR2.lt; simp; omega) gne).trans (inferInstance : Blk ((w2.alloc (.cells #[.int .i64 n, .int .i64 (hiW a), .int .u64 (loW a), .int .i64 o, .int .i64 d] 35)).drew) R 30 #[.int .i64 wd, .int .i64 (sv : Nat), v]).out⟩
    have yv : w2.cell? ⟨R, 2, none⟩ = some v := by rw [blk_cell bR2]; rfl
    have K4 : KpS (fun i => i = R ∨ v.ownBlock = some i) W w4 := ⟨hgrow4.os.trans (N2.trans hT).below.os, hgrow4.tape.trans (N2.trans hT).below.tape, hgrow4.output.trans (N2.trans hT).below.output, Nat.le_trans (N2.trans hT).size hgrow4.size, fun k hk nk => (hgrow4.block k (Nat.lt_of_lt_of_le hk (N2.trans hT).size) fun e => nk (.inr e.symm)).trans ((N2.trans hT).below.block k hk)⟩
    have HB := Lib.hid (blk_setCell bR4 2 (.slice (some ⟨g4, 0, none⟩) (L.length + 1) c4))
    have HR := Lib.hid (owns_set35 hown4 (R := R) (fun e => by have := (hown4.lt R e.symm).1; have := HLT.out; omega) 2 (.slice (some ⟨g4, 0, none⟩) (L.length + 1) c4))
    have HK := Lib.hid (K4.cell (.inl rfl) 2 (.slice (some ⟨g4, 0, none⟩) (L.length + 1) c4))
    clear hown4 hgrow4 gne hT K4 row2 N2
    go_upto_region 7 with (fail)
    go_region
    go_wp2_with fail
    rw [← RR.out]
    exact ⟨_, ⟨HB.out, by rw [List.length_append, HRN.out]; exact HR.out, HLT.out, HOK.out⟩, HK.out, by rw [if_neg (fun q => by have q1 := q.1; rw [HEM.out] at q1; cases q1)]; rfl⟩
  | false =>
    have cc := c rfl
    have d3 : decide (nO < ls) = false := decide_eq_false (by omega)
    clear c
    by_cases c2 : ls < nO
    · have d4 : decide (ls < nO) = true := decide_eq_true c2
      have hT := (Mor.out : Mo w2 ((w2.alloc (.cells #[.int .i64 n, .int .i64 (hiW a), .int .u64 (loW a), .int .i64 o, .int .i64 d] 35)).drew))
      have row2 := owns_mo HH.out.row N2
      obtain ⟨v4, w4, hrun, hown4, hgrow4, -, -⟩ := run_append_own_at (P := Try.prog) ((w2.alloc (.cells #[.int .i64 n, .int .i64 (hiW a), .int .u64 (loW a), .int .i64 o, .int .i64 d] 35)).drew) U.heap.size 22 22 35 i0 (.agg #[.int .i64 0, .int .i64 0, .int .u64 0, .int .i64 0, .int .i64 0]) 5 40 Try.underlying22 hi hz0 hz1 hz2 rfl (by decide) _ _ _ (owns_mo row2 hT) ⟨w2.heap.size, 0, none⟩ 1 1 [.int .i64 n, .int .i64 (hiW a), .int .u64 (loW a), .int .i64 o, .int .i64 d] rfl (news_of_blk (g := w2.heap.size) (t := 35) (cs := #[.int .i64 n, .int .i64 (hiW a), .int .u64 (loW a), .int .i64 o, .int .i64 d]) inferInstance _ rfl) (by intro u hu; simp at hu; rcases hu with rfl | rfl | rfl | rfl | rfl <;> rfl) (by unfold maxLen; omega) (by omega) (Nat.le_trans hU (N2.trans hT).size)
      replace hrun : (app35 #[22, 22] 22 #[v, .slice (some ⟨w2.heap.size, 0, none⟩) 1 1]).run Try.prog _ = .ok v4 w4 := hrun
      obtain ⟨g4, c4, rfl⟩ := ownsRow_succ hown4
      have gne : some R ≠ v.ownBlock := fun e => by
        have := (row2.lt R e.symm).1
        have := HLT.out
        omega
      have bR4 : Blk w4 R 30 #[.int .i64 wd, .int .i64 (sv : Nat), v] := ⟨(hgrow4.block R (by have := bR2.lt; simp; omega) gne).trans (inferInstance : Blk ((w2.alloc (.cells #[.int .i64 n, .int .i64 (hiW a), .int .u64 (loW a), .int .i64 o, .int .i64 d] 35)).drew) R 30 #[.int .i64 wd, .int .i64 (sv : Nat), v]).out⟩
      have yv : w2.cell? ⟨R, 2, none⟩ = some v := by rw [blk_cell bR2]; rfl
      have K4 : KpS (fun i => i = R ∨ v.ownBlock = some i) W w4 := ⟨hgrow4.os.trans (N2.trans hT).below.os, hgrow4.tape.trans (N2.trans hT).below.tape, hgrow4.output.trans (N2.trans hT).below.output, Nat.le_trans (N2.trans hT).size hgrow4.size, fun k hk nk => (hgrow4.block k (Nat.lt_of_lt_of_le hk (N2.trans hT).size) fun e => nk (.inr e.symm)).trans ((N2.trans hT).below.block k hk)⟩
      have HB := Lib.hid (blk_setCell bR4 2 (.slice (some ⟨g4, 0, none⟩) (L.length + 1) c4))
      have HR := Lib.hid (owns_set35 hown4 (R := R) (fun e => by have := (hown4.lt R e.symm).1; have := HLT.out; omega) 2 (.slice (some ⟨g4, 0, none⟩) (L.length + 1) c4))
      have HK := Lib.hid (K4.cell (.inl rfl) 2 (.slice (some ⟨g4, 0, none⟩) (L.length + 1) c4))
      clear hown4 hgrow4 gne hT K4 row2 N2
      go_upto_region 7 with (fail)
      go_region
      go_wp2_with fail
      rw [← RR.out]
      exact ⟨_, ⟨HB.out, by rw [List.length_append, HRN.out]; exact HR.out, HLT.out, HOK.out⟩, HK.out, by rw [if_pos ⟨HEM.out, c2⟩]; rfl⟩
    · have d4 : decide (ls < nO) = false := decide_eq_false c2
      have hT := (Mor.out : Mo w2 ((w2.alloc (.cells #[.int .i64 n, .int .i64 (hiW a), .int .u64 (loW a), .int .i64 o, .int .i64 d] 35)).drew))
      have row2 := owns_mo HH.out.row N2
      obtain ⟨v4, w4, hrun, hown4, hgrow4, -, -⟩ := run_append_own_at (P := Try.prog) ((w2.alloc (.cells #[.int .i64 n, .int .i64 (hiW a), .int .u64 (loW a), .int .i64 o, .int .i64 d] 35)).drew) U.heap.size 22 22 35 i0 (.agg #[.int .i64 0, .int .i64 0, .int .u64 0, .int .i64 0, .int .i64 0]) 5 40 Try.underlying22 hi hz0 hz1 hz2 rfl (by decide) _ _ _ (owns_mo row2 hT) ⟨w2.heap.size, 0, none⟩ 1 1 [.int .i64 n, .int .i64 (hiW a), .int .u64 (loW a), .int .i64 o, .int .i64 d] rfl (news_of_blk (g := w2.heap.size) (t := 35) (cs := #[.int .i64 n, .int .i64 (hiW a), .int .u64 (loW a), .int .i64 o, .int .i64 d]) inferInstance _ rfl) (by intro u hu; simp at hu; rcases hu with rfl | rfl | rfl | rfl | rfl <;> rfl) (by unfold maxLen; omega) (by omega) (Nat.le_trans hU (N2.trans hT).size)
      replace hrun : (app35 #[22, 22] 22 #[v, .slice (some ⟨w2.heap.size, 0, none⟩) 1 1]).run Try.prog _ = .ok v4 w4 := hrun
      obtain ⟨g4, c4, rfl⟩ := ownsRow_succ hown4
      have gne : some R ≠ v.ownBlock := fun e => by
        have := (row2.lt R e.symm).1
        have := HLT.out
        omega
      have bR4 : Blk w4 R 30 #[.int .i64 wd, .int .i64 (sv : Nat), v] := ⟨(hgrow4.block R (by have := bR2.lt; simp; omega) gne).trans (inferInstance : Blk ((w2.alloc (.cells #[.int .i64 n, .int .i64 (hiW a), .int .u64 (loW a), .int .i64 o, .int .i64 d] 35)).drew) R 30 #[.int .i64 wd, .int .i64 (sv : Nat), v]).out⟩
      have yv : w2.cell? ⟨R, 2, none⟩ = some v := by rw [blk_cell bR2]; rfl
      have K4 : KpS (fun i => i = R ∨ v.ownBlock = some i) W w4 := ⟨hgrow4.os.trans (N2.trans hT).below.os, hgrow4.tape.trans (N2.trans hT).below.tape, hgrow4.output.trans (N2.trans hT).below.output, Nat.le_trans (N2.trans hT).size hgrow4.size, fun k hk nk => (hgrow4.block k (Nat.lt_of_lt_of_le hk (N2.trans hT).size) fun e => nk (.inr e.symm)).trans ((N2.trans hT).below.block k hk)⟩
      have HB := Lib.hid (blk_setCell bR4 2 (.slice (some ⟨g4, 0, none⟩) (L.length + 1) c4))
      have HR := Lib.hid (owns_set35 hown4 (R := R) (fun e => by have := (hown4.lt R e.symm).1; have := HLT.out; omega) 2 (.slice (some ⟨g4, 0, none⟩) (L.length + 1) c4))
      have HK := Lib.hid (K4.cell (.inl rfl) 2 (.slice (some ⟨g4, 0, none⟩) (L.length + 1) c4))
      clear hown4 hgrow4 gne hT K4 row2 N2
      go_upto_region 7 with (fail)
      go_region
      go_wp2_with fail
      rw [← RR.out]
      exact ⟨_, ⟨HB.out, by rw [List.length_append, HRN.out]; exact HR.out, HLT.out, HOK.out⟩, HK.out, by rw [if_neg (fun q => by have := q.2; omega)]; rfl⟩
end Go.Proofs.Ytdgmcgfkammioaa
