/- horologelaw35.EpochParts: samples parted into groups, plain and in memory. -/
import Derived.Test.YtdgmcgfkammioaaEpI
namespace Go.Proofs.Ytdgmcgfkammioaa
open Go.RowKit Go.Maps

/-! ### plain -/
def on0 (p : PtS) : PtS := ⟨p.s, 0, p.o, p.d⟩
structure QS where
  n : Int
  done : List (Int × List PtS)
  cur : List PtS
def qStep (st : QS) (p : PtS) : QS :=
  if st.cur = [] then ⟨st.n + p.on % 4, st.done, [on0 p]⟩
  else if p.on % 4 = 0 then ⟨st.n + p.on % 4, st.done, st.cur ++ [on0 p]⟩
  else ⟨st.n + p.on % 4, st.done ++ [(st.n, st.cur)], [on0 p]⟩
def qS (l : List PtS) : QS := l.foldl qStep ⟨0, [], []⟩
def qG (st : QS) : List (Int × List PtS) := if st.cur = [] then st.done else st.done ++ [(st.n, st.cur)]
def mG (g : Int × List PtS) : Int × List Sm := (g.1, g.2.map (smP 0))
set_option maxRecDepth 20000 in
theorem qS_snoc (l : List PtS) (p : PtS) : qS (l ++ [p]) = qStep (qS l) p := by unfold qS; rw [List.foldl_append]; rfl
set_option maxRecDepth 20000 in
theorem qS_take (l : List PtS) (j : Nat) (hj : j < l.length) : qS (l.take (j + 1)) = qStep (qS (l.take j)) l[j] := by
  rw [List.take_add_one, List.getElem?_eq_getElem hj]
  exact qS_snoc _ _
set_option maxRecDepth 20000 in
theorem smP_on0 (p : PtS) : smP 0 (on0 p) = smP 0 p := rfl
set_option maxRecDepth 20000 in
theorem qS_go (l : List PtS) : goS 0 0 l = ⟨(qS l).n, (qS l).done.map mG, (qS l).cur.map (smP 0)⟩ := by
  refine snoc_ind (P := fun l => goS 0 0 l = ⟨(qS l).n, (qS l).done.map mG, (qS l).cur.map (smP 0)⟩) rfl (fun l p ih => ?_) l
  rw [goS_snoc, ih, qS_snoc]
  generalize qS l = st
  unfold gStep qStep
  simp only [List.map_eq_nil_iff]
  split
  · rfl
  · split
    · simp only [List.map_append, List.map_cons, List.map_nil, smP_on0]
    · simp only [List.map_append, List.map_cons, List.map_nil, smP_on0]
      rfl
set_option maxRecDepth 20000 in
theorem qG_go (l : List PtS) : grpG (goS 0 0 l) = (qG (qS l)).map mG := by
  rw [qS_go]
  unfold grpG qG
  simp only [List.map_eq_nil_iff]
  split
  · rfl
  · rw [List.map_append]
    rfl
set_option maxRecDepth 20000 in
theorem qStep_n (st : QS) (p : PtS) : (qStep st p).n = st.n + p.on % 4 := by
  unfold qStep
  split
  · rfl
  · split <;> rfl
structure QOk (st : QS) : Prop where
  e : st.cur = [] → st.done = []
  d : ∀ g ∈ st.done, g.2 ≠ [] ∧ ∀ p ∈ g.2, PtOk p ∧ p.on = 0
  c : ∀ p ∈ st.cur, PtOk p ∧ p.on = 0
set_option maxRecDepth 20000 in
theorem on0_ok {p : PtS} (h : PtOk p) : PtOk (on0 p) ∧ (on0 p).on = 0 := ⟨⟨h.s, ⟨by show (0 : Int) ≤ 0; omega, by show (0 : Int) ≤ 255; omega⟩, h.o, h.d⟩, rfl⟩
set_option maxRecDepth 20000 in
theorem qStep_ok {st : QS} {p : PtS} (h : QOk st) (hp : PtOk p) : QOk (qStep st p) := by
  have one : ∀ x ∈ [on0 p], PtOk x ∧ x.on = 0 := fun x hx => by rw [List.mem_singleton] at hx; rw [hx]; exact on0_ok hp
  unfold qStep
  split
  · exact ⟨fun q => (by cases q), h.d, one⟩
  · next c =>
    split
    · refine ⟨fun q => absurd q (by simp), h.d, fun x hx => ?_⟩
      rcases List.mem_append.1 hx with hx | hx
      · exact h.c x hx
      · exact one x hx
    · refine ⟨fun q => (by cases q), fun g hg => ?_, one⟩
      rcases List.mem_append.1 hg with hg | hg
      · exact h.d g hg
      · rw [List.mem_singleton] at hg
        rw [hg]
        exact ⟨c, h.c⟩
set_option maxRecDepth 20000 in
theorem qS_ok (l : List PtS) (h : ∀ p ∈ l, PtOk p) : QOk (qS l) := by
  refine snoc_ind (P := fun l => (∀ p ∈ l, PtOk p) → QOk (qS l)) (fun _ => ⟨fun _ => rfl, fun g hg => (by cases hg), fun g hg => (by cases hg)⟩) (fun l p ih h => ?_) l h
  rw [qS_snoc]
  exact qStep_ok (ih fun q hq => h q (List.mem_append_left _ hq)) (h p (List.mem_append_right _ (List.mem_singleton.2 rfl)))
set_option maxRecDepth 20000 in
theorem qG_ok {st : QS} (h : QOk st) : ∀ g ∈ qG st, g.2 ≠ [] ∧ ∀ p ∈ g.2, PtOk p ∧ p.on = 0 := fun g hg => by
  unfold qG at hg
  split at hg
  · exact h.d g hg
  · next c =>
    rcases List.mem_append.1 hg with hg | hg
    · exact h.d g hg
    · rw [List.mem_singleton] at hg
      rw [hg]
      exact ⟨c, h.c⟩
/-- how long all groups are together -/
def lenG (G : List (Int × List PtS)) : Nat := (G.map fun g => g.2.length).sum
set_option maxRecDepth 20000 in
theorem lenG_snoc (G : List (Int × List PtS)) (g : Int × List PtS) : lenG (G ++ [g]) = lenG G + g.2.length := by unfold lenG; simp
set_option maxRecDepth 20000 in
theorem lenG_mem {G : List (Int × List PtS)} {g : Int × List PtS} (h : g ∈ G) : g.2.length ≤ lenG G := by
  induction G with
  | nil => cases h
  | cons x G ih =>
    have e : lenG (x :: G) = x.2.length + lenG G := by unfold lenG; simp
    rw [e]
    rcases List.mem_cons.1 h with rfl | h
    · omega
    · have := ih h; omega
set_option maxRecDepth 20000 in
theorem qS_len (l : List PtS) : lenG (qG (qS l)) = l.length ∧ (qG (qS l)).length ≤ l.length := by
  refine snoc_ind (P := fun l => lenG (qG (qS l)) = l.length ∧ (qG (qS l)).length ≤ l.length) ⟨rfl, by simp [qS, qG]⟩ (fun l p ih => ?_) l
  rw [qS_snoc, List.length_append, List.length_singleton]
  generalize qS l = st at *
  obtain ⟨n, D, c⟩ := st
  unfold qStep
  simp only
  by_cases hc : c = []
  · rw [if_pos hc]
    unfold qG at *
    simp only [hc, if_true] at ih
    rw [if_neg (by simp), lenG_snoc]
    simp only [List.length_append, List.length_singleton]
    omega
  · rw [if_neg hc]
    unfold qG at *
    simp only [hc, if_false] at ih
    rw [lenG_snoc] at ih
    simp only [List.length_append, List.length_singleton] at ih
    split
    · rw [if_neg (by simp), lenG_snoc]
      simp only [List.length_append, List.length_singleton]
      omega
    · rw [if_neg (by simp), lenG_snoc, lenG_snoc]
      simp only [List.length_append, List.length_singleton]
      omega
set_option maxRecDepth 20000 in
/-- the step, as the walk takes it: the groups ahead of the last one, and the last one's samples so far -/
theorem qG_new {st : QS} {p : PtS} (h : st.cur = [] ∨ p.on % 4 ≠ 0) : qG (qStep st p) = qG st ++ [(st.n + p.on % 4, [on0 p])] := by
  unfold qStep qG
  by_cases c : st.cur = []
  · rw [if_pos c, if_pos c, if_neg (by simp)]
  · rw [if_neg c, if_neg c, if_neg (h.resolve_left c), if_neg (by simp)]
set_option maxRecDepth 20000 in
theorem qG_old {st : QS} {p : PtS} (h : st.cur ≠ []) (q : p.on % 4 = 0) : qG (qStep st p) = st.done ++ [(st.n + p.on % 4, st.cur ++ [on0 p])] := by
  unfold qStep qG
  rw [if_neg h, if_pos q, if_neg (by simp)]
set_option maxRecDepth 20000 in
/-- samples of one epoch -/
theorem go_zero (n : Int) (l : List PtS) (h : ∀ p ∈ l, p.on = 0) : goS n 0 l = ⟨n, [], l.map (smP 0)⟩ := by
  refine snoc_ind (P := fun l => (∀ p ∈ l, p.on = 0) → goS n 0 l = ⟨n, [], l.map (smP 0)⟩) (fun _ => rfl) (fun l p ih h => ?_) l h
  rw [goS_snoc, ih fun q hq => h q (List.mem_append_left _ hq)]
  have e := h p (List.mem_append_right _ (List.mem_singleton.2 rfl))
  unfold gStep
  rw [e]
  simp only [List.map_append, List.map_cons, List.map_nil]
  split
  · next c => rw [c]; simp
  · simp
set_option maxRecDepth 20000 in
theorem go_one (n : Int) (l : List PtS) (h : ∀ p ∈ l, p.on = 0) (ne : l ≠ []) : grpG (goS n 0 l) = [(n, l.map (smP 0))] := by
  rw [go_zero n l h]
  unfold grpG
  rw [if_neg (by simpa using ne)]
  rfl
set_option maxRecDepth 20000 in
theorem TG.one {n : Int} {l : List Sm} {Es : List Ep} (h : TG [(n, l)] Es) : ∃ E, Es = [E] ∧ IsTold n 16 (bestL l) E := by
  have h1 : Es.length = 1 := h.1
  obtain ⟨E, rfl⟩ := List.length_eq_one_iff.1 h1
  have h2 := h.2 0 (n, l) E (List.getElem?_cons_zero) (List.getElem?_cons_zero)
  exact ⟨E, Eq.refl _, h2⟩
/-- two samples that are told apart by their offsets alone -/
def likeP (p q : PtS) : Bool := decide (p.s % 16 = q.s % 16) && (decide (p.d = q.d) && decide (p.o ≠ q.o))
def LikeP (l : List PtS) : Prop := ∃ p ∈ l, ∃ q ∈ l, likeP p q = true
set_option maxRecDepth 20000 in
theorem likeP_symm (p q : PtS) : likeP p q = likeP q p := by
  unfold likeP
  rw [Bool.eq_iff_iff]
  simp only [Bool.and_eq_true, decide_eq_true_eq]
  exact ⟨fun ⟨a, b, c⟩ => ⟨a.symm, b.symm, fun e => c e.symm⟩, fun ⟨a, b, c⟩ => ⟨a.symm, b.symm, fun e => c e.symm⟩⟩
set_option maxRecDepth 20000 in
theorem likeP_self (p : PtS) : likeP p p = false := by unfold likeP; simp
set_option maxRecDepth 20000 in
theorem likeS_of {l : List PtS} (ok : ∀ p ∈ l, PtOk p) (h : LikeS (l.map (smP 0))) : LikeP l := by
  obtain ⟨x, hx, y, hy, h1, h2, h3⟩ := h
  obtain ⟨p, hp, rfl⟩ := List.mem_map.1 hx
  obtain ⟨q, hq, rfl⟩ := List.mem_map.1 hy
  refine ⟨p, hp, q, hq, ?_⟩
  have a1 : (p.s % 16).toNat = (q.s % 16).toNat := h1
  have a2 : p.d = q.d := h2
  have a3 : p.o + 0 ≠ q.o + 0 := h3
  have := (ok p hp).s
  have := (ok q hq).s
  unfold likeP
  simp only [Bool.and_eq_true, decide_eq_true_eq]
  exact ⟨by omega, a2, by omega⟩
/-- the scan from behind -/
structure Scan (l : List PtS) (k : Nat) (b : Bool) : Prop where
  no : b = false → ¬ LikeP (l.drop k)
set_option maxRecDepth 20000 in
theorem Scan.end_ (l : List PtS) : Scan l l.length false := ⟨fun _ ⟨p, hp, _⟩ => by rw [List.drop_length] at hp; cases hp⟩
set_option maxRecDepth 20000 in
theorem Scan.step {l : List PtS} {k : Nat} (hk : k < l.length) {b b' : Bool} (h : Scan l (k + 1) b) (e : b' = (b || (l.drop (k + 1)).any fun p => likeP p l[k])) : Scan l k b' := by
  refine ⟨fun q => ?_⟩
  rw [e, Bool.or_eq_false_iff] at q
  obtain ⟨q1, q2⟩ := q
  have n1 := h.no q1
  have n2 : ∀ p ∈ l.drop (k + 1), likeP p l[k] = false := fun p hp => by
    have := (List.any_eq_false.1 q2) p hp
    simpa using this
  rw [List.drop_eq_getElem_cons hk]
  rintro ⟨p, hp, r, hr, hl⟩
  rcases List.mem_cons.1 hp with rfl | hp
  · rcases List.mem_cons.1 hr with rfl | hr
    · rw [likeP_self] at hl; cases hl
    · rw [likeP_symm, n2 r hr] at hl; cases hl
  · rcases List.mem_cons.1 hr with rfl | hr
    · rw [n2 p hp] at hl; cases hl
    · exact n1 ⟨p, hp, r, hr, hl⟩
set_option maxRecDepth 20000 in
/-- put the other way about, they are told the same -/
theorem told_back {n : Int} {l : List PtS} {E E' : Ep} (ok : ∀ p ∈ l, PtOk p) (nl : ¬ LikeP l) (h : IsTold n 16 (bestL (l.map (smP 0))) E) (h' : IsTold n 16 (bestL (l.reverse.map (smP 0))) E') : E = E' := by
  have p : (l.map (smP 0)).Perm (l.reverse.map (smP 0)) := (List.reverse_perm l).symm.map _
  have e := fun k => bestL_perm p (fun q => nl (likeS_of ok q)) k
  exact told_uniq (told_congr (fun s _ => e s) h) h'
/-! ### rows of puts -/
def ptC (p : PtS) : List Value := [.int .u8 p.s, .int .u8 p.on, .int .i32 p.o, .int .i32 p.d]
def ptL (l : List PtS) : List Value := l.flatMap ptC
set_option maxRecDepth 20000 in
theorem ptL_snoc (l : List PtS) (p : PtS) : ptL (l ++ [p]) = ptL l ++ ptC p := by unfold ptL; rw [List.flatMap_append]; simp
set_option maxRecDepth 20000 in
theorem ptL_get (l : List PtS) : ∀ (j : Nat) (h : j < l.length) (i : Nat), i < 4 → (ptL l)[j * 4 + i]? = (ptC l[j])[i]? := by
  induction l with
  | nil => intro j h; cases h
  | cons x l ih =>
    intro j h i hi
    show (ptC x ++ ptL l)[j * 4 + i]? = _
    cases j with
    | zero => rw [Nat.zero_mul, Nat.zero_add, List.getElem?_append_left (by show i < 4; exact hi)]; rfl
    | succ j =>
      rw [List.getElem?_append_right (by show 4 ≤ _; omega)]
      have e : (j + 1) * 4 + i - (ptC x).length = j * 4 + i := by show _ - 4 = _; omega
      rw [e, ih j (by simpa using h) i hi]
      rfl
set_option maxRecDepth 20000 in
theorem own_puts {w : World} {b n : Nat} {v : Value} {l : List PtS} (h : w.ownsRow b 58 4 v n (ptL l)) (hn : l.length = n) (hl : n ≤ 100) (ok : ∀ p ∈ l, PtOk p) : ∃ A c, v = .slice A n c ∧ PutsS w A c l := by
  rcases h.2 with ⟨rfl, rfl⟩ | ⟨g, cap, cur, rfl, hb, hg, h3, h4, h5, h6⟩
  · have e : l = [] := List.eq_nil_of_length_eq_zero hn
    exact ⟨none, 0, rfl, by rw [e]; exact Nat.le_refl _, by rw [e]; exact Nat.zero_le _, ok, .inl e⟩
  · refine ⟨_, _, rfl, by omega, by rw [hn]; omega, ok, .inr ⟨g, 0, rfl, fun j hj => ?_⟩⟩
    have B : Blk w g 58 cur := ⟨hg⟩
    have c : ∀ i, i < 4 → cur[j * 4 + i]? = (ptC l[j])[i]? := fun i hi => by
      have e := ptL_get l j hj i hi
      rw [← h6, List.getElem?_take_of_lt (by omega), Array.getElem?_toList] at e
      exact e
    rw [Nat.zero_add, blk_cell B, blk_cell B, blk_cell B, blk_cell B]
    exact ⟨c 0 (by omega), c 1 (by omega), c 2 (by omega), c 3 (by omega)⟩
/-! ### groups in memory -/
def nmL (G : List (Int × List PtS)) : List Value := G.map fun g => .int .i64 g.1
structure GrpS (b : Nat) (W : World) (v7 v8 : Value) (vs : List Value) (G : List (Int × List PtS)) : Prop where
  rowG : W.ownsRow b 56 1 v7 G.length vs
  rowN : W.ownsRow b 2 1 v8 G.length (nmL G)
  inn : ∀ (i : Nat) (v : Value) (g : Int × List PtS), vs[i]? = some v → G[i]? = some g → W.ownsRow b 58 4 v g.2.length (ptL g.2)
  dis : ∀ (i j : Nat) (vi vj : Value), i < j → vs[i]? = some vi → vs[j]? = some vj → ∀ k, vi.ownBlock = some k → vj.ownBlock ≠ some k
set_option maxRecDepth 20000 in
theorem GrpS.nil (b : Nat) (W : World) : GrpS b W (.slice none 0 0) (.slice none 0 0) [] [] := ⟨World.ownsRow_nil _ _ _ _, World.ownsRow_nil _ _ _ _, fun i v g h => by simp at h, fun i j vi vj _ h => by simp at h⟩
set_option maxRecDepth 20000 in
theorem GrpS.len {b : Nat} {W : World} {v7 v8 : Value} {vs : List Value} {G : List (Int × List PtS)} (h : GrpS b W v7 v8 vs G) : vs.length = G.length := by
  have := h.rowG.1
  omega
set_option maxRecDepth 20000 in
theorem GrpS.kp {S : Nat → Prop} {b : Nat} {W W' : World} {v7 v8 : Value} {vs : List Value} {G : List (Int × List PtS)} (h : GrpS b W v7 v8 vs G) (k : KpS S W W') (q1 : ∀ g, S g → NoT 56 W g) (q2 : ∀ g, S g → NoT 2 W g) (q3 : ∀ g, S g → NoT 58 W g) : GrpS b W' v7 v8 vs G :=
  ⟨own_kp h.rowG k q1, own_kp h.rowN k q2, fun i v g h1 h2 => own_kp (h.inn i v g h1 h2) k q3, h.dis⟩
set_option maxRecDepth 20000 in
theorem GrpS.mo {b : Nat} {W W' : World} {v7 v8 : Value} {vs : List Value} {G : List (Int × List PtS)} (h : GrpS b W v7 v8 vs G) (k : Mo W W') : GrpS b W' v7 v8 vs G :=
  ⟨owns_mo h.rowG k, owns_mo h.rowN k, fun i v g h1 h2 => owns_mo (h.inn i v g h1 h2) k, h.dis⟩
set_option maxRecDepth 20000 in
theorem snoc_get? {α : Type} {L : List α} {x y : α} {i : Nat} (h : (L ++ [x])[i]? = some y) : (L[i]? = some y ∧ i < L.length) ∨ (i = L.length ∧ y = x) := by
  by_cases c : i < L.length
  · rw [List.getElem?_append_left c] at h
    exact .inl ⟨h, c⟩
  · have hi := (List.getElem?_eq_some_iff.1 h).1
    rw [List.length_append, List.length_singleton] at hi
    obtain rfl : i = L.length := by omega
    rw [List.getElem?_append_right (Nat.le_refl _), Nat.sub_self] at h
    have e : x = y := by simpa using h
    exact .inr ⟨rfl, e.symm⟩
set_option maxRecDepth 20000 in
/-- a further group -/
theorem GrpS.add {b : Nat} {W W' : World} {v7 v8 v7' v8' : Value} {vs : List Value} {G : List (Int × List PtS)} {n : Int} (h : GrpS b W v7 v8 vs G)
    (r1 : W'.ownsRow b 56 1 v7' (G.length + 1) (vs ++ [.slice none 0 0])) (r2 : W'.ownsRow b 2 1 v8' (G.length + 1) (nmL G ++ [.int .i64 n]))
    (inn : ∀ (i : Nat) (v : Value) (g : Int × List PtS), vs[i]? = some v → G[i]? = some g → W'.ownsRow b 58 4 v g.2.length (ptL g.2)) : GrpS b W' v7' v8' (vs ++ [.slice none 0 0]) (G ++ [(n, [])]) := by
  have hl := h.len
  refine ⟨by rw [List.length_append, List.length_singleton]; exact r1, by rw [List.length_append, List.length_singleton]; unfold nmL at *; rw [List.map_append]; exact r2, fun i v g h1 h2 => ?_, fun i j vi vj hij h1 h2 => ?_⟩
  · rcases snoc_get? h1 with ⟨a, al⟩ | ⟨a, rfl⟩ <;> rcases snoc_get? h2 with ⟨c, cl⟩ | ⟨c, rfl⟩
    · exact inn i v g a c
    · omega
    · omega
    · exact World.ownsRow_nil _ _ _ _
  · rcases snoc_get? h1 with ⟨a, al⟩ | ⟨a, rfl⟩ <;> rcases snoc_get? h2 with ⟨c, cl⟩ | ⟨c, rfl⟩
    · exact h.dis i j vi vj hij a c
    · intro k _ q
      simp [Value.ownBlock] at q
    · omega
    · omega
set_option maxRecDepth 20000 in
/-- the last group's next sample -/
theorem GrpS.put {b : Nat} {W W' : World} {v7 v8 v v' : Value} {vs : List Value} {D : List (Int × List PtS)} {n : Int} {c : List PtS} {p : PtS} (h : GrpS b W v7 v8 (vs ++ [v]) (D ++ [(n, c)]))
    (r1 : W'.ownsRow b 56 1 v7 (D.length + 1) (vs ++ [v'])) (r2 : W'.ownsRow b 2 1 v8 (D.length + 1) (nmL (D ++ [(n, c)])))
    (inn : ∀ (i : Nat) (u : Value) (g : Int × List PtS), vs[i]? = some u → D[i]? = some g → W'.ownsRow b 58 4 u g.2.length (ptL g.2)) (r3 : W'.ownsRow b 58 4 v' (c.length + 1) (ptL c ++ ptC p))
    (o : v'.ownBlock = v.ownBlock ∨ ∃ k, v'.ownBlock = some k ∧ W.heap.size ≤ k) : GrpS b W' v7 v8 (vs ++ [v']) (D ++ [(n, c ++ [p])]) := by
  have hl : vs.length = D.length := by
    have := h.len
    simp only [List.length_append, List.length_singleton] at this
    omega
  refine ⟨by rw [List.length_append, List.length_singleton]; exact r1, ?_, fun i u g h1 h2 => ?_, fun i j vi vj hij h1 h2 => ?_⟩
  · rw [List.length_append, List.length_singleton]
    unfold nmL at *
    rw [List.map_append] at *
    exact r2
  · rcases snoc_get? h1 with ⟨a, al⟩ | ⟨a, rfl⟩ <;> rcases snoc_get? h2 with ⟨c', cl⟩ | ⟨c', rfl⟩
    · exact inn i u g a c'
    · omega
    · omega
    · simp only [List.length_append, List.length_singleton]
      rw [ptL_snoc]
      exact r3
  · rcases snoc_get? h1 with ⟨a, al⟩ | ⟨a, rfl⟩ <;> rcases snoc_get? h2 with ⟨c', cl⟩ | ⟨c', rfl⟩
    · exact h.dis i j vi vj hij (by rw [List.getElem?_append_left al]; exact a) (by rw [List.getElem?_append_left cl]; exact c')
    · intro k hk
      rcases o with o | ⟨k', o, hk'⟩
      · rw [o]
        refine h.dis i j vi v hij (by rw [List.getElem?_append_left al]; exact a) ?_ k hk
        rw [c', List.getElem?_append_right (Nat.le_refl _), Nat.sub_self]
        rfl
      · rw [o]
        intro e
        injection e with e
        have hD : i < (D ++ [(n, c)]).length := by rw [List.length_append]; omega
        have := (h.inn i vi _ (by rw [List.getElem?_append_left al]; exact a) (List.getElem?_eq_getElem hD)).lt k hk
        omega
    · omega
    · omega
set_option maxRecDepth 20000 in
/-- a row's last cell is written -/
theorem own_setLast {w : World} {b T g n c : Nat} {xs : List Value} {u u' : Value} (h : w.ownsRow b T 1 (.slice (some ⟨g, 0, none⟩) (n + 1) c) (n + 1) (xs ++ [u])) : (w.setCell ⟨g, n, none⟩ u').ownsRow b T 1 (.slice (some ⟨g, 0, none⟩) (n + 1) c) (n + 1) (xs ++ [u']) := by
  have hx : xs.length = n := by have := h.1; simp at this; omega
  refine ⟨by simp; omega, ?_⟩
  rcases h.2 with ⟨e, _⟩ | ⟨g', cap, cur, e, hb, hg, h3, h4, h5, h6⟩
  · cases e
  · injection e with e1 e2 e3
    injection e1 with e1
    injection e1 with e1
    subst e1 e3
    refine .inr ⟨g, c, cur.setIfInBounds n u', rfl, hb, (heap_setCell_same w g n cur _ u' (by exact hg)), h3, by simpa using h4, by simpa using h5, ?_⟩
    rw [Nat.mul_one] at h6 ⊢
    rw [Array.toList_setIfInBounds]
    have hs : n < cur.toList.length := by
      have := congrArg List.length h6
      rw [List.length_take] at this
      simp at this ⊢
      omega
    refine List.ext_getElem? fun i => ?_
    have q := congrArg (fun z => z[i]?) h6
    simp only [List.getElem?_take] at q ⊢
    by_cases ci : i < n + 1
    · rw [if_pos ci] at q ⊢
      by_cases cn : i = n
      · subst cn
        rw [List.getElem?_set_self hs, List.getElem?_append_right (by omega), hx, Nat.sub_self]
        rfl
      · rw [List.getElem?_set_ne (fun e => cn e.symm), q, List.getElem?_append_left (by omega), List.getElem?_append_left (by omega)]
    · rw [if_neg ci]
      rw [List.getElem?_eq_none]
      simp
      omega
set_option maxRecDepth 20000 in
/-- a row's cell -/
theorem own_cell1 {w : World} {b T g n c : Nat} {xs : List Value} (h : w.ownsRow b T 1 (.slice (some ⟨g, 0, none⟩) n c) n xs) {i : Nat} {u : Value} (hi : xs[i]? = some u) : w.cell? ⟨g, i, none⟩ = some u ∧ w.frozen? ⟨g, i, none⟩ = false := by
  rcases h.2 with ⟨e, _⟩ | ⟨g', cap, cur, e, hb, hg, h3, h4, h5, h6⟩
  · cases e
  · injection e with e1 e2 e3
    injection e1 with e1
    injection e1 with e1
    subst e1
    have B : Blk w g T cur := ⟨hg⟩
    refine ⟨?_, blk_frozen B i⟩
    have lt := (List.getElem?_eq_some_iff.1 hi).1
    rw [blk_cell B, ← Array.getElem?_toList]
    rw [← h6, List.getElem?_take_of_lt (by have := h.1; omega)] at hi
    exact hi
set_option maxRecDepth 20000 in
/-- an epoch's number, as it stands in the row -/
theorem AllE.num {b : Nat} {w : World} {v : Value} {Es : List Ep} {CL : List (Array Value)} (h : AllE b w v Es CL) (q : Nat) (hq : q < Es.length) :
    ∃ g c2, v = .slice (some ⟨g, 0, none⟩) Es.length c2 ∧ w.cell? ⟨g, q * 7, none⟩ = some (.int .i64 Es[q].num) := by
  have hc : q < CL.length := by rw [h.len]; exact hq
  have hs : ∀ c ∈ CL, c.size = 7 := fun c hc => by
    obtain ⟨i, hi, rfl⟩ := List.mem_iff_getElem.1 hc
    have hi' : i < Es.length := by rw [← h.len]; exact hi
    exact (h.c i _ _ (List.getElem?_eq_getElem hi') (List.getElem?_eq_getElem hi)).1
  obtain ⟨-, A, c, D, d, e, h1, h2⟩ := h.c q _ _ (List.getElem?_eq_getElem hq) (List.getElem?_eq_getElem hc)
  have e' : CL[q] = eC Es[q] A c D d := Value.agg.inj e
  rcases h.row.2 with ⟨_, h0⟩ | ⟨g, cap, cur, hv, hb, hg, h3, h4, h5, h6⟩
  · omega
  · refine ⟨g, cap, hv, ?_⟩
    have r1 := flC_get hs q hc 0 (by omega)
    have l1 := h.row.1
    rw [flC_len hs] at l1
    rw [e', ← h6, List.getElem?_take_of_lt (by omega), Array.getElem?_toList] at r1
    rw [blk_cell (⟨hg⟩ : Blk w g 38 cur)]
    exact r1
set_option maxRecDepth 20000 in
theorem own_kpB {S : Nat → Prop} {w w' : World} {b T s n : Nat} {v : Value} {xs : List Value} (h : w.ownsRow b T s v n xs) (k : KpS S w w') (q : ∀ g, v.ownBlock = some g → ¬ S g) : w'.ownsRow b T s v n xs := by
  refine ⟨h.1, ?_⟩
  rcases h.2 with e | ⟨g', cap, cur, rfl, hb, hB, rest⟩
  · exact .inl e
  · exact .inr ⟨g', cap, cur, rfl, hb, (k.block g' (Array.getElem?_eq_some_iff.1 hB).1 (q g' rfl)).trans hB, rest⟩
set_option maxRecDepth 20000 in
theorem GrpS.kpB {S : Nat → Prop} {b : Nat} {W W' : World} {v7 v8 : Value} {vs : List Value} {G : List (Int × List PtS)} (h : GrpS b W v7 v8 vs G) (k : KpS S W W') (q1 : ∀ g, S g → NoT 56 W g) (q2 : ∀ g, S g → NoT 2 W g) (q3 : ∀ (i : Nat) (v : Value), vs[i]? = some v → ∀ g, v.ownBlock = some g → ¬ S g) : GrpS b W' v7 v8 vs G :=
  ⟨own_kp h.rowG k q1, own_kp h.rowN k q2, fun i v g h1 h2 => own_kpB (h.inn i v g h1 h2) k (q3 i v h1), h.dis⟩
set_option maxRecDepth 20000 in
theorem kpS_grownB {w w' : World} {row : Option Nat} (hg : w.grownBy w' row) : KpS (fun i => row = some i) w w' := ⟨hg.os, hg.tape, hg.output, hg.size, fun k hk nk => hg.block k hk fun e => nk e.symm⟩
set_option maxRecDepth 20000 in
theorem qS_bd (l : List PtS) (j : Nat) : 0 ≤ (qS (l.take j)).n ∧ (qS (l.take j)).n ≤ 3 * j := by
  have h := goS_bd 0 0 l j
  rw [qS_go] at h
  simp only at h
  omega
set_option maxRecDepth 20000 in
theorem qG_bd (l : List PtS) (h : ∀ p ∈ l, PtOk p) : ∀ g ∈ qG (qS l), 0 ≤ g.1 ∧ g.1 ≤ 3 * l.length := by
  have bd := fun j => qS_bd l j
  have key : ∀ j, j ≤ l.length → ∀ g ∈ qG (qS (l.take j)), 0 ≤ g.1 ∧ g.1 ≤ 3 * l.length := by
    intro j
    induction j with
    | zero => intro _ g hg; cases hg
    | succ j ih =>
      intro hj g hg
      have hjl : j < l.length := by omega
      have b1 := bd (j + 1)
      have ok := qS_ok (l.take j) fun p hp => h p (List.mem_of_mem_take hp)
      rw [qS_take l j hjl] at hg b1
      rw [qStep_n] at b1
      by_cases c : (qS (l.take j)).cur = [] ∨ l[j].on % 4 ≠ 0
      · rw [qG_new c] at hg
        rcases List.mem_append.1 hg with hg | hg
        · exact ih (by omega) g hg
        · rw [List.mem_singleton] at hg
          rw [hg]
          simp only
          omega
      · rw [not_or, Decidable.not_not] at c
        rw [qG_old c.1 c.2] at hg
        rcases List.mem_append.1 hg with hg | hg
        · refine ih (by omega) g ?_
          unfold qG
          rw [if_neg c.1]
          exact List.mem_append_left _ hg
        · rw [List.mem_singleton] at hg
          rw [hg]
          simp only
          omega
  intro g hg
  refine key l.length (Nat.le_refl _) g ?_
  rw [List.take_length]
  exact hg
set_option maxRecDepth 20000 in
theorem snoc_of_len {α : Type} {L : List α} {n : Nat} (h : L.length = n + 1) : ∃ L0 x, L = L0 ++ [x] ∧ L0.length = n := by
  have ne : L ≠ [] := fun e => by rw [e] at h; cases h
  exact ⟨L.dropLast, L.getLast ne, (List.dropLast_concat_getLast ne).symm, by rw [List.length_dropLast]; omega⟩
set_option maxRecDepth 20000 in
theorem infoPt : (Try.prog.info? 58).map (fun i => (i.zero, i.size, i.bytes)) = some (some (.agg #[.int .u8 0, .int .u8 0, .int .i32 0, .int .i32 0]), 4, 12) := by kernel_rfl
set_option maxRecDepth 20000 in
theorem infoSlP : (Try.prog.info? 56).map (fun i => (i.zero, i.size, i.bytes)) = some (some (.slice none 0 0), 1, 24) := by kernel_rfl
set_option maxRecDepth 20000 in
theorem infoI64 : (Try.prog.info? 2).map (fun i => (i.zero, i.size, i.bytes)) = some (some (.int .i64 0), 1, 8) := by kernel_rfl
end Go.Proofs.Ytdgmcgfkammioaa
