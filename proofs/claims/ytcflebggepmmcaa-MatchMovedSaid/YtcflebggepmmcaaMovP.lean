/- horologelaw30.MatchMoved, plain: what is unfolded, and offsets, go with moments. -/
import Derived.Test.YtcflebggepmmcaaOnceP
namespace Go.Proofs.Ytcflebggepmmcaa
open Go.RowKit

/-- a stamp moved on -/
def mvS (x lo : Int) : Int := (x + lo) % 18446744073709551616
set_option maxRecDepth 20000 in
theorem unf_at {s N : Int} (h0 : 0 ≤ s) (h1 : s < 18446744073709551616) (b1 : -1000000 ≤ hiW N) (b2 : hiW N ≤ 1000000) : unf s N = N + ((s - loW N + 9223372036854775808) % 18446744073709551616 - 9223372036854775808) := by
  have e : N = hiW N * 18446744073709551616 + loW N := by unfold hiW loW; omega
  have l : 0 ≤ loW N ∧ loW N < 18446744073709551616 := by unfold loW; omega
  unfold unf unfK
  generalize hiW N = h at *
  generalize loW N = lo at *
  subst e
  by_cases k1 : s - lo < -9223372036854775808 ∧ h < 9223372036854775807
  · rw [if_pos k1]; omega
  · rw [if_neg k1]
    by_cases k2 : 9223372036854775808 ≤ s - lo ∧ -9223372036854775808 < h
    · rw [if_pos k2]; omega
    · rw [if_neg k2]; omega
set_option maxRecDepth 20000 in
theorem hi_bd {N b : Int} (h1 : -b * 18446744073709551616 ≤ N) (h2 : N < b * 18446744073709551616) : -b ≤ hiW N ∧ hiW N ≤ b := by unfold hiW; omega
set_option maxRecDepth 20000 in
/-- what is unfolded goes on by as much -/
theorem unf_move {s N by_ : Int} (h0 : 0 ≤ s) (h1 : s < 18446744073709551616) (b1 : -1000 ≤ hiW N) (b2 : hiW N ≤ 1000) (c1 : 0 ≤ by_) (c2 : by_ < 4722366482869645213696) : unf (mvS s (loW by_)) (N + by_) = unf s N + by_ := by
  have eN : N = hiW N * 18446744073709551616 + loW N := by unfold hiW loW; omega
  have lN : 0 ≤ loW N ∧ loW N < 18446744073709551616 := by unfold loW; omega
  have hb : -1000000 ≤ hiW (N + by_) ∧ hiW (N + by_) ≤ 1000000 := by unfold hiW at *; omega
  have m : 0 ≤ mvS s (loW by_) ∧ mvS s (loW by_) < 18446744073709551616 := by unfold mvS; omega
  rw [unf_at m.1 m.2 hb.1 hb.2, unf_at h0 h1 (by omega) (by omega)]
  have : (mvS s (loW by_) - loW (N + by_) + 9223372036854775808) % 18446744073709551616 = (s - loW N + 9223372036854775808) % 18446744073709551616 := by
    unfold mvS loW
    omega
  rw [this]
  omega
set_option maxRecDepth 20000 in
theorem unf_bd {s N : Int} (h0 : 0 ≤ s) (h1 : s < 18446744073709551616) (b1 : -1000 ≤ hiW N) (b2 : hiW N ≤ 1000) : -1001 * 18446744073709551616 ≤ unf s N ∧ unf s N ≤ 1002 * 18446744073709551616 := by
  rw [unf_at h0 h1 (by omega) (by omega)]
  have eN : N = hiW N * 18446744073709551616 + loW N := by unfold hiW loW; omega
  have lN : 0 ≤ loW N ∧ loW N < 18446744073709551616 := by unfold loW; omega
  omega
set_option maxRecDepth 20000 in
theorem off_move (t1 t2 t3 t4 b : Int) : offI (t1 + b) (t2 + b) (t3 + b) (t4 + b) = offI t1 t2 t3 t4 := by
  unfold offI
  rw [show t2 + b - (t1 + b) = t2 - t1 by omega, show t3 + b - (t4 + b) = t3 - t4 by omega]
set_option maxRecDepth 20000 in
theorem del_move (t1 t2 t3 t4 b : Int) : delI (t1 + b) (t2 + b) (t3 + b) (t4 + b) = delI t1 t2 t3 t4 := by
  unfold delI
  rw [show t4 + b - (t1 + b) = t4 - t1 by omega, show t3 + b - (t2 + b) = t3 - t2 by omega]
set_option maxRecDepth 20000 in
theorem ins_move (win a b c : Int) : insB win (a + c) (b + c) = insB win a b := by
  unfold insB
  rw [show b + c - (a + c) = b - a by omega]
set_option maxRecDepth 20000 in
theorem mvS_inj {x y lo : Int} (x0 : 0 ≤ x ∧ x < 18446744073709551616) (y0 : 0 ≤ y ∧ y < 18446744073709551616) (h : mvS x lo = mvS y lo) : x = y := by unfold mvS at h; omega
/-- a header with all stamps on -/
def mvH (h : Hd) (lo : Int) : Hd := { h with f := mvS h.f lo, o := mvS h.o lo, r := mvS h.r lo, x := mvS h.x lo }
set_option maxRecDepth 20000 in
theorem mvS_ok {x lo : Int} : 0 ≤ mvS x lo ∧ mvS x lo ≤ 18446744073709551615 := by unfold mvS; omega
set_option maxRecDepth 20000 in
theorem mvH_ok {h : Hd} {lo : Int} (k : HdOk h) : HdOk (mvH h lo) := ⟨k.l, k.v, k.m, k.s, k.po, k.pr, k.rd, k.rp, k.a, k.b, k.c, k.d, mvS_ok, mvS_ok, mvS_ok, mvS_ok⟩
set_option maxRecDepth 20000 in
theorem mvH_may {h : Hd} {lo : Int} : mayH (mvH h lo) = mayH h := rfl
/-- a datagram at a later moment, with all stamps on by as much -/
noncomputable def mvD (d : Dg) (b : Int) : Dg := ⟨wdC (cl (wI d.at_ + b)), d.src, d.dst, if (takeP d.bs).2 = 0 then (putP ⟨mvH (takeP d.bs).1.h (loW b), (takeP d.bs).1.e, (takeP d.bs).1.m⟩).1 else d.bs⟩
set_option maxRecDepth 20000 in
theorem parse_ok {bs : List Int} (hb : ∀ c ∈ bs, 0 ≤ c ∧ c ≤ 255) : ∀ (n a : Nat), bs.length - a ≤ n → ∀ f ∈ parse bs a, (0 ≤ f.kind ∧ f.kind ≤ 65535) ∧ ∀ c ∈ f.val, 0 ≤ c ∧ c ≤ 255 := by
  intro n
  induction n with
  | zero =>
    intro a ha f hf
    rw [parse_nil (by rw [List.drop_eq_nil_of_le (by omega)]; decide)] at hf
    cases hf
  | succ n ih =>
    intro a ha f hf
    by_cases c : (nextM (bs.drop a)).1 = 2
    · have k := sz_small (fun c hc => hb c (List.mem_of_mem_drop hc)) c
      obtain ⟨h1, -, h3, -, -⟩ := nextM_field c
      rw [List.length_drop] at h1
      rw [parse_cons c] at hf
      rcases List.mem_cons.1 hf with rfl | hf
      · refine ⟨?_, fun x hx => hb x (List.mem_of_mem_drop (List.mem_of_mem_drop (List.mem_of_mem_take hx)))⟩
        have d : ∀ i, 0 ≤ (bs.drop a).getD i 0 ∧ (bs.drop a).getD i 0 ≤ 255 := fun i => by
          rw [List.getD_eq_getElem?_getD]
          cases e : (bs.drop a)[i]? with
          | none => simp
          | some v => exact hb v (List.mem_of_mem_drop (List.mem_of_getElem? e))
        have d0 := d 0
        have d1 := d 1
        show 0 ≤ kindM (bs.drop a) ∧ kindM (bs.drop a) ≤ 65535
        unfold kindM
        omega
      · exact ih _ (by omega) f hf
    · rw [parse_nil c] at hf
      cases hf
set_option maxRecDepth 20000 in
theorem takeP_pk {bs : List Int} (hb : ∀ c ∈ bs, 0 ≤ c ∧ c ≤ 255) : PkOk (takeP bs).1 := by
  refine ⟨takeP_ok bs hb, ?_, ?_⟩
  · unfold takeP
    split
    · intro x hx; cases hx
    · split
      · rename_i h
        have hd : ∀ c ∈ bs.drop 48, 0 ≤ c ∧ c ≤ 255 := fun c hc => hb c (List.mem_of_mem_drop hc)
        rw [takeM_val h]
        intro x hx
        obtain ⟨f, hf, rfl⟩ := List.mem_map.1 hx
        exact parse_ok hd _ 0 (Nat.le_refl _) f hf
      · intro x hx; cases hx
  · unfold takeP
    split
    · intro x hx; cases hx
    · split
      · rename_i h
        rw [takeM_val h]
        intro c hc
        simp only [macM] at hc
        split at hc
        · exact hb c (List.mem_of_mem_drop (List.mem_of_mem_drop hc))
        · cases hc
      · intro x hx; cases hx
set_option maxRecDepth 20000 in
/-- what a datagram that is moved reads as -/
theorem mv_take {d : Dg} {b : Int} (hb : ∀ c ∈ d.bs, 0 ≤ c ∧ c ≤ 255) (h : (takeP d.bs).2 = 0) : takeP (mvD d b).bs = (⟨mvH (takeP d.bs).1.h (loW b), (takeP d.bs).1.e, (takeP d.bs).1.m⟩, 0) ∧ (mvD d b).bs = (putP ⟨mvH (takeP d.bs).1.h (loW b), (takeP d.bs).1.e, (takeP d.bs).1.m⟩).1 ∧ (putP ⟨mvH (takeP d.bs).1.h (loW b), (takeP d.bs).1.e, (takeP d.bs).1.m⟩).2 = 0 := by
  have ok := takeP_pk hb
  obtain ⟨q, hq⟩ : ∃ q, (takeP d.bs).1 = q := ⟨_, rfl⟩
  have hp : takeP d.bs = (q, 0) := by rw [← hq, ← h]
  have pt := (takeP_put hb hp).1
  have e : (mvD d b).bs = (putP ⟨mvH q.h (loW b), q.e, q.m⟩).1 := by
    unfold mvD
    simp only
    rw [if_pos h, hq]
  rw [hq] at ok ⊢
  have p2 : (putP ⟨mvH q.h (loW b), q.e, q.m⟩).2 = 0 := by
    unfold putP at pt ⊢
    simp only
    rw [mvH_may]
    by_cases c : mayH q.h = true
    · rw [if_pos c] at pt ⊢
      by_cases c2 : (putM q.e q.m).2 = 0
      · rw [if_pos c2]
      · rw [if_neg c2] at pt
        injection pt with _ e2
        exact absurd e2 c2
    · rw [if_neg c] at pt
      injection pt with _ e2
      exact absurd e2 (by decide)
  refine ⟨?_, e, p2⟩
  rw [e]
  exact putP_take (p := ⟨mvH q.h (loW b), q.e, q.m⟩) ⟨mvH_ok ok.h, ok.e, ok.m⟩ (by rw [← p2])
/-- a key moved -/
def mvK (K : Array Value) (lo : Int) : Array Value := match (K[36]? : Option Value) with
  | some (Value.int _ x) => K.extract 0 36 ++ #[.int .u64 (mvS x lo)]
  | _ => K
set_option maxRecDepth 20000 in
theorem mvK_kf (f : Array Value) (x lo : Int) [h : SzA f 36] : mvK (kfC f x) lo = kfC f (mvS x lo) := by
  unfold mvK
  rw [kf_x, kf_flow]
  rfl
set_option maxRecDepth 20000 in
theorem key_parts {k : Array Value} (h : KeyP k) : ∃ f x, k = kfC f x ∧ SzA f 36 ∧ 0 ≤ x ∧ x < 18446744073709551616 := by
  have e : ksOf 72 = (ksOf 38 ++ ksOf 38) ++ [.i .u64] := by rw [ks_key, List.append_assoc]
  have hl : (ksOf 38 ++ ksOf 38).length = 36 := by kernel_rfl
  unfold KeyP at h
  rw [e] at h
  obtain ⟨h1, h2⟩ := fits_split h
  rw [hl] at h1 h2
  have h3 := h1.len
  rw [hl] at h3
  match hd : k.toList.drop 36, h2 with
  | [.int q x], h2 =>
    obtain ⟨⟨rfl, hx⟩, -⟩ := h2
    have bx : 0 ≤ x ∧ x ≤ 18446744073709551615 := by
      simp only [Lit.wf] at hx
      have := hx
      simp at this
      exact this
    refine ⟨(k.toList.take 36).toArray, x, ?_, ⟨by simp at h3 ⊢; exact h3⟩, bx.1, by omega⟩
    apply Array.toList_inj.1
    unfold kfC
    rw [Array.toList_append]
    show k.toList = k.toList.take 36 ++ [.int .u64 x]
    rw [← hd, List.take_append_drop]
set_option maxRecDepth 20000 in
theorem mvK_ok {k : Array Value} {lo : Int} (h : KeyP k) : ∃ f x, k = kfC f x ∧ mvK k lo = kfC f (mvS x lo) ∧ SzA f 36 ∧ 0 ≤ x ∧ x < 18446744073709551616 := by
  obtain ⟨f, x, rfl, hf, h0, h1⟩ := key_parts h
  exact ⟨f, x, rfl, mvK_kf f x lo, hf, h0, h1⟩
set_option maxRecDepth 20000 in
theorem kfC_inj {f g : Array Value} {x y : Int} (hf : SzA f 36) (hg : SzA g 36) (h : kfC f x = kfC g y) : f = g ∧ x = y := by
  have e1 := congrArg (fun a : Array Value => a.extract 0 36) h
  have e2 := congrArg (fun a : Array Value => a[36]?) h
  simp only [kf_flow, kf_x] at e1 e2
  injection e2 with e2
  injection e2 with _ e2
  exact ⟨e1, e2⟩
set_option maxRecDepth 20000 in
theorem mvK_inj {k k' : Array Value} {lo : Int} (h : KeyP k) (h' : KeyP k') : mvK k lo = mvK k' lo ↔ k = k' := by
  constructor
  · intro e
    obtain ⟨f, x, rfl, e1, hf, x0, x1⟩ := mvK_ok (lo := lo) h
    obtain ⟨g, y, rfl, e2, hg, y0, y1⟩ := mvK_ok (lo := lo) h'
    rw [e1, e2] at e
    obtain ⟨q1, q2⟩ := kfC_inj hf hg e
    rw [q1, mvS_inj ⟨x0, x1⟩ ⟨y0, y1⟩ q2]
  · intro e; rw [e]
/-- an entry moved -/
def mvE (b : Int) (e : En) : En := ⟨mvK e.k (loW b), wdC (wI e.a + b), e.d⟩
set_option maxRecDepth 20000 in
theorem eqA_mv {k k' : Array Value} {lo : Int} (h : KeyP k) (h' : KeyP k') : eqA (mvK k lo) (mvK k' lo) = eqA k k' := by
  rw [Bool.eq_iff_iff, eqA_iff, eqA_iff]
  exact mvK_inj h h'
set_option maxRecDepth 20000 in
theorem find_mv {E : List En} {k : Array Value} {b : Int} (hE : ∀ e ∈ E, KeyP e.k) (hk : KeyP k) : findE (E.map (mvE b)) (mvK k (loW b)) = (findE E k).map (mvE b) := by
  induction E with
  | nil => rfl
  | cons e E ih =>
    have ih := ih (fun x hx => hE x (List.mem_cons_of_mem _ hx))
    unfold findE at ih ⊢
    have q : eqA (mvE b e).k (mvK k (loW b)) = eqA e.k k := eqA_mv (hE e List.mem_cons_self) hk
    rw [List.map_cons, List.find?_cons, List.find?_cons, q]
    cases eqA e.k k with
    | true => rfl
    | false => exact ih
set_option maxRecDepth 20000 in
theorem strike_mv {E : List En} {k : Array Value} {b : Int} (hE : ∀ e ∈ E, KeyP e.k) (hk : KeyP k) : strike (E.map (mvE b)) (mvK k (loW b)) = (strike E k).map (mvE b) := by
  induction E with
  | nil => rfl
  | cons e E ih =>
    have ih := ih (fun x hx => hE x (List.mem_cons_of_mem _ hx))
    by_cases c : e.k = k
    · rw [List.map_cons, strike_cons_same (show (mvE b e).k = _ by show mvK e.k _ = _; rw [c]), strike_cons_same c, ih]
    · rw [List.map_cons, strike_cons_ne (show (mvE b e).k ≠ _ from fun q => c ((mvK_inj (hE e List.mem_cons_self) hk).1 q)), strike_cons_ne c, List.map_cons, ih]
set_option maxRecDepth 20000 in
theorem ans_mv {E : List En} {k : Array Value} {b : Int} (hE : ∀ e ∈ E, KeyP e.k) (hk : KeyP k) : ansE (E.map (mvE b)) (mvK k (loW b)) = (ansE E k).map (mvE b) := by
  unfold ansE
  rw [List.map_map, List.map_map]
  refine List.map_congr_left fun e he => ?_
  simp only [Function.comp]
  have q : eqA (mvE b e).k (mvK k (loW b)) = eqA e.k k := eqA_mv (hE e he) hk
  rw [q]
  cases eqA e.k k with
  | true => rfl
  | false => rfl
set_option maxRecDepth 20000 in
theorem ask_mv {room : Int} {E : List En} {k a : Array Value} {b : Int} (hE : ∀ e ∈ E, KeyP e.k) (hk : KeyP k) : (askE room (E.map (mvE b)) (mvK k (loW b)) (wdC (wI a + b))).2.2 = (askE room E k a).2.2.map (mvE b) := by
  unfold askE
  rw [strike_mv hE hk]
  have e : (strike E k).map (mvE b) ++ [(⟨mvK k (loW b), wdC (wI a + b), false⟩ : En)] = (strike E k ++ [(⟨k, a, false⟩ : En)]).map (mvE b) := by rw [List.map_append]; rfl
  rw [e, List.length_map]
  split
  · rfl
  · simp only [List.map_tail]
set_option maxRecDepth 20000 in
theorem has_mv {E : List En} {k : Array Value} {b : Int} (hE : ∀ e ∈ E, KeyP e.k) (hk : KeyP k) : hasE (E.map (mvE b)) (mvK k (loW b)) = hasE E k := by
  rw [hasE_find, hasE_find, find_mv hE hk]
  cases findE E k <;> rfl
/-- a datagram that may be moved -/
structure MvOk (b : Int) (d : Dg) : Prop where
  ok : DgOk d
  byte : ∀ c ∈ d.bs, 0 ≤ c ∧ c ≤ 255
  lo : -1000 ≤ hiW (wI d.at_)
  hi : hiW (wI d.at_) ≤ 1000
  cls : (classP d.bs).2 = (classP (mvD d b).bs).2
set_option maxRecDepth 20000 in
theorem MvOk.at_ {b : Int} {d : Dg} (h : MvOk b d) (b0 : 0 ≤ b) (b1 : b < 4722366482869645213696) : (mvD d b).at_ = wdC (wI d.at_ + b) := by
  show wdC (cl (wI d.at_ + b)) = _
  rw [cl_in]
  have h1 := h.lo
  have h2 := h.hi
  unfold hiW at h1 h2
  unfold InW
  omega
set_option maxRecDepth 20000 in
theorem takeP_cls {bs : List Int} (h : (classP bs).2 = 1 ∨ (classP bs).2 = 4) : (takeP bs).2 = 0 ∧ (classP bs).2 = kindP (takeP bs).1.h := by
  unfold classP at h ⊢
  split
  · rename_i c; exact ⟨c, rfl⟩
  · rename_i c; rw [if_neg c] at h; simp at h
set_option maxRecDepth 20000 in
theorem MvOk.key {b : Int} {d : Dg} (h : MvOk b d) (c : (classP d.bs).2 = 1 ∨ (classP d.bs).2 = 4) : keyC (mvD d b) (classP (mvD d b).bs).1.h = mvK (keyC d (classP d.bs).1.h) (loW b) ∧ (classP (mvD d b).bs).1.h = mvH (classP d.bs).1.h (loW b) := by
  obtain ⟨t0, k0⟩ := takeP_cls c
  obtain ⟨e1, -, -⟩ := mv_take (b := b) h.byte t0
  have zs := sz_ends h.ok.src
  have zt := sz_ends h.ok.dst
  have z1 : SzA (d.src ++ d.dst) 36 := ⟨by rw [Array.size_append, zs.out, zt.out]⟩
  have z2 : SzA (d.dst ++ d.src) 36 := ⟨by rw [Array.size_append, zs.out, zt.out]⟩
  rw [classP_fst, classP_fst, e1]
  refine ⟨?_, rfl⟩
  have hm : (takeP d.bs).1.h.m = 3 ∨ (takeP d.bs).1.h.m = 4 := by
    rw [k0] at c
    rcases c with c | c
    · exact .inl (kindP_1 c)
    · exact .inr (kindP_4 c)
  show (if (takeP d.bs).1.h.m = 3 then kyC d.src d.dst (mvS (takeP d.bs).1.h.x (loW b)) else if (takeP d.bs).1.h.m = 4 then kyC d.dst d.src (mvS (takeP d.bs).1.h.o (loW b)) else kyC en0 en0 0) = _
  unfold keyC
  rcases hm with hm | hm
  · rw [if_pos hm, if_pos hm, kyC_kf, kyC_kf, mvK_kf]
  · rw [if_neg (by omega), if_pos hm, if_neg (by omega), if_pos hm, kyC_kf, kyC_kf, mvK_kf]
set_option maxRecDepth 20000 in
theorem MvOk.kp {b : Int} {d : Dg} (h : MvOk b d) : KeyP (keyC d (classP d.bs).1.h) := fits_key h.ok (by rw [classP_fst]; exact takeP_ok _ h.byte)
set_option maxRecDepth 20000 in
theorem cls_mv {b win : Int} {E : List En} {d : Dg} (h : MvOk b d) (b0 : 0 ≤ b) (b1 : b < 4722366482869645213696) (hE : ∀ e ∈ E, KeyP e.k) : clsM win (E.map (mvE b)) (mvD d b) = clsM win E d := by
  unfold clsM
  rw [← h.cls]
  by_cases c1 : (classP d.bs).2 = 1
  · rw [if_pos c1, if_pos c1, (h.key (.inl c1)).1, has_mv hE h.kp]
  · rw [if_neg c1, if_neg c1]
    by_cases c4 : (classP d.bs).2 = 4
    · rw [if_pos c4, if_pos c4, (h.key (.inr c4)).1, find_mv hE h.kp]
      cases findE E (keyC d (classP d.bs).1.h) with
      | none => rfl
      | some e =>
        show (if e.d = true then (6 : Int) else if insB win (wI (wdC (wI e.a + b))) (wI (mvD d b).at_) = true then 4 else 5) = _
        rw [h.at_ b0 b1, wI_wd, wI_wd, ins_move]
    · rw [if_neg c4, if_neg c4]
set_option maxRecDepth 20000 in
theorem ent_mv {b room : Int} {E : List En} {d : Dg} (h : MvOk b d) (b0 : 0 ≤ b) (b1 : b < 4722366482869645213696) (hE : ∀ e ∈ E, KeyP e.k) : entM room (E.map (mvE b)) (mvD d b) = (entM room E d).map (mvE b) := by
  unfold entM
  rw [← h.cls]
  by_cases c1 : (classP d.bs).2 = 1
  · rw [if_pos c1, if_pos c1, (h.key (.inl c1)).1, h.at_ b0 b1, ask_mv hE h.kp]
  · rw [if_neg c1, if_neg c1]
    by_cases c4 : (classP d.bs).2 = 4
    · rw [if_pos c4, if_pos c4, (h.key (.inr c4)).1, ans_mv hE h.kp]
    · rw [if_neg c4, if_neg c4]
set_option maxRecDepth 20000 in
theorem ent_kp {b room : Int} {E : List En} {d : Dg} (h : MvOk b d) (hE : ∀ e ∈ E, KeyP e.k) : ∀ e ∈ entM room E d, KeyP e.k := by
  intro e he
  unfold entM at he
  split at he
  · rcases askE_mem he with q | q
    · exact hE e q.1
    · rw [q]; exact h.kp
  · split at he
    · unfold ansE at he
      obtain ⟨x, hx, rfl⟩ := List.mem_map.1 he
      have := hE x hx
      split <;> exact this
    · exact hE e he
set_option maxRecDepth 20000 in
theorem play_mv {b room : Int} {l : List Dg} (h : ∀ d ∈ l, MvOk b d) (b0 : 0 ≤ b) (b1 : b < 4722366482869645213696) : ∀ n, n ≤ l.length → playM room (l.map fun d => mvD d b) n = (playM room l n).map (mvE b) ∧ ∀ e ∈ playM room l n, KeyP e.k
  | 0, _ => ⟨rfl, fun e he => (by cases he)⟩
  | n + 1, hn => by
    obtain ⟨i1, i2⟩ := play_mv h b0 b1 n (by omega)
    have hd := h _ (List.getElem_mem (show n < l.length by omega))
    rw [playM_succ room _ n (by rw [List.length_map]; omega), playM_succ room l n (by omega), i1, List.getElem_map]
    exact ⟨ent_mv hd b0 b1 i2, ent_kp hd i2⟩
/-- a sample and what becomes of it -/
structure SmR (b : Int) (a a' : Array Value) : Prop where
  ex : ∃ f t1 t2 t3 t4 o dd s st, SzA f 36 ∧ Fits (ksOf 43) f.toList ∧ (InW (t1 + b) ∧ InW (t2 + b) ∧ InW (t3 + b) ∧ InW (t4 + b)) ∧ (InW t1 ∧ InW t2 ∧ InW t3 ∧ InW t4) ∧ a = smC f t1 t2 t3 t4 o dd s st ∧ a' = smC f (t1 + b) (t2 + b) (t3 + b) (t4 + b) o dd s st
set_option maxRecDepth 20000 in
theorem sm_mv {b win : Int} {E : List En} {d : Dg} (h : MvOk b d) (b0 : 0 ≤ b) (b1 : b < 4722366482869645213696) (hE : ∀ e ∈ E, KeyP e.k) (c : clsM win E d = 4) : SmR b (smM win E d) (smM win (E.map (mvE b)) (mvD d b)) := by
  have c4 := (cls_45 (.inl c)).1
  have hk := (h.key (.inr c4)).2
  have ok : HdOk (classP d.bs).1.h := by rw [classP_fst]; exact takeP_ok _ h.byte
  unfold smM
  rw [if_pos c, if_pos (by rw [cls_mv h b0 b1 hE]; exact c), hk, h.at_ b0 b1, wI_wd]
  generalize (classP d.bs).1.h = hd at *
  have zs := sz_ends h.ok.src
  have zt := sz_ends h.ok.dst
  have lo := h.lo
  have hi := h.hi
  have ro := ok.o
  have rr := ok.r
  have rx := ok.x
  have u1 := unf_bd (s := hd.o) (N := wI d.at_) ro.1 (by omega) lo hi
  have u2 := unf_bd (s := hd.r) (N := wI d.at_) rr.1 (by omega) lo hi
  have u3 := unf_bd (s := hd.x) (N := wI d.at_) rx.1 (by omega) lo hi
  refine ⟨d.dst ++ d.src, unf hd.o (wI d.at_), unf hd.r (wI d.at_), unf hd.x (wI d.at_), wI d.at_, _, _, _, _, ⟨by rw [Array.size_append, zs.out, zt.out]⟩, ?_, ?_, ?_, rfl, ?_⟩
  · have e : ksOf 43 = ksOf 38 ++ ksOf 38 := by kernel_rfl
    rw [e, Array.toList_append]
    exact fits_append h.ok.dst h.ok.src
  · unfold InW
    unfold hiW at lo hi
    omega
  · unfold InW
    unfold hiW at lo hi
    omega
  · have eo : (mvH hd (loW b)).o = mvS hd.o (loW b) := rfl
    have er : (mvH hd (loW b)).r = mvS hd.r (loW b) := rfl
    have ex : (mvH hd (loW b)).x = mvS hd.x (loW b) := rfl
    have en : (mvD d b).dst ++ (mvD d b).src = d.dst ++ d.src := rfl
    unfold smpC
    rw [en, eo, er, ex, unf_move ro.1 (by omega) lo hi b0 b1, unf_move rr.1 (by omega) lo hi b0 b1, unf_move rx.1 (by omega) lo hi b0 b1, off_move, del_move]
    rfl
set_option maxRecDepth 20000 in
theorem runs_mv {b win room : Int} {l : List Dg} (h : ∀ d ∈ l, MvOk b d) (b0 : 0 ≤ b) (b1 : b < 4722366482869645213696) : ∀ n, n ≤ l.length →
    runC win room (l.map fun d => mvD d b) n = runC win room l n ∧ (runS win room (l.map fun d => mvD d b) n).length = (runS win room l n).length ∧ ∀ (i : Nat) (x y : Array Value), (runS win room l n)[i]? = some x → (runS win room (l.map fun d => mvD d b) n)[i]? = some y → SmR b x y
  | 0, _ => ⟨rfl, rfl, fun i x y hx => (by simp [runS] at hx)⟩
  | n + 1, hn => by
    obtain ⟨i1, i2, i3⟩ := runs_mv h b0 b1 n (by omega)
    obtain ⟨p1, p2⟩ := play_mv (room := room) h b0 b1 n (by omega)
    have hd := h _ (List.getElem_mem (show n < l.length by omega))
    have e := cls_mv (win := win) hd b0 b1 p2
    have hm : n < (l.map fun d => mvD d b).length := by rw [List.length_map]; omega
    refine ⟨?_, ?_⟩
    · rw [runC_succ win room _ n hm, runC_succ win room l n (by omega), i1, p1, List.getElem_map, e]
    · rw [runS_succ win room _ n hm, runS_succ win room l n (by omega), p1, List.getElem_map, e]
      by_cases c : clsM win (playM room l n) l[n] = 4
      · rw [if_pos c, if_pos c]
        refine ⟨by rw [List.length_append, List.length_append, i2]; rfl, fun i x y hx hy => ?_⟩
        by_cases q : i < (runS win room l n).length
        · rw [List.getElem?_append_left q] at hx
          rw [List.getElem?_append_left (by rw [i2]; exact q)] at hy
          exact i3 i x y hx hy
        · rw [List.getElem?_append_right (by omega)] at hx
          rw [List.getElem?_append_right (by rw [i2]; omega), i2] at hy
          have hi := (List.getElem?_eq_some_iff.1 hx).1
          have hi0 : i - (runS win room l n).length = 0 := by simpa using hi
          rw [hi0] at hx hy
          have ex : smM win (playM room l n) l[n] = x := by simpa using hx
          have ey : smM win ((playM room l n).map (mvE b)) (mvD l[n] b) = y := by simpa using hy
          rw [← ex, ← ey]
          exact sm_mv hd b0 b1 p2 c
      · rw [if_neg c, if_neg c]
        exact ⟨i2, i3⟩
end Go.Proofs.Ytcflebggepmmcaa
