/- ServerPlays: what is asked of a table behind deeds, told by numbers. -/
import Derived.Test.YthgkhllkhhnlpaaPlQ
import Derived.Test.YthgkhllkhhnlpaaCpL
namespace Go.Proofs.Ythgkhllkhhnlpaa
open Go.RowKit Go.Maps

set_option maxRecDepth 20000 in
theorem num_step {sv x : Int} {D0 oD : Sd} {l : List Deed} {es es1 : List Ent} {ot : Ent} (h : TSt sv x D0 oD l es ot) {d : Deed} {q : Option Nat} (p : OfP sv D0 (whoD d) es es1 q) : numO q = numI (nmS sv (l ++ [d])) (whoD d) := by
  have had := h.adr
  cases p with
  | @yes i E hi e =>
    have hn := (h.get hi).1
    have hm : whoD d ∈ nmS sv l := by rw [← e]; exact List.mem_of_getElem? hn
    rw [nm_old (.inl hm)]
    exact (numI_get (nm_nodup sv l) (by rw [hn, e])).symm
  | new hn hl =>
    rw [had] at hn
    rw [h.len] at hl ⊢
    have e := nm_new hn hl
    have nd := nm_nodup sv (l ++ [d])
    rw [e] at nd ⊢
    exact (numI_get nd (by rw [List.getElem?_append_right (Nat.le_refl _), Nat.sub_self]; rfl)).symm
  | full hn hl =>
    rw [had] at hn
    rw [h.len] at hl
    rw [nm_old (.inr hl), numI_no hn]
    rfl
set_option maxRecDepth 20000 in
theorem put_tb {N : Nat → Prop} {w : World} {T b : Nat} {C : CfgS} {o wd : Nat} {oD : Sd} {l : List Deed} {es : List Ent} {ot : Ent} {n : Nat} (h : TbI N w T b C o wd oD l es ot n) (u : ∀ k, w.heap.size ≤ k → N k) (d : Deed) (ok : DeedOk d) (hp : d.put = true) (hn : n ≤ 900) :
    Calls Try.prog 10 #[ptrS T, .agg (smpC d.S)] w fun e w' => ∃ es' ot', e = .returned (.int .i64 (numI (nmS C.sv (l ++ [d])) (whoD d))) ∧ TbI N w' T b C o wd oD (l ++ [d]) es' ot' (n + 1) ∧ KpS N w w' := by
  obtain ⟨⟨S, t, f⟩, s⟩ := h
  have ew : whoD d = smpA d.S := by unfold whoD; rw [if_pos hp]
  have HP := tput_any t d.S ok.S hn
  rw [(actQ_put hp).symm, ← ew] at HP
  refine HP.mono ?_
  rintro e w' ⟨es1, q, S1, rfl, P, t', K, fr⟩
  exact ⟨_, _, by rw [num_step s P], ⟨⟨S1, t', fun k hk => (fr k hk).elim (f k) (u k)⟩, s.step P⟩, K.mono fun k _ => f k⟩
set_option maxRecDepth 20000 in
theorem count_tb {N : Nat → Prop} {w : World} {T b : Nat} {C : CfgS} {o wd : Nat} {oD : Sd} {l : List Deed} {es : List Ent} {ot : Ent} {n : Nat} (h : TbI N w T b C o wd oD l es ot n) (u : ∀ k, w.heap.size ≤ k → N k) (d : Deed) (ok : DeedOk d) (hp : d.put = false) (hn : n ≤ 900) :
    Calls Try.prog 11 #[ptrS T, .agg d.a, .int .u8 (d.k : Nat)] w fun e w' => ∃ es' ot', e = .returned (.int .i64 (numI (nmS C.sv (l ++ [d])) (whoD d))) ∧ TbI N w' T b C o wd oD (l ++ [d]) es' ot' (n + 1) ∧ KpS N w w' := by
  obtain ⟨⟨S, t, f⟩, s⟩ := h
  have ew : whoD d = d.a := by unfold whoD; rw [if_neg (by simp [hp])]
  have HP := tcount_w t d.a ok.a d.k hn
  rw [(actQ_cnt hp).symm, ← ew] at HP
  rw [← ew]
  refine HP.mono ?_
  rintro e w' ⟨es1, q, S1, rfl, P, t', K, fr⟩
  exact ⟨_, _, by rw [num_step s P], ⟨⟨S1, t', fun k hk => (fr k hk).elim (f k) (u k)⟩, s.step P⟩, K.mono fun k _ => f k⟩
set_option maxRecDepth 20000 in
theorem find_tb {N : Nat → Prop} {w : World} {T b : Nat} {C : CfgS} {o wd : Nat} {oD : Sd} {l : List Deed} {es : List Ent} {ot : Ent} {n : Nat} (h : TbI N w T b C o wd oD l es ot n) (a : Array Value) (ha : AdrS a) :
    Calls Try.prog 13 #[ptrS T, .agg a] w fun e w' => e = .returned (.tuple #[.int .i64 (numI (nmS C.sv l) a), .bool (decide (0 ≤ numI (nmS C.sv l) a))]) ∧ Mo w w' := by
  obtain ⟨⟨S, t, f⟩, s⟩ := h
  refine (tfind_w t a ha).mono ?_
  rintro e w' ⟨q, rfl, h1, h2, M⟩
  rw [s.adr] at h1 h2
  cases q with
  | some i =>
    have e1 := numI_get (nm_nodup C.sv l) (h1 i rfl)
    exact ⟨by rw [e1, show decide ((0 : Int) ≤ (i : Nat)) = true from decide_eq_true (by omega)]; rfl, M⟩
  | none =>
    have e1 := numI_no (h2 rfl)
    exact ⟨by rw [e1]; rfl, M⟩
set_option maxRecDepth 20000 in
theorem len_tbP {N : Nat → Prop} {w : World} {T b : Nat} {C : CfgS} {o wd : Nat} {oD : Sd} {l : List Deed} {es : List Ent} {ot : Ent} {n : Nat} (h : TbI N w T b C o wd oD l es ot n) :
    Calls Try.prog 15 #[ptrS T] w fun e w' => e = .returned (.int .i64 ((nmS C.sv l).length : Nat)) ∧ Mo w w' := by
  obtain ⟨⟨S, t, f⟩, s⟩ := h
  rw [← s.len]
  exact tlen_w t
set_option maxRecDepth 20000 in
theorem srv_moP {b : Nat} {w w' : World} {E : Ent} {K : List Tau} {v : Value} (h : SrvAt b w E K v) (m : Mo w w') : SrvAt b w' E K v := h.kp (KpS.of_mo (S := fun _ => False) m) fun _ _ _ e => e
set_option maxRecDepth 20000 in
theorem OfIs.mo {b : Nat} {w w' : World} {o wd : Nat} {x bd : Int} {L : List Deed} {num : Int} {v : Value} (h : OfIs b w o wd x bd L num v) (m : Mo w w') : OfIs b w' o wd x bd L num v := by
  obtain ⟨tv, sv, e, o1, o2⟩ := h.ex
  exact ⟨⟨tv, sv, e, owns_mo o1 m, owns_mo o2 m⟩, h.neg⟩
set_option maxRecDepth 20000 in
theorem OfIs.row {b r : Nat} {w : World} {o wd : Nat} {x bd : Int} {L : List Deed} {num : Int} {v : Value} {cs : Array Value} (h : OfIs b w o wd x bd L num v) (B : Blk w r 67 cs) (cs' : Array Value) : OfIs b (w.setRow r cs') o wd x bd L num v := by
  obtain ⟨tv, sv, e, o1, o2⟩ := h.ex
  exact ⟨⟨tv, sv, e, own_rowNe o1 B (by decide) _, own_rowNe o2 B (by decide) _⟩, h.neg⟩
set_option maxRecDepth 20000 in
/-- the cells of what is told -/
theorem OfIs.cells {b : Nat} {w : World} {o wd : Nat} {x bd : Int} {L : List Deed} {num : Int} {v : Value} (h : OfIs b w o wd x bd L num v) : ∃ Y, v = .agg Y ∧ Y.size = 30 ∧ OneA Y ∧ Y[29]? = some (.int .i64 (ofV o wd x bd L num)) := by
  obtain ⟨tv, sv, e, o1, o2⟩ := h.ex
  obtain ⟨A1, c1, rfl⟩ := own_slS o1
  obtain ⟨A2, c2, rfl⟩ := own_slS o2
  exact ⟨_, e, td_size rfl rfl rfl, td_one rfl rfl, td_29 rfl rfl rfl⟩
set_option maxRecDepth 20000 in
/-- the told entry of a number is what the document says -/
theorem same_tb {N : Nat → Prop} {w0 w : World} {T b : Nat} {C : CfgS} {o wd : Nat} {oD : Sd} {l : List Deed} {es : List Ent} {ot : Ent} {n : Nat} (h : TbI N w0 T b C o wd oD l es ot n) (cok : CfgOk C o wd) (hn : n ≤ 900) (hl : l.length ≤ 900) (k b1 b2 : Nat) (hk : k < es.length) {X : Array Value} {v : Value} (h1 : SrvAt b1 w (nthE es ot k) (nthK es o k) (.agg X)) (h2 : OfIs b2 w o wd C.sl C.st (selD (nmS C.sv l) k l) k v) :
    Calls Try.prog 18 #[.agg X, v] w fun e w' => e = .returned (.bool true) ∧ Mo w w' := by
  obtain ⟨⟨S, t, f⟩, s⟩ := h
  have ok := t.oks _ (nthE_mem es ot k)
  have eE : nthE es ot k = es[k] := by unfold nthE; rw [dif_pos hk]
  obtain ⟨_, D⟩ := s.entD cok.w1 (List.getElem?_eq_getElem hk)
  have sl : (selD (nmS C.sv l) k l).length ≤ 900 := Nat.le_trans (sel_len _ _ _) hl
  have ml := smp_len (selD (nmS C.sv l) k l)
  have nk : ¬ ((k : Int) < 0) := by omega
  have stl : (stepsR wd C.st ((smpD (selD (nmS C.sv l) k l)).map odS)).length ≤ 1000 := by
    have := stepsN_len wd C.st ((smpD (selD (nmS C.sv l) k l)).map odS) (((smpD (selD (nmS C.sv l) k l)).map odS).length + 1 - 2 * wd)
    unfold stepsR
    rw [List.length_map] at this ⊢
    omega
  have e8 : ofS wd C.st (selD (nmS C.sv l) k l) k = stepsR wd C.st ((smpD (selD (nmS C.sv l) k l)).map odS) := by unfold ofS; rw [if_neg nk]
  rw [eE] at ok h1
  refine same_any h1 h2 (fun i => by have := ok.c i; omega) (AdrS.of_ok ok) (nthK_le cok.o2 es k) D.c D.s1 D.s2 D.s3 ?_ (by rw [e8]; exact D.st) (by rw [e8]; exact D.more) (by rw [e8]; exact stl)
  unfold nthK ofK
  rw [dif_pos hk, if_neg nk, D.m]
set_option maxRecDepth 20000 in
theorem same_oth {N : Nat → Prop} {w0 w : World} {T b : Nat} {C : CfgS} {o wd : Nat} {oD : Sd} {l : List Deed} {es : List Ent} {ot : Ent} {n : Nat} (h : TbI N w0 T b C o wd oD l es ot n) (cok : CfgOk C o wd) (hn : n ≤ 900) (b1 b2 : Nat) {X : Array Value} {v : Value} (h1 : SrvAt b1 w (nthE es ot es.length) (nthK es o es.length) (.agg X)) (h2 : OfIs b2 w o wd C.sl C.st (selD (nmS C.sv l) (-1) l) (-1) v) :
    Calls Try.prog 18 #[.agg X, v] w fun e w' => e = .returned (.bool true) ∧ Mo w w' := by
  obtain ⟨⟨S, t, f⟩, s⟩ := h
  have ok := t.oks _ (nthE_mem es ot es.length)
  have eE : nthE es ot es.length = ot := by unfold nthE; rw [dif_neg (by omega)]
  have D := s.othD
  have nk : (-1 : Int) < 0 := by decide
  have e8 : ofS wd C.st (selD (nmS C.sv l) (-1) l) (-1) = [] := by unfold ofS; rw [if_pos nk]
  rw [eE] at ok h1
  refine same_any h1 h2 (fun i => by have := ok.c i; omega) (AdrS.of_ok ok) (nthK_le cok.o2 es _) D.c D.s1 D.s2 D.s3 ?_ (by rw [e8, D.st]; rfl) (by rw [e8, D.more]; rfl) (by rw [e8]; decide)
  unfold nthK ofK
  rw [dif_neg (by omega), if_pos nk]
set_option maxRecDepth 20000 in
/-- how much is kept, told by the document -/
theorem live_of {sv x bd : Int} {o w : Nat} (hw : 1 ≤ w) {oD : Sd} {l : List Deed} {es : List Ent} {ot : Ent} (h : TSt sv x (sd0 w bd) oD l es ot) (k : Nat) (hk : k < es.length) : ofV o w x bd (selD (nmS sv l) k l) k = 1 + (liveE o es[k] : Nat) := by
  obtain ⟨_, D⟩ := h.entD hw (List.getElem?_eq_getElem hk)
  have hd := D.d
  unfold DetF at hd
  unfold ofV liveE
  rw [if_neg (by omega), D.m, D.st, hd]
  simp only [List.length_drop, List.length_take, List.length_map]
  omega
end Go.Proofs.Ythgkhllkhhnlpaa
