/- server: Put, whole; deeds. -/
import Derived.Test.YthgkhllkhhnlpaaSvN
import Derived.Test.YthgkhllkhhnlpaaSvP
namespace Go.Proofs.Ythgkhllkhhnlpaa
open Go.RowKit Go.Maps

/-- a table, with its blocks inside S, which ends with the world -/
structure TabW (W : World) (T b : Nat) (S : Nat → Prop) (C : CfgS) (o w : Nat) (es : List Ent) (ot : Ent) (n : Nat) : Prop where
  at_ : TabAt W T b S C o w es ot n
  lt : ∀ k, S k → k < W.heap.size
  b : b ≤ W.heap.size
set_option maxRecDepth 20000 in
theorem own_lt' {w : World} {b T s n : Nat} {v : Value} {xs : List Value} (h : w.ownsRow b T s v n xs) {k : Nat} (e : v.ownBlock = some k) : k < w.heap.size := by
  obtain ⟨cs, bk⟩ := own_ty h e
  exact bk.lt
set_option maxRecDepth 20000 in
theorem TabAt.narrow {W : World} {T b : Nat} {S : Nat → Prop} {C : CfgS} {o w : Nat} {es : List Ent} {ot : Ent} {n : Nat} (h : TabAt W T b S C o w es ot n) (hb : b ≤ W.heap.size) : TabW W T b (fun k => S k ∧ k < W.heap.size) C o w es ot n := by
  obtain ⟨B, lv, gs, Fs, go, Fo, t, ft⟩ := h.ex
  refine ⟨⟨B, lv, gs, Fs, go, Fo, t, ⟨ft.t, t.t.lt⟩, ⟨ft.b, t.num.lt⟩, fun k e => ⟨ft.l k e, own_lt' t.row e⟩, fun i F hF k hk => ⟨ft.f i F hF k hk, ?_⟩, fun k hk => ⟨ft.o k hk, ?_⟩⟩, fun k hk => hk.2, hb⟩
  · have lj := (List.getElem?_eq_some_iff.1 hF).1
    obtain ⟨_, _, _, _, _, _, he⟩ := t.ent i _ F _ (List.getElem?_eq_getElem (by rw [t.lg, ← t.lF]; exact lj)) hF (List.getElem?_eq_getElem (by rw [← t.lF]; exact lj))
    exact he.ty.lt k hk
  · obtain ⟨_, _, _, _, _, _, he⟩ := t.oth
    exact he.ty.lt k hk
set_option maxRecDepth 20000 in
theorem TabIs.kpS {S : Nat → Prop} {W w' : World} {T B b : Nat} {C : CfgS} {o w : Nat} {lv : Value} {gs : List Nat} {Fs : List (List Nat)} {go : Nat} {Fo : List Nat} {es : List Ent} {ot : Ent} {n : Nat} (h : TabIs W T B b C o w lv gs Fs go Fo es ot n) {S2 : Nat → Prop} (ft : FootT S2 T B lv Fs Fo) (k : KpS S W w') (q : ∀ i, S2 i → ¬ S i) : TabIs w' T B b C o w lv gs Fs go Fo es ot n := by
  refine ⟨k.blk h.t (q _ ft.t), own_kpS h.row k fun g hg => q _ (ft.l g hg), h.num.keep (k.block B h.num.lt (q _ ft.b)), h.nd, h.lg, h.lF, ?_, ?_, h.dis, h.diso, h.ok, h.le⟩
  · intro j g' G X h1 h2 h3
    obtain ⟨r1, r2, r3, u, v, z, he⟩ := h.ent j g' G X h1 h2 h3
    exact ⟨r1, r2, r3, u, v, z, he.kp k fun i hi => q _ (ft.f j G h2 i hi)⟩
  · obtain ⟨r1, r2, r3, u, v, z, he⟩ := h.oth
    exact ⟨r1, r2, r3, u, v, z, he.kp k fun i hi => q _ (ft.o i hi)⟩
set_option maxRecDepth 20000 in
/-- a table is kept by what touches none of its blocks -/
theorem TabW.kp {S S2 : Nat → Prop} {W w' : World} {T b : Nat} {C : CfgS} {o w : Nat} {es : List Ent} {ot : Ent} {n : Nat} (h : TabW W T b S2 C o w es ot n) (k : KpS S W w') (q : ∀ i, S2 i → ¬ S i) : TabW w' T b S2 C o w es ot n := by
  obtain ⟨B, lv, gs, Fs, go, Fo, t, ft⟩ := h.at_.ex
  exact ⟨⟨B, lv, gs, Fs, go, Fo, t.kpS ft k q, ft⟩, fun i hi => Nat.lt_of_lt_of_le (h.lt i hi) k.size, Nat.le_trans h.b k.size⟩
set_option maxRecDepth 20000 in
theorem TabW.mo {S2 : Nat → Prop} {W w' : World} {T b : Nat} {C : CfgS} {o w : Nat} {es : List Ent} {ot : Ent} {n : Nat} (h : TabW W T b S2 C o w es ot n) (k : Mo W w') : TabW w' T b S2 C o w es ot n := h.kp (KpS.of_mo (S := fun _ => False) k) fun _ _ e => e
/-- what a deed leaves -/
def DoneT (T b : Nat) (S : Nat → Prop) (C : CfgS) (o wd : Nat) (es : List Ent) (ot : Ent) (n : Nat) (a : Array Value) (f : Option Nat → Ent → Ent) (W : World) (e : Ending) (w' : World) : Prop :=
  ∃ es1 q S1, e = .returned (.int .i64 (numO q)) ∧ OfP C.sv (sd0 wd C.st) a es es1 q ∧ TabW w' T b S1 C o wd (chg (f q) es1 ot q).1 (chg (f q) es1 ot q).2 (n + 1) ∧ KpS S W w' ∧ ∀ k, S1 k → S k ∨ W.heap.size ≤ k
set_option maxRecDepth 20000 in
theorem tput_any {W : World} {T b : Nat} {S : Nat → Prop} {C : CfgS} {o wd : Nat} {es : List Ent} {ot : Ent} {n : Nat} (h : TabW W T b S C o wd es ot n) (X : Smp) (ok : SmpOk X) (hn : n ≤ 900) :
    Calls Try.prog 10 #[ptrS T, .agg (smpC X)] W (DoneT T b S C o wd es ot n (smpA X) (fun q E => if q.isSome then putE C.sl E X else sumE E X) W) := by
  obtain ⟨B0, lv0, gs0, Fs0, go0, Fo0, t0, ft0⟩ := h.at_.ex
  refine (tput_core W T B0 go0 b o n C.sl C lv0 t0.t X ok (fun q g F E p1 p2 p3 gv sv stv w2 => ∃ es1 S1 B lv gs Fs go Fo, OfP C.sv (sd0 wd C.st) (smpA X) es es1 q ∧ TabIs w2 T B b C o wd lv gs Fs go Fo es1 ot n ∧ FootT S1 T B lv Fs Fo ∧ EntAt w2 b C o gs Fs go Fo es1 ot n g F E p1 p2 p3 gv sv stv q ∧ KpS S W w2 ∧ ∀ k, S1 k → S k ∨ W.heap.size ≤ k) ?_ hn h.b).mono ?_
  · intro w M
    have aok := ok.a
    generalize smpA X = A at aok ⊢
    refine (tof_all (h.mo M).at_ A aok.p aok.z (Nat.le_trans h.b M.size)).mono ?_
    rintro e w2 ⟨es1, q, g, S1, B, lv, gs, Fs, go, Fo, rfl, P, t, ft, pl, K, fr⟩
    obtain ⟨F, E, p1, p2, p3, gv, sv, stv, ea⟩ := pl.ent t
    refine ⟨q, g, F, E, p1, p2, p3, gv, sv, stv, rfl, ea.is, ⟨es1, S1, B, lv, gs, Fs, go, Fo, P, t, ft, ea, (KpS.of_mo (S := S) M).trans K fun _ _ e => e, fun i hi => (fr i hi).imp id (Nat.le_trans M.size)⟩, fun i cs hi bi => K.blk bi fun z => ?_⟩
    have := h.lt i z
    omega
  · rintro e w' ⟨q, g, F, E, p1, p2, p3, gv, sv, stv, w2, F', gv', sv', stv', rfl, ⟨es1, S1, B, lv, gs, Fs, go, Fo, P, t, ft, ea, K, fr⟩, K2, ff, new⟩
    obtain ⟨r1, r2⟩ := ea.chg t ft (Nat.le_succ n) (fun E => if q.isSome then putE C.sl E X else sumE E X) (by show (if q.isSome = true then putE C.sl E X else sumE E X).a = E.a; split; exact putE_a _ _ _; rfl) K2 ff new
    have KW : KpS S W w' := K.trans r2 fun i hi z => (fr i z).resolve_right (by omega)
    refine ⟨es1, q, _, rfl, P, r1.narrow (Nat.le_trans h.b KW.size), KW, fun i hi => ?_⟩
    rcases hi.1 with z | z
    · exact fr i z
    · exact .inr (Nat.le_trans K.size z)
set_option maxRecDepth 20000 in
theorem tcount_w {W : World} {T b : Nat} {S : Nat → Prop} {C : CfgS} {o wd : Nat} {es : List Ent} {ot : Ent} {n : Nat} (h : TabW W T b S C o wd es ot n) (a : Array Value) (ha : AdrS a) (k : Nat) (hn : n ≤ 900) :
    Calls Try.prog 11 #[ptrS T, .agg a, .int .u8 (k : Nat)] W (DoneT T b S C o wd es ot n a (fun _ E => if k < 9 then incE E k else E) W) := by
  refine (tcount_any h.at_ a ha.p ha.z h.b k (by omega)).mono ?_
  rintro e w' ⟨es1, q, S1, rfl, P, t, K, fr⟩
  exact ⟨es1, q, _, rfl, P, t.narrow (Nat.le_trans h.b K.size), K, fun i hi => fr i hi.1⟩
set_option maxRecDepth 20000 in
/-- a deed's operation -/
theorem actQ_put {x : Int} {d : Deed} (h : d.put = true) : actQ x d = fun q E => if q.isSome then putE x E d.S else sumE E d.S := by
  funext q E
  unfold actQ actE actO
  rw [h]
  rfl
set_option maxRecDepth 20000 in
theorem actQ_cnt {x : Int} {d : Deed} (h : d.put = false) : actQ x d = fun _ E => if d.k < 9 then incE E d.k else E := by
  funext q E
  unfold actQ actE actO
  rw [h]
  simp
end Go.Proofs.Ythgkhllkhhnlpaa
