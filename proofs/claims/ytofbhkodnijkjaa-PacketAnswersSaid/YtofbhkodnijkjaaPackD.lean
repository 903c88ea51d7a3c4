/- horologeref23.Same: are two packets one? -/
import Derived.Test.YtofbhkodnijkjaaPackC
import Derived.Test.YtofbhkodnijkjaaFlat2
import Derived.Test.YtofbhkodnijkjaaExtG
namespace Go.Proofs.Ytofbhkodnijkjaa
open Go.RowKit

set_option maxRecDepth 20000 in
theorem fit_int {k : IntKind} {n : Int} (h : k.min ≤ n) (h' : n ≤ k.max) : CK.fits (.i k) (.int k n) := ⟨rfl, by simp [Lit.wf, h, h']⟩
set_option maxRecDepth 20000 in
theorem ks_head : ksOf 39 = [.i .u8, .i .u8, .i .u8, .i .u8, .i .i8, .i .i8, .i .u32, .i .u32, .i .u8, .i .u8, .i .u8, .i .u8, .i .u64, .i .u64, .i .u64, .i .u64] := by kernel_rfl
set_option maxRecDepth 20000 in
theorem fits_head {h : Hd} (k : HdOk h) : Fits (ksOf 39) (hdC h).toList := by
  rw [ks_head]
  exact ⟨fit_int k.l.1 k.l.2, fit_int k.v.1 k.v.2, fit_int k.m.1 k.m.2, fit_int k.s.1 k.s.2, fit_int k.po.1 k.po.2, fit_int k.pr.1 k.pr.2, fit_int k.rd.1 k.rd.2, fit_int k.rp.1 k.rp.2,
    fit_int k.a.1 k.a.2, fit_int k.b.1 k.b.2, fit_int k.c.1 k.c.2, fit_int k.d.1 k.d.2, fit_int k.f.1 k.f.2, fit_int k.o.1 k.o.2, fit_int k.r.1 k.r.2, fit_int k.x.1 k.x.2, trivial⟩
set_option maxRecDepth 20000 in
theorem hdC_inj {h h' : Hd} (e : hdC h = hdC h') : h = h' := by
  have e := congrArg Array.toList e
  simp only [List.cons.injEq, Value.int.injEq, true_and, and_true] at e
  cases h
  cases h'
  simp only [Hd.mk.injEq]
  simpa using e
set_option maxRecDepth 20000 in
theorem eqlF_head (x y : Value) : binOp .eql 39 x y = eqlF 39 x y := rfl
set_option maxRecDepth 20000 in
theorem run_eqlF_head {h h' : Hd} (k : HdOk h) (k' : HdOk h') (w : World) : (eqlF 39 (hdV h) (hdV h')).run Try.prog w = .ok (.bool (decide (h = h'))) w := by
  have e := run_eql_flat (inferInstance : FlatT 39 16) w (fits_head k) (fits_head k')
  have e2 : eqA (hdC h) (hdC h') = decide (h = h') := by
    rw [Bool.eq_iff_iff, eqA_iff, decide_eq_true_eq]
    exact ⟨hdC_inj, fun e => by rw [e]⟩
  rw [← e2]
  exact e
/-- a value reads as a packet -/
def PkV (w : World) (p : Pk) (v : Value) : Prop := ∃ a1 c1 a2 c2, v = pkV p.h (.slice a1 p.e.length c1) (.slice a2 p.m.length c2) ∧ ExtS w a1 c1 p.e ∧ ByteS w a2 c2 p.m
set_option maxRecDepth 20000 in
theorem PkV.mo {W w : World} {p : Pk} {v : Value} (h : PkV W p v) (k : Mo W w) : PkV w p v := by
  obtain ⟨a1, c1, a2, c2, e, h1, h2⟩ := h
  exact ⟨a1, c1, a2, c2, e, h1.mo k, h2.mo k⟩
set_option maxRecDepth 20000 in
theorem PkR.now {U : World} {b : Nat} {w : World} {p : Pk} {v : Value} (h : PkR U b w p v) (Z : World) (hU : ∀ k, k < U.heap.size → Z.heap[k]? = U.heap[k]?) (hZ : ∀ k, b ≤ k → k < w.heap.size → Z.heap[k]? = w.heap[k]?) : PkV Z p v := by
  obtain ⟨a1, c1, a2, c2, e, h⟩ := h
  obtain ⟨⟨A, c, e1, h1⟩, ⟨A', c', e2, h2⟩⟩ := h Z hU hZ
  injection e1 with e1 e3 e4
  injection e2 with e2 e5 e6
  subst e1 e2 e4 e6
  exact ⟨a1, c1, a2, c2, e, h1, h2⟩
set_option maxRecDepth 20000 in
theorem PkR.at {U : World} {b : Nat} {w : World} {p : Pk} {v : Value} (h : PkR U b w p v) (M : Mo U w) : PkV w p v :=
  h.now w (fun k hk => by obtain ⟨J, d, rfl⟩ := M; exact more_get U J d k hk) fun _ _ _ => rfl
set_option maxRecDepth 20000 in
instance (p q : Pk) : Decidable (p = q) :=
  if h : p.h = q.h ∧ p.e = q.e ∧ p.m = q.m then isTrue (by cases p; cases q; simp_all) else isFalse (fun e => h (by rw [e]; exact ⟨rfl, rfl, rfl⟩))
set_option maxRecDepth 20000 in
theorem pk_eq (p q : Pk) : decide (p = q) = (decide (p.h = q.h) && (decide (p.e = q.e) && decide (p.m = q.m))) := by
  rw [Bool.eq_iff_iff]
  cases p; cases q
  simp
attribute [local go_sem] blk_cell' blk_frozen'
attribute [local go_sem ↓] eqlF_head
set_option maxRecDepth 20000 in
set_option maxHeartbeats 8000000 in
theorem same23_any (p q : Pk) (v u : Value) (W : World) (hv : PkV W p v) (hu : PkV W q u) (kp : HdOk p.h) (kq : HdOk q.h) :
    Calls Try.prog 12 #[v, u] W fun e w' => e = .returned (.bool (decide (p = q))) ∧ Mo W w' := by
  obtain ⟨a1, c1, a2, c2, rfl, x1, x2⟩ := hv
  obtain ⟨b1, d1, b2, d2, rfl, y1, y2⟩ := hu
  rw [pk_eq]
  have HQ := Lib.hid (run_eqlF_head kp kq)
  have SM := Lib.hid (fun w (M : Mo W w) => refSame_any a1 b1 p.e.length q.e.length c1 d1 p.e q.e w rfl rfl (x1.mo M) (y1.mo M))
  have s1 : ∀ o o' : Obj, ∀ J d, (convert 31 9 (.slice a2 p.m.length c2)).run Try.prog (more ((W.alloc o).alloc o') J d) = .ok (.string (strOfNums p.m)) (more ((W.alloc o).alloc o') J d) := fun o o' J d => str_conv (x2.mo Mor.out) rfl
  have s2 : ∀ o o' : Obj, ∀ J d, (convert 31 9 (.slice b2 q.m.length d2)).run Try.prog (more ((W.alloc o).alloc o') J d) = .ok (.string (strOfNums q.m)) (more ((W.alloc o).alloc o') J d) := fun o o' J d => str_conv (y2.mo Mor.out) rfl
  have se := strOf_eq x2.byte y2.byte
  clear x1 x2 y1 y2 kp kq
  obtain ⟨ph, pe, pm⟩ := p
  obtain ⟨qh, qe, qm⟩ := q
  simp only at HQ SM s1 s2 se ⊢
  generalize decide (ph = qh) = r1 at *
  generalize decide (pe = qe) = r2 at *
  generalize decide (pm = qm) = r3 at *
  generalize pe.length = n1 at *
  generalize qe.length = n2 at *
  generalize pm.length = n3 at *
  generalize qm.length = n4 at *
  have h1 := HQ.out
  clear HQ
  cases r1 with
  | false =>
    go_enter Try.func12, Try.ntmps12
    go_wp2_with fail
    go_ret
    exact ⟨rfl, Mor.out⟩
  | true =>
    go_enter Try.func12, Try.ntmps12
    go_wp2_with fail
    refine (SM.out _ Mor.out).mono ?_
    rintro e w1 ⟨rfl, J1, dd1, rfl⟩
    cases r2 with
    | false =>
      go_wp2_with fail
      go_ret
      exact ⟨rfl, Mor.out⟩
    | true =>
      go_wp2_with fail
      go_ret
      exact ⟨rfl, Mor.out⟩
end Go.Proofs.Ytofbhkodnijkjaa
