/- EraOrder: for every input the law returns true, and each argument reads as before. No condition. -/
import Derived.Test.YtpemhbblpedgeaaRows
import Derived.Test.YtpemhbblpedgeaaOrder03
import Derived.WalkKit
import Derived.ProofKit
import Derived.OpenShut
import Derived.ShutString
import Derived.ChangeOld
import Derived.Below
import Derived.Lib.SmallJoins
namespace Go.Proofs.Ytpemhbblpedgeaa
open Go.ChangeShapes Go.WideShapes Go.ChangeAt Go.RowKit Go.Joins
namespace EraOrderProof

theorem own : ownKnob Try.prog.godebug = none := by kernel_rfl
theorem laidOut : laidOutB Try.prog = true := by kernel_rfl
theorem cellsW : Try.prog.cellsOf 24 = 2 := by kernel_rfl
theorem wide_of {h l : Int} (h1 : (Lit.int .i64 h).wf = true) (h2 : (Lit.int .u64 l).wf = true) : ∃ x, InW x ∧ Value.agg #[.int .i64 h, .int .u64 l] = WV x := by
  simp [Lit.wf, IntKind.min, IntKind.max, IntKind.signed, IntKind.bits] at h1 h2
  refine ⟨h * 18446744073709551616 + l, inW_mk h l (by omega) (by omega) (by omega) (by omega), ?_⟩
  show _ = Value.agg #[.int .i64 (hiW _), .int .u64 (loW _)]
  rw [hi_mk h l (by omega) (by omega), lo_mk h l (by omega) (by omega)]
set_option maxRecDepth 100000 in
theorem lifted (os : Os) (started : os.Started) (H : Type) (enc : TypeId × Value → H) :
    ReturnsInHanded {} Try.checked os 5 .any (Rows.eraOrderSpec.pre6 enc Try.prog Try.f5 Rows.eraOrderRow.domain false) (Rows.eraOrderSpec.post enc Try.prog Try.f5 false true false false) := by
  refine returnsInHanded_of_change (C := Try.checked) own started (by kernel_rfl) Try.func5
    (ChangeSpec.witness6 (enc := enc) (C := Try.checked) false ⟨#[], #[.int .u64 0, .agg #[.int .i64 0, .int .u64 0], .agg #[.int .i64 0, .int .u64 0], .int .u64 0, .int .u64 0, .int .u32 0, .int .u32 0], []⟩ 8 (by kernel_rfl) (by kernel_rfl) (by kernel_rfl) (by kernel_rfl)) ?_
  intro W base args ds gs before hval0 hW hcnd _
  have hval : ∀ (j : Nat) t v, Try.f5.params[j]? = some t → args[j]? = some v → Value.okWide Try.prog W .any base t v := hval0
  have hW' := hW
  obtain ⟨p, q, hA0, hV, rfl, hfz, hnd⟩ := hW
  have hA : DataW.TrodAll enc Try.prog W 0 (fun _ => true) true Try.f5.params.toList args.toList ds p := hA0
  rw [Try.params5] at hA hval
  obtain ⟨v0, vs0, d0, ds0, p0, q0, hargs, rfl, rfl, h0, r0⟩ := trodAll_cons hA
  obtain ⟨v1, vs1, d1, ds1, p1, q1, rfl, rfl, rfl, h1, r1⟩ := trodAll_cons r0
  obtain ⟨v2, vs2, d2, ds2, p2, q2, rfl, rfl, rfl, h2, r2⟩ := trodAll_cons r1
  obtain ⟨v3, vs3, d3, ds3, p3, q3, rfl, rfl, rfl, h3, r3⟩ := trodAll_cons r2
  obtain ⟨v4, vs4, d4, ds4, p4, q4, rfl, rfl, rfl, h4, r4⟩ := trodAll_cons r3
  obtain ⟨v5, vs5, d5, ds5, p5, q5, rfl, rfl, rfl, h5, r5⟩ := trodAll_cons r4
  obtain ⟨v6, vs6, d6, ds6, p6, q6, rfl, rfl, rfl, h6, r6⟩ := trodAll_cons r5
  obtain ⟨rfl, rfl, rfl⟩ := trodAll_nil r6
  obtain rfl : args = #[v0, v1, v2, v3, v4, v5, v6] := by cases args; simp_all
  obtain ⟨rfl, rfl⟩ := trodVars_none hV
  have k0 := h0
  have lt0 : ∀ x ∈ p0, x.block < W.heap.size := by obtain ⟨m, hm⟩ := k0; exact DataW.trod_lt m _ _ _ hm
  have k1 := h1
  have lt1 : ∀ x ∈ p1, x.block < W.heap.size := by obtain ⟨m, hm⟩ := k1; exact DataW.trod_lt m _ _ _ hm
  have k2 := h2
  have lt2 : ∀ x ∈ p2, x.block < W.heap.size := by obtain ⟨m, hm⟩ := k2; exact DataW.trod_lt m _ _ _ hm
  have k3 := h3
  have lt3 : ∀ x ∈ p3, x.block < W.heap.size := by obtain ⟨m, hm⟩ := k3; exact DataW.trod_lt m _ _ _ hm
  have k4 := h4
  have lt4 : ∀ x ∈ p4, x.block < W.heap.size := by obtain ⟨m, hm⟩ := k4; exact DataW.trod_lt m _ _ _ hm
  have k5 := h5
  have lt5 : ∀ x ∈ p5, x.block < W.heap.size := by obtain ⟨m, hm⟩ := k5; exact DataW.trod_lt m _ _ _ hm
  have k6 := h6
  have lt6 : ∀ x ∈ p6, x.block < W.heap.size := by obtain ⟨m, hm⟩ := k6; exact DataW.trod_lt m _ _ _ hm
  obtain ⟨x0, rfl, _, _, wx0⟩ := open_int Try.underlying22 (hval 0 22 v0 rfl rfl) h0
  have bx0 : 0 ≤ x0 ∧ x0 ≤ 18446744073709551615 := by
    simp [Lit.wf, IntKind.min, IntKind.max, IntKind.signed, IntKind.bits] at wx0
    omega
  obtain ⟨c10, c11, y10, y11, m1, rfl, _, _, t10, t11⟩ := open_agg2 Try.underlying24 (by kernel_rfl) cellsW (hval 1 24 v1 rfl rfl) h1
  obtain ⟨a1, e10, _, wa1⟩ := DataW.trod_int Try.underlying2 t10
  obtain ⟨b1, e11, _, wb1⟩ := DataW.trod_int Try.underlying22 t11
  simp at e10 e11
  subst e10 e11
  obtain ⟨x1, ix1, ex1⟩ := wide_of wa1 wb1
  obtain ⟨c20, c21, y20, y21, m2, rfl, _, _, t20, t21⟩ := open_agg2 Try.underlying24 (by kernel_rfl) cellsW (hval 2 24 v2 rfl rfl) h2
  obtain ⟨a2, e20, _, wa2⟩ := DataW.trod_int Try.underlying2 t20
  obtain ⟨b2, e21, _, wb2⟩ := DataW.trod_int Try.underlying22 t21
  simp at e20 e21
  subst e20 e21
  obtain ⟨x2, ix2, ex2⟩ := wide_of wa2 wb2
  obtain ⟨x3, rfl, _, _, wx3⟩ := open_int Try.underlying22 (hval 3 22 v3 rfl rfl) h3
  have bx3 : 0 ≤ x3 ∧ x3 ≤ 18446744073709551615 := by
    simp [Lit.wf, IntKind.min, IntKind.max, IntKind.signed, IntKind.bits] at wx3
    omega
  obtain ⟨x4, rfl, _, _, wx4⟩ := open_int Try.underlying22 (hval 4 22 v4 rfl rfl) h4
  have bx4 : 0 ≤ x4 ∧ x4 ≤ 18446744073709551615 := by
    simp [Lit.wf, IntKind.min, IntKind.max, IntKind.signed, IntKind.bits] at wx4
    omega
  obtain ⟨x5, rfl, _, _, wx5⟩ := open_int Try.underlying33 (hval 5 33 v5 rfl rfl) h5
  have bx5 : 0 ≤ x5 ∧ x5 ≤ 4294967295 := by
    simp [Lit.wf, IntKind.min, IntKind.max, IntKind.signed, IntKind.bits] at wx5
    omega
  obtain ⟨x6, rfl, _, _, wx6⟩ := open_int Try.underlying33 (hval 6 33 v6 rfl rfl) h6
  have bx6 : 0 ≤ x6 ∧ x6 ≤ 4294967295 := by
    simp [Lit.wf, IntKind.min, IntKind.max, IntKind.signed, IntKind.bits] at wx6
    omega
  clear hA0 hval0
  have hw := order_any x0 x1 x2 x3 x4 x5 x6 bx0.1 bx0.2 ix1 ix2 bx3.1 bx3.2 bx4.1 bx4.2 bx5.1 bx5.2 bx6.1 bx6.2 W
  rw [← ex1, ← ex2] at hw
  refine hw.mono fun e W' ⟨he, hm⟩ => ?_
  have bel := hm.below
  subst he
  exact ⟨_, rfl, _, _, _, [], _, [], hW', trodAll_mk1 (shut_bool Try.underlying4 _), (trodAll_cons_mk (Below.trod laidOut (by kernel_rfl) (of_decide_eq_true (by kernel_rfl)) k0 bel lt0) (trodAll_cons_mk (Below.trod laidOut (by kernel_rfl) (of_decide_eq_true (by kernel_rfl)) k1 bel lt1) (trodAll_cons_mk (Below.trod laidOut (by kernel_rfl) (of_decide_eq_true (by kernel_rfl)) k2 bel lt2) (trodAll_cons_mk (Below.trod laidOut (by kernel_rfl) (of_decide_eq_true (by kernel_rfl)) k3 bel lt3) (trodAll_cons_mk (Below.trod laidOut (by kernel_rfl) (of_decide_eq_true (by kernel_rfl)) k4 bel lt4) (trodAll_cons_mk (Below.trod laidOut (by kernel_rfl) (of_decide_eq_true (by kernel_rfl)) k5 bel lt5) (trodAll_cons_mk (Below.trod laidOut (by kernel_rfl) (of_decide_eq_true (by kernel_rfl)) k6 bel lt6) trodAll_mk0))))))), rfl, bel.frame _, fun h => by cases h⟩

theorem over : Rows.eraOrderRow.holds Try.pinned (OpenSpec.ofChange Rows.eraOrderSpec) :=
  OpenClaim.holds_of_wide 5 Try.f5 rfl rfl rfl rfl rfl rfl rfl ⟨rfl, rfl, rfl, rfl, rfl⟩ rfl rfl rfl rfl rfl (by kernel_rfl) Try.func5 (by kernel_rfl)
    (of_decide_eq_true (by kernel_rfl)) (by unfold Func.isWrapper; first | (rw [if_pos (by decide +kernel)]; kernel_rfl) | (rw [if_neg (by decide +kernel)]; exact ⟨rfl, rfl⟩))
    (fun os started H enc _ => lifted os started H enc)
end EraOrderProof

/-- the statement -/
theorem eraOrder_holds : Rows.EraOrderSaid := EraOrderProof.over
#print axioms eraOrder_holds
end Go.Proofs.Ytpemhbblpedgeaa
