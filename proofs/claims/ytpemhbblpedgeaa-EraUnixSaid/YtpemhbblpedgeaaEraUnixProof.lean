/- EraUnix: for every input the law returns true, and each argument reads as before. No condition. -/
import Derived.Test.YtpemhbblpedgeaaRows
import Derived.Test.YtpemhbblpedgeaaUnix03
import Derived.WalkKit
import Derived.ProofKit
import Derived.OpenShut
import Derived.ShutString
import Derived.ChangeOld
import Derived.Below
import Derived.Lib.SmallJoins
namespace Go.Proofs.Ytpemhbblpedgeaa
open Go.ChangeShapes Go.WideShapes Go.ChangeAt Go.RowKit Go.Joins
namespace EraUnixProof

theorem own : ownKnob Try.prog.godebug = none := by kernel_rfl
theorem laidOut : laidOutB Try.prog = true := by kernel_rfl
theorem cellsW : Try.prog.cellsOf 24 = 2 := by kernel_rfl
theorem wide_of {h l : Int} (h1 : (Lit.int .i64 h).wf = true) (h2 : (Lit.int .u64 l).wf = true) : ∃ x, InW x ∧ Value.agg #[.int .i64 h, .int .u64 l] = WV x := by
  simp [Lit.wf, IntKind.min, IntKind.max, IntKind.signed, IntKind.bits] at h1 h2
  refine ⟨h * 18446744073709551616 + l, inW_mk h l (by omega) (by omega) (by omega) (by omega), ?_⟩
  show _ = Value.agg #[.int .i64 (hiW _), .int .u64 (loW _)]
  rw [hi_mk h l (by omega) (by omega), lo_mk h l (by omega) (by omega)]
set_option maxRecDepth 100000 in
theorem lifted (os : Os) (started : os.Started) (H : Type) (enc : TypeId × Value → H) :
    ReturnsInHanded {} Try.checked os 4 .any (Rows.eraUnixSpec.pre6 enc Try.prog Try.f4 Rows.eraUnixRow.domain false) (Rows.eraUnixSpec.post enc Try.prog Try.f4 false true false false) := by
  refine returnsInHanded_of_change (C := Try.checked) own started (by kernel_rfl) Try.func4
    (ChangeSpec.witness6 (enc := enc) (C := Try.checked) false ⟨#[], #[.int .u64 0, .int .u32 0, .agg #[.int .i64 0, .int .u64 0]], []⟩ 8 (by kernel_rfl) (by kernel_rfl) (by kernel_rfl) (by kernel_rfl)) ?_
  intro W base args ds gs before hval0 hW hcnd _
  have hval : ∀ (j : Nat) t v, Try.f4.params[j]? = some t → args[j]? = some v → Value.okWide Try.prog W .any base t v := hval0
  have hW' := hW
  obtain ⟨p, q, hA0, hV, rfl, hfz, hnd⟩ := hW
  have hA : DataW.TrodAll enc Try.prog W 0 (fun _ => true) true Try.f4.params.toList args.toList ds p := hA0
  rw [Try.params4] at hA hval
  obtain ⟨v0, vs0, d0, ds0, p0, q0, hargs, rfl, rfl, h0, r0⟩ := trodAll_cons hA
  obtain ⟨v1, vs1, d1, ds1, p1, q1, rfl, rfl, rfl, h1, r1⟩ := trodAll_cons r0
  obtain ⟨v2, vs2, d2, ds2, p2, q2, rfl, rfl, rfl, h2, r2⟩ := trodAll_cons r1
  obtain ⟨rfl, rfl, rfl⟩ := trodAll_nil r2
  obtain rfl : args = #[v0, v1, v2] := by cases args; simp_all
  obtain ⟨rfl, rfl⟩ := trodVars_none hV
  have k0 := h0
  have lt0 : ∀ x ∈ p0, x.block < W.heap.size := by obtain ⟨m, hm⟩ := k0; exact DataW.trod_lt m _ _ _ hm
  have k1 := h1
  have lt1 : ∀ x ∈ p1, x.block < W.heap.size := by obtain ⟨m, hm⟩ := k1; exact DataW.trod_lt m _ _ _ hm
  have k2 := h2
  have lt2 : ∀ x ∈ p2, x.block < W.heap.size := by obtain ⟨m, hm⟩ := k2; exact DataW.trod_lt m _ _ _ hm
  obtain ⟨x0, rfl, _, _, wx0⟩ := open_int Try.underlying22 (hval 0 22 v0 rfl rfl) h0
  have bx0 : 0 ≤ x0 ∧ x0 ≤ 18446744073709551615 := by
    simp [Lit.wf, IntKind.min, IntKind.max, IntKind.signed, IntKind.bits] at wx0
    omega
  obtain ⟨x1, rfl, _, _, wx1⟩ := open_int Try.underlying33 (hval 1 33 v1 rfl rfl) h1
  have bx1 : 0 ≤ x1 ∧ x1 ≤ 4294967295 := by
    simp [Lit.wf, IntKind.min, IntKind.max, IntKind.signed, IntKind.bits] at wx1
    omega
  obtain ⟨c20, c21, y20, y21, m2, rfl, _, _, t20, t21⟩ := open_agg2 Try.underlying24 (by kernel_rfl) cellsW (hval 2 24 v2 rfl rfl) h2
  obtain ⟨a2, e20, _, wa2⟩ := DataW.trod_int Try.underlying2 t20
  obtain ⟨b2, e21, _, wb2⟩ := DataW.trod_int Try.underlying22 t21
  simp at e20 e21
  subst e20 e21
  obtain ⟨x2, ix2, ex2⟩ := wide_of wa2 wb2
  clear hA0 hval0
  have hw := unix03_any x0 x1 x2 bx0.1 bx0.2 bx1.1 bx1.2 ix2 W
  rw [← ex2] at hw
  refine hw.mono fun e W' ⟨he, hm⟩ => ?_
  have bel := hm.below
  subst he
  exact ⟨_, rfl, _, _, _, [], _, [], hW', trodAll_mk1 (shut_bool Try.underlying4 _), (trodAll_cons_mk (Below.trod laidOut (by kernel_rfl) (of_decide_eq_true (by kernel_rfl)) k0 bel lt0) (trodAll_cons_mk (Below.trod laidOut (by kernel_rfl) (of_decide_eq_true (by kernel_rfl)) k1 bel lt1) (trodAll_cons_mk (Below.trod laidOut (by kernel_rfl) (of_decide_eq_true (by kernel_rfl)) k2 bel lt2) trodAll_mk0))), rfl, bel.frame _, fun h => by cases h⟩

theorem over : Rows.eraUnixRow.holds Try.pinned (OpenSpec.ofChange Rows.eraUnixSpec) :=
  OpenClaim.holds_of_wide 4 Try.f4 rfl rfl rfl rfl rfl rfl rfl ⟨rfl, rfl, rfl, rfl, rfl⟩ rfl rfl rfl rfl rfl (by kernel_rfl) Try.func4 (by kernel_rfl)
    (of_decide_eq_true (by kernel_rfl)) (by unfold Func.isWrapper; first | (rw [if_pos (by decide +kernel)]; kernel_rfl) | (rw [if_neg (by decide +kernel)]; exact ⟨rfl, rfl⟩))
    (fun os started H enc _ => lifted os started H enc)
end EraUnixProof

/-- the statement -/
theorem eraUnix_holds : Rows.EraUnixSaid := EraUnixProof.over
#print axioms eraUnix_holds
end Go.Proofs.Ytpemhbblpedgeaa
