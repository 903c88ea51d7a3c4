/- horologelaw35.EpochPuts: the walk. -/
import Derived.Test.YtdgmcgfkammioaaEpW
import Derived.Test.YtdgmcgfkammioaaEpX
import Derived.Test.YtdgmcgfkammioaaRegG
namespace Go.Proofs.Ytdgmcgfkammioaa
open Go.RowKit Go.Maps

set_option maxRecDepth 20000 in
theorem RfIs.kp {S : Nat → Prop} {w w' : World} {R b : Nat} {v : Value} {wd : Int} {sv : Nat} {L : List RS} (h : RfIs w R b v wd sv L) (k : KpS S w w') (q1 : ¬ S R) (q2 : ∀ g, S g → NoT 35 w g) : RfIs w' R b v wd sv L := ⟨k.blk h.m q1, own_kp35 h.row k q2, h.lt, h.ok⟩
set_option maxRecDepth 20000 in
theorem RfIs.noS {w : World} {R b : Nat} {v : Value} {wd : Int} {sv : Nat} {L : List RS} (h : RfIs w R b v wd sv L) {t : TypeId} (n1 : 30 ≠ t) (n2 : 35 ≠ t) : ∀ g, g = R ∨ v.ownBlock = some g → NoT t w g := by
  rintro g (rfl | q)
  · exact noT_blk h.m n1
  · exact own_noT35 h.row n2 g q
set_option maxRecDepth 20000 in
theorem RfIs.noMap {w : World} {R b : Nat} {v : Value} {wd : Int} {sv : Nat} {L : List RS} (h : RfIs w R b v wd sv L) {B : Nat} (hm : ∃ es clock, w.heap[B]? = some (.map es clock)) : ¬ (B = R ∨ v.ownBlock = some B) := by
  obtain ⟨es, clock, hm⟩ := hm
  rintro (rfl | q)
  · have := h.m.out
    rw [hm] at this
    cases this
  · rcases h.row.2 with ⟨e, _⟩ | ⟨g', _, _, e, _, hB, _⟩
    · rw [e] at q; simp [Value.ownBlock] at q
    · rw [e] at q
      have e' : g' = B := by simpa [Value.ownBlock] using q
      rw [e', hm] at hB
      cases hB
set_option maxRecDepth 20000 in
theorem run_build_rm (wd : Int) (sv : Int) (w : World) : (Instr.build 30 #[(0, .int .i64 wd), (1, .int .i64 sv)]).run Try.prog w = .ok (.agg #[.int .i64 wd, .int .i64 sv, .slice none 0 0]) w := run_build w _ _ _ (by kernel_rfl)
set_option maxRecDepth 20000 in
theorem told_lenR {num : Int} {sv : Nat} {f : BestF} {E : Ep} (h : IsTold num sv f E) (hs : sv ≤ 256) : E.srv.length ≤ 1000 ∧ E.tr.length ≤ 1000 := by
  have h1 := (told_len h).2
  have h2 := (told_tr h).2.2
  have h3 := keysB_len sv f
  rw [← h1] at h3
  omega
/-- what each operation yields -/
def fl14 (R : Nat) (what nn : Int) (E : Ep) (A3 : Option Addr) (c3 : Nat) (D3 : Option Addr) (d3 : Nat) : List (Value → World → Prop) := [
  fun v _ => v = .bool true,
  fun v _ => v = .bool true,
  fun v _ => v = .bool false,
  fun v _ => v = .bool false,
  fun v _ => v = .int .u8 what,
  fun v _ => v = .int .u8 what,
  fun v _ => v = .bool false,
  fun v _ => v = .bool false,
  fun v _ => v = .bool false,
  fun v _ => v = .bool true,
  fun v _ => v = .bool false,
  fun v _ => v = .bool false,
  fun v _ => v = undef,
  fun v _ => v = undef,
  fun v _ => v = undef,
  fun v _ => v = undef,
  fun v _ => v = .bool false,
  fun v _ => v = .bool false,
  fun v _ => v = .bool false,
  fun v _ => v = .bool true,
  fun v _ => v = .bool true,
  fun v _ => v = .agg (epC E A3 c3 D3 d3),
  fun v _ => v = .pointer (some ⟨R, 0, none⟩),
  fun v _ => v = .int .i64 nn,
  fun v w => EpF w E v,
  fun v _ => v = .bool true,
  fun v _ => v = .bool false,
  fun v _ => v = .bool false,
  fun v _ => v = .bool false]
set_option maxRecDepth 20000 in
theorem fl14_mono (R : Nat) (what nn : Int) (E : Ep) (A3 : Option Addr) (c3 : Nat) (D3 : Option Addr) (d3 : Nat) : MonoL (fl14 R what nn E A3 c3 D3 d3) := by
  unfold fl14
  refine MonoL.eq _ ?_
  refine MonoL.eq _ ?_
  refine MonoL.eq _ ?_
  refine MonoL.eq _ ?_
  refine MonoL.eq _ ?_
  refine MonoL.eq _ ?_
  refine MonoL.eq _ ?_
  refine MonoL.eq _ ?_
  refine MonoL.eq _ ?_
  refine MonoL.eq _ ?_
  refine MonoL.eq _ ?_
  refine MonoL.eq _ ?_
  refine MonoL.eq _ ?_
  refine MonoL.eq _ ?_
  refine MonoL.eq _ ?_
  refine MonoL.eq _ ?_
  refine MonoL.eq _ ?_
  refine MonoL.eq _ ?_
  refine MonoL.eq _ ?_
  refine MonoL.eq _ ?_
  refine MonoL.eq _ ?_
  refine MonoL.eq _ ?_
  refine MonoL.eq _ ?_
  refine MonoL.eq _ ?_
  refine MonoL.cons (fun v w w' h m => EpF.mo h m) ?_
  refine MonoL.eq _ ?_
  refine MonoL.eq _ ?_
  refine MonoL.eq _ ?_
  refine MonoL.eq _ ?_
  exact MonoL.nil
def fl14_deps : List (List Nat) := [[], [], [0, 1], [2], [3], [3], [3, 4, 5], [3, 6], [7], [8], [8, 9], [8, 10], [11], [11], [11, 12, 13], [11, 14], [8, 11, 15], [8, 16], [17], [18], [18, 19], [20], [20], [20], [20, 22, 23], [20, 21, 24], [20, 25], [18, 20, 26], [18, 27]]
attribute [local go_sem] blk_cell' blk_frozen' run_build_ep0 run_build_rm
attribute [local go_sem ↓] loadF_ep storeF_ep loadF_wide35 buildF_ep
attribute [local go_sem] run_loadF0 run_storeF0
set_option maxRecDepth 20000 in
set_option maxHeartbeats 16000000 in
theorem puts35_any (A : Option Addr) (cap N : Nat) (l : List RS) (wd s : Int) (W : World) (hL : l.length = N) (h : SmpS W A cap l) :
    Calls Try.prog 3 #[.slice A N cap, .int .i64 wd, .int .i64 s] W fun e w' => e = .returned (.bool true) ∧ Mo W w' := by
  have WK := Lib.hid works35_any
  have HL := Lib.hid hL
  have HD := Lib.hid h
  clear h hL
  by_cases c1 : 60 < N
  · have d1 : decide ((60 : Int) < N) = true := decide_eq_true (by omega)
    have d1' : decide (60 < N) = true := decide_eq_true c1
    clear c1
    go_enter Try.func3, Try.ntmps3
    go_wp2_with fail
    refine (WK.out _).mono ?_
    rintro e w1 ⟨rfl, M1⟩
    go_wp2_with fail
    go_ret
    exact ⟨rfl, (Mor.out : Mo W _).trans (M1.trans Mor.out)⟩
  have d1 : decide ((60 : Int) < N) = false := decide_eq_false (by omega)
  have d1' : decide (60 < N) = false := decide_eq_false c1
  have N60 : N ≤ 60 := by omega
  clear c1
  by_cases c2 : 40 < s ∧ s ≤ 256
  · have d2 : decide (40 < s) = true := decide_eq_true c2.1
    have d3 : decide (s ≤ 256) = true := decide_eq_true c2.2
    clear c2
    go_enter Try.func3, Try.ntmps3
    go_wp2_with fail
    refine (WK.out _).mono ?_
    rintro e w1 ⟨rfl, M1⟩
    go_wp2_with fail
    go_ret
    exact ⟨rfl, (Mor.out : Mo W _).trans (M1.trans Mor.out)⟩
  by_cases c3 : wd < 1 ∨ 1152921504606846976 < wd ∨ s < 1 ∨ 256 < s
  · have NO := Lib.hid (fun w => enew_out wd s c3 w)
    by_cases k0 : 40 < s
    · have d2 : decide (40 < s) = true := decide_eq_true k0
      have d3 : decide (s ≤ 256) = false := decide_eq_false (by omega)
      by_cases k1 : wd < 1
      · have e1 : decide (wd < 1) = true := decide_eq_true k1
        go_enter Try.func3, Try.ntmps3
        go_wp2_with fail
        refine (NO.out _).mono ?_
        rintro e w1 ⟨rfl, M1⟩
        have N1 : Mo W w1 := (Mor.out : Mo W _).trans M1
        go_wp2_with fail
        refine (WK.out _).mono ?_
        rintro e w2 ⟨rfl, M2⟩
        go_wp2_with fail
        go_ret
        exact ⟨rfl, N1.trans ((Mor.out : Mo w1 _).trans (M2.trans Mor.out))⟩
      have e1 : decide (wd < 1) = false := decide_eq_false k1
      by_cases k2 : 1152921504606846976 < wd
      · have e2 : decide (1152921504606846976 < wd) = true := decide_eq_true k2
        go_enter Try.func3, Try.ntmps3
        go_wp2_with fail
        refine (NO.out _).mono ?_
        rintro e w1 ⟨rfl, M1⟩
        have N1 : Mo W w1 := (Mor.out : Mo W _).trans M1
        go_wp2_with fail
        refine (WK.out _).mono ?_
        rintro e w2 ⟨rfl, M2⟩
        go_wp2_with fail
        go_ret
        exact ⟨rfl, N1.trans ((Mor.out : Mo w1 _).trans (M2.trans Mor.out))⟩
      have e2 : decide (1152921504606846976 < wd) = false := decide_eq_false k2
      by_cases k3 : s < 1
      · have e3 : decide (s < 1) = true := decide_eq_true k3
        go_enter Try.func3, Try.ntmps3
        go_wp2_with fail
        refine (NO.out _).mono ?_
        rintro e w1 ⟨rfl, M1⟩
        have N1 : Mo W w1 := (Mor.out : Mo W _).trans M1
        go_wp2_with fail
        refine (WK.out _).mono ?_
        rintro e w2 ⟨rfl, M2⟩
        go_wp2_with fail
        go_ret
        exact ⟨rfl, N1.trans ((Mor.out : Mo w1 _).trans (M2.trans Mor.out))⟩
      have e3 : decide (s < 1) = false := decide_eq_false k3
      have e4 : decide (256 < s) = true := decide_eq_true (by omega)
      go_enter Try.func3, Try.ntmps3
      go_wp2_with fail
      refine (NO.out _).mono ?_
      rintro e w1 ⟨rfl, M1⟩
      have N1 : Mo W w1 := (Mor.out : Mo W _).trans M1
      go_wp2_with fail
      refine (WK.out _).mono ?_
      rintro e w2 ⟨rfl, M2⟩
      go_wp2_with fail
      go_ret
      exact ⟨rfl, N1.trans ((Mor.out : Mo w1 _).trans (M2.trans Mor.out))⟩
    · have d2 : decide (40 < s) = false := decide_eq_false k0
      by_cases k1 : wd < 1
      · have e1 : decide (wd < 1) = true := decide_eq_true k1
        go_enter Try.func3, Try.ntmps3
        go_wp2_with fail
        refine (NO.out _).mono ?_
        rintro e w1 ⟨rfl, M1⟩
        have N1 : Mo W w1 := (Mor.out : Mo W _).trans M1
        go_wp2_with fail
        refine (WK.out _).mono ?_
        rintro e w2 ⟨rfl, M2⟩
        go_wp2_with fail
        go_ret
        exact ⟨rfl, N1.trans ((Mor.out : Mo w1 _).trans (M2.trans Mor.out))⟩
      have e1 : decide (wd < 1) = false := decide_eq_false k1
      by_cases k2 : 1152921504606846976 < wd
      · have e2 : decide (1152921504606846976 < wd) = true := decide_eq_true k2
        go_enter Try.func3, Try.ntmps3
        go_wp2_with fail
        refine (NO.out _).mono ?_
        rintro e w1 ⟨rfl, M1⟩
        have N1 : Mo W w1 := (Mor.out : Mo W _).trans M1
        go_wp2_with fail
        refine (WK.out _).mono ?_
        rintro e w2 ⟨rfl, M2⟩
        go_wp2_with fail
        go_ret
        exact ⟨rfl, N1.trans ((Mor.out : Mo w1 _).trans (M2.trans Mor.out))⟩
      have e2 : decide (1152921504606846976 < wd) = false := decide_eq_false k2
      by_cases k3 : s < 1
      · have e3 : decide (s < 1) = true := decide_eq_true k3
        go_enter Try.func3, Try.ntmps3
        go_wp2_with fail
        refine (NO.out _).mono ?_
        rintro e w1 ⟨rfl, M1⟩
        have N1 : Mo W w1 := (Mor.out : Mo W _).trans M1
        go_wp2_with fail
        refine (WK.out _).mono ?_
        rintro e w2 ⟨rfl, M2⟩
        go_wp2_with fail
        go_ret
        exact ⟨rfl, N1.trans ((Mor.out : Mo w1 _).trans (M2.trans Mor.out))⟩
      have e3 : decide (s < 1) = false := decide_eq_false k3
      have e4 : decide (256 < s) = true := decide_eq_true (by omega)
      go_enter Try.func3, Try.ntmps3
      go_wp2_with fail
      refine (NO.out _).mono ?_
      rintro e w1 ⟨rfl, M1⟩
      have N1 : Mo W w1 := (Mor.out : Mo W _).trans M1
      go_wp2_with fail
      refine (WK.out _).mono ?_
      rintro e w2 ⟨rfl, M2⟩
      go_wp2_with fail
      go_ret
      exact ⟨rfl, N1.trans ((Mor.out : Mo w1 _).trans (M2.trans Mor.out))⟩
  obtain ⟨sv, rfl⟩ : ∃ n : Nat, s = n := ⟨s.toNat, by omega⟩
  have d2 : decide (40 < (sv : Int)) = false := decide_eq_false (by omega)
  have d2' : decide (40 < sv) = false := decide_eq_false (by omega)
  have e1 : decide (wd < 1) = false := decide_eq_false (by omega)
  have e2 : decide (1152921504606846976 < wd) = false := decide_eq_false (by omega)
  have e3 : decide ((sv : Int) < 1) = false := decide_eq_false (by omega)
  have e3' : decide (sv < 1) = false := decide_eq_false (by omega)
  have e4 : decide (256 < (sv : Int)) = false := decide_eq_false (by omega)
  have e4' : decide (256 < sv) = false := decide_eq_false (by omega)
  have w0 : 1 ≤ wd := by omega
  have w1 : wd ≤ 1152921504606846976 := by omega
  have s1 : sv ≤ 256 := by omega
  have NW := Lib.hid (fun w => enew_in wd sv ⟨w0, w1⟩ ⟨by omega, s1⟩ w)
  clear c2 c3
  go_enter Try.func3, Try.ntmps3
  go_wp2_with fail
  refine (NW.out _).mono ?_
  rintro e wn ⟨M, B, rfl, gM, gB, I0, M0⟩
  have N0 : Mo W wn := M0
  clear NW
  --@@ r9
  go_upto_region 9 with (fail)
  refine wp_name ?_
  intro U hU
  have b9 : Blk U wn.heap.size 30 #[.int .i64 wd, .int .i64 (sv : Nat), .slice none 0 0] := by rw [hU]; infer_instance
  have MU : Mo wn U := by rw [hU]; exact Mor.out
  have RU : RfIs U wn.heap.size U.heap.size (.slice none 0 0) wd sv [] := ⟨b9, ⟨rfl, .inl ⟨rfl, rfl⟩⟩, b9.lt, fun x hx => by cases hx⟩
  have IU := I0.mo MU
  have NU : Mo W U := N0.trans MU
  have gR : W.heap.size ≤ wn.heap.size := N0.size
  have gU : W.heap.size ≤ U.heap.size := NU.size
  generalize wn.heap.size = R at *
  clear hU MU I0 N0 M0 b9 e1 e2 e3 e3' e4 e4' d1 d1' d2 d2'
  --@@ loop
  go_wp2_with fail
  go_loopw [75] (fun i wr => ∃ (j : Nat) (L : List RS) (v : Value), j ≤ N ∧ i = .int .i64 j ∧ L.length ≤ j ∧ Rises wd L ∧ MkIs wr M B (mkR wd sv L) ∧ RfIs wr R U.heap.size v wd sv L ∧ U.heap.size ≤ wr.heap.size ∧ Mo W wr) (fun i _ => N - (intOf i).toNat)
  case atStart => exact ⟨0, [], _, by omega, rfl, by simp, rises_nil wd, by unfold mkR; rw [if_pos rfl]; exact IU.mo Mor.out, RU.mo Mor.out, Mo.size Mor.out, NU.trans Mor.out⟩
  case round =>
    obtain ⟨j, L, v, hj, rfl, hl, hr, hI, hR, hU, hM⟩ := hrel
    clear IU RU NU
    by_cases cj : j < N
    · have hjl : j < l.length := by rw [HL.out]; exact cj
      obtain ⟨g, off, eA, hc⟩ := (HD.out.mo hM).row.resolve_left (fun e => by rw [e] at hjl; cases hjl)
      subst eA
      have ok := HD.out.ok _ (List.getElem_mem hjl)
      have y0 := hc j hjl 0 _ rfl
      have y1 := hc j hjl 1 _ rfl
      have y2 := hc j hjl 2 _ rfl
      have y3 := hc j hjl 3 _ rfl
      have y4 := hc j hjl 4 _ rfl
      obtain ⟨eb, what, nn, L', hl', hr', PM, PQ⟩ := step35 wd sv L l[j] w0 w1 hr ok (by omega)
      have HPM := Lib.hid PM
      have HPQ := Lib.hid PQ
      generalize l[j].s = xs at *
      generalize l[j].at_ = xa at *
      generalize l[j].o = xo at *
      generalize l[j].d = xd at *
      have z0 : LtW g wr := LtW.of_cell y0
      have i0 : (0 : Int) ≤ j := by omega
      have i1 : (j : Int) < N := by omega
      have hw : IntKind.i64.wrap ((j : Int) + 1) = j + 1 := by rw [IntKind.wrap_i64]; omega
      rw [Nat.add_zero] at y0
      have HI := Lib.hid hI
      have HR := Lib.hid hR
      have HRS := Lib.hid hr'
      clear hc PM PQ ok hI hR hr hr' hjl
      --@@ r12
      go_upto_region 12 with (fail)
      refine wp_name ?_
      intro w2 hw2
      have b11 : Blk w2 wr.heap.size 35 #[.int .i64 xs, .int .i64 (hiW xa), .int .u64 (loW xa), .int .i64 xo, .int .i64 xd] := by rw [hw2]; infer_instance
      have M2 : Mo wr w2 := by rw [hw2]; exact Mor.out
      have N2 := hM.trans M2
      have HI2 := Lib.hid (HI.out.mo M2)
      have HR2 := Lib.hid (HR.out.mo M2)
      have hU2 : U.heap.size ≤ w2.heap.size := Nat.le_trans hU M2.size
      have gw : W.heap.size ≤ wr.heap.size := hM.size
      generalize wr.heap.size = g11 at *
      clear hw2 M2 y0 y1 y2 y3 y4 z0 HI HR hM hU
      have ldx : (loadF 33 (.pointer (some ⟨g11, 1, none⟩))).run Try.prog w2 = .ok (WV xa) w2 := run_loadC35 33 2 w2 g11 1 #[.int .i64 (hiW xa), .int .u64 (loW xa)] rfl fun i u hu => by
        match i, hu with
        | 0, hu => rw [blk_cell b11]; exact hu
        | 1, hu => rw [blk_cell b11]; exact hu
      --@@ mput
      go_wp2_with fail
      refine (HPM.out M B _ (HI2.out.mo Mor.out)).mono ?_
      rintro e w3 ⟨E, A3, c3, D3, d3, rfl, J1, J2, I3, K3, E0, E1⟩
      have K23 : KpS (fun i => i = M ∨ i = B) w2 w3 := (KpS.of_mo (Mor.out : Mo w2 _)).trans K3 fun _ _ q => q
      have nT := fun {t : TypeId} (ne : 54 ≠ t) => HI2.out.noM ne
      have b11 := K23.blk b11 (fun q => nT (t := 35) (by decide) g11 q _ _ b11.out)
      have R3 := HR2.out.kp K23 (fun q => nT (t := 30) (by decide) R q _ _ HR2.out.m.out) (nT (by decide))
      have N3 : Mo W w3 := K23.mo N2 fun k _ q => by rcases q with rfl | rfl <;> assumption
      have hU3 : U.heap.size ≤ w3.heap.size := Nat.le_trans hU2 K23.size
      clear K3 K23 nT HI2 HR2 N2 ldx hU2
      --@@ r13
      go_upto_region 13 with (fail)
      refine wp_name ?_
      intro w4 hw4
      have b12 : Blk w4 w3.heap.size 38 (epC E A3 c3 D3 d3) := by rw [hw4]; infer_instance
      have M4 : Mo w3 w4 := by rw [hw4]; exact Mor.out
      have b11 := M4.blk b11
      have I4 := Lib.hid (I3.mo M4)
      have R4 := Lib.hid (R3.mo M4)
      have J14 := J1.mo M4
      have J24 := J2.mo M4
      have N4 := N3.trans M4
      have hU4 : U.heap.size ≤ w4.heap.size := Nat.le_trans hU3 M4.size
      generalize w3.heap.size = g12 at *
      clear hw4 M4 I3 R3 N3 J1 J2 hU3
      --@@ rput
      go_wp2_with fail
      refine (HPQ.out R v U _ (R4.out.mo Mor.out) (Nat.le_trans hU4 (Mo.size Mor.out))).mono ?_
      rintro e w5 ⟨v', rfl, R5, K5⟩
      have K45 : KpS (fun i => i = R ∨ v.ownBlock = some i) w4 w5 := (KpS.of_mo (Mor.out : Mo w4 _)).trans K5 fun _ _ q => q
      have b12 := K45.blk b12 (fun q => R4.out.noS (t := 38) (by decide) (by decide) g12 q _ _ b12.out)
      have I5 := I4.out.kp K45 (fun q => R4.out.noS (t := 54) (by decide) (by decide) M q _ _ I4.out.bm.out) (R4.out.noMap I4.out.b.isMap)
      have J15 := J14.kp K45 (R4.out.noS (by decide) (by decide))
      have J25 := J24.kp K45 (R4.out.noS (by decide) (by decide))
      have N5 : Mo W w5 := K45.mo N4 fun k _ q => by
        rcases q with rfl | q
        · exact gR
        · exact Nat.le_trans gU (R4.out.row.lt k q).1
      have hU5 : U.heap.size ≤ w5.heap.size := Nat.le_trans hU4 K45.size
      have HI5 := Lib.hid I5
      have HR5 := Lib.hid R5
      have lL : L'.length ≤ 1000 := by omega
      have TD := Lib.hid (fun num w (m : Mo w5 w) => rtold_any R U.heap.size v' wd sv L' num w (R5.mo m) lL w0 w1 s1)
      have LS := Lib.hid (fun w (m : Mo w5 w) => rlast_any R U.heap.size v' wd sv L' w (R5.mo m) lL w0 w1)
      clear K5 K45 I4 R4 b11 J14 J24 N4 I5 R5 hU4
      have HE0 := Lib.hid E0
      have HE1 := Lib.hid E1
      clear E0 E1
      --@@ r14
      go_upto_region 14 with (fail)
      go_cut [128] (fun s128 wx => s128 = .bool false ∧ Mo w5 wx)
      case first =>
        rename_i hJ hK
        cases eb with
        | false =>
          obtain rfl := HE0.out rfl
          have SM := Lib.hid (fun w (m : Mo w5 w) => same35_any ep0 _ _ w ⟨A3, c3, D3, d3, rfl, J15.mo m, J25.mo m⟩ (EpF.zero w) (Nat.zero_le _) (Nat.zero_le _))
          first | (refine wp_region_mo (by kernel_rfl) (by kernel_rfl) ?_) | (refine wp_region_mo' (by kernel_rfl) (by kernel_rfl) ?_)
          repeat (go_big_quiet_step (first | (with_reducible exact quiet_mo (SM.out _ Mor.out))))
          refine wpQuiet_nil ?_
          intro _ hw'
          obtain ⟨⟨J9, d9⟩, hw''⟩ := hw'
          subst hw''
          go_wp2_with fail
          go_meet
          exact ⟨rfl, Mor.out⟩
        | true =>
          have T1 := HE1.out rfl
          have tl := told_lenR T1 s1
          have bw : (what != what) = false := by simp
          have SMT := Lib.hid (fun v w (m : Mo w5 w) (h : EpF w E v) => same35_any E (.agg (epC E A3 c3 D3 d3)) v w ⟨A3, c3, D3, d3, rfl, J15.mo m, J25.mo m⟩ h tl.1 tl.2)
          refine wp_region_facts (fun k => fl14_deps.getD k []) (ofFL (fl14 R what nn E A3 c3 D3 d3)) (by kernel_rfl) (by kernel_rfl) (ofFL_mono (fl14_mono R what nn E A3 c3 D3 d3)) ?_ ?_
          · intro k hk a' w' hs hM hb hd
            have bb9 : a'.tmps.getD 9 undef = .pointer (some ⟨R, 0, none⟩) := (hb 9 (rg_free (by kernel_rfl))).trans rfl
            have bb12 : a'.tmps.getD 12 undef = .pointer (some ⟨g12, 0, none⟩) := (hb 12 (rg_free (by kernel_rfl))).trans rfl
            have bb13 : a'.tmps.getD 13 undef = .bool true := (hb 13 (rg_free (by kernel_rfl))).trans rfl
            have bb14 : a'.tmps.getD 14 undef = .int .u8 what := (hb 14 (rg_free (by kernel_rfl))).trans rfl
            have bb15 : a'.tmps.getD 15 undef = .int .i64 nn := (hb 15 (rg_free (by kernel_rfl))).trans rfl
            have bb16 : a'.tmps.getD 16 undef = .bool true := (hb 16 (rg_free (by kernel_rfl))).trans rfl
            have bb17 : a'.tmps.getD 17 undef = .int .u8 what := (hb 17 (rg_free (by kernel_rfl))).trans rfl
            have hk' : k < 29 := hk
            clear hs hk hb
            rcases (show k = 0 ∨ k = 1 ∨ k = 2 ∨ k = 3 ∨ k = 4 ∨ k = 5 ∨ k = 6 ∨ k = 7 ∨ k = 8 ∨ k = 9 ∨ k = 10 ∨ k = 11 ∨ k = 12 ∨ k = 13 ∨ k = 14 ∨ k = 15 ∨ k = 16 ∨ k = 17 ∨ k = 18 ∨ k = 19 ∨ k = 20 ∨ k = 21 ∨ k = 22 ∨ k = 23 ∨ k = 24 ∨ k = 25 ∨ k = 26 ∨ k = 27 ∨ k = 28 by omega) with rfl | rfl | rfl | rfl | rfl | rfl | rfl | rfl | rfl | rfl | rfl | rfl | rfl | rfl | rfl | rfl | rfl | rfl | rfl | rfl | rfl | rfl | rfl | rfl | rfl | rfl | rfl | rfl | rfl
            · -- 0
              exact rg_val rfl (rg_w0 rfl) rfl (Mo.refl _) bb13
            · -- 1
              exact rg_val rfl (rg_w0 rfl) rfl (Mo.refl _) bb16
            · -- 2
              have e0 : a'.tmps.getD 100 undef = .bool true := (rg_dep (hd 0 (by decide)) (by kernel_rfl) : ofFL (fl14 R what nn E A3 c3 D3 d3) 0 (a'.tmps.getD 100 undef) w')
              have e1 : a'.tmps.getD 101 undef = .bool true := (rg_dep (hd 1 (by decide)) (by kernel_rfl) : ofFL (fl14 R what nn E A3 c3 D3 d3) 1 (a'.tmps.getD 101 undef) w')
              exact rg_val (v := .bool false) rfl (rg_w0 rfl) (by simp [execOp, Act.eval, go_sem, e0, e1]) (Mo.refl _) rfl
            · -- 3
              have e2 : a'.tmps.getD 102 undef = .bool false := (rg_dep (hd 2 (by decide)) (by kernel_rfl) : ofFL (fl14 R what nn E A3 c3 D3 d3) 2 (a'.tmps.getD 102 undef) w')
              exact rg_val rfl (rg_w0 rfl) rfl (Mo.refl _) e2
            · -- 4
              have e3 : a'.tmps.getD 103 undef = .bool false := (rg_dep (hd 3 (by decide)) (by kernel_rfl) : ofFL (fl14 R what nn E A3 c3 D3 d3) 3 (a'.tmps.getD 103 undef) w')
              exact rg_val rfl (rg_w1 (g := 3) (t := 103) (b := false) rfl (by kernel_rfl) e3) rfl (Mo.refl _) bb14
            · -- 5
              have e3 : a'.tmps.getD 103 undef = .bool false := (rg_dep (hd 3 (by decide)) (by kernel_rfl) : ofFL (fl14 R what nn E A3 c3 D3 d3) 3 (a'.tmps.getD 103 undef) w')
              exact rg_val rfl (rg_w1 (g := 3) (t := 103) (b := false) rfl (by kernel_rfl) e3) rfl (Mo.refl _) bb17
            · -- 6
              have e3 : a'.tmps.getD 103 undef = .bool false := (rg_dep (hd 3 (by decide)) (by kernel_rfl) : ofFL (fl14 R what nn E A3 c3 D3 d3) 3 (a'.tmps.getD 103 undef) w')
              have e4 : a'.tmps.getD 104 undef = .int .u8 what := (rg_dep (hd 4 (by decide)) (by kernel_rfl) : ofFL (fl14 R what nn E A3 c3 D3 d3) 4 (a'.tmps.getD 104 undef) w')
              have e5 : a'.tmps.getD 105 undef = .int .u8 what := (rg_dep (hd 5 (by decide)) (by kernel_rfl) : ofFL (fl14 R what nn E A3 c3 D3 d3) 5 (a'.tmps.getD 105 undef) w')
              exact rg_val (v := .bool false) rfl (rg_w1 (g := 3) (t := 103) (b := false) rfl (by kernel_rfl) e3) (by simp [execOp, Act.eval, go_sem, e4, e5]) (Mo.refl _) rfl
            · -- 7
              have e3 : a'.tmps.getD 103 undef = .bool false := (rg_dep (hd 3 (by decide)) (by kernel_rfl) : ofFL (fl14 R what nn E A3 c3 D3 d3) 3 (a'.tmps.getD 103 undef) w')
              have e6 : a'.tmps.getD 106 undef = .bool false := (rg_dep (hd 6 (by decide)) (by kernel_rfl) : ofFL (fl14 R what nn E A3 c3 D3 d3) 6 (a'.tmps.getD 106 undef) w')
              exact rg_val (v := .bool false) rfl (rg_w0 rfl) (by simp [execOp, Act.eval, go_sem, e3, e6]) (Mo.refl _) rfl
            · -- 8
              have e7 : a'.tmps.getD 107 undef = .bool false := (rg_dep (hd 7 (by decide)) (by kernel_rfl) : ofFL (fl14 R what nn E A3 c3 D3 d3) 7 (a'.tmps.getD 107 undef) w')
              exact rg_val rfl (rg_w0 rfl) rfl (Mo.refl _) e7
            · -- 9
              have e8 : a'.tmps.getD 108 undef = .bool false := (rg_dep (hd 8 (by decide)) (by kernel_rfl) : ofFL (fl14 R what nn E A3 c3 D3 d3) 8 (a'.tmps.getD 108 undef) w')
              exact rg_val rfl (rg_w1 (g := 8) (t := 108) (b := false) rfl (by kernel_rfl) e8) rfl (Mo.refl _) bb13
            · -- 10
              have e8 : a'.tmps.getD 108 undef = .bool false := (rg_dep (hd 8 (by decide)) (by kernel_rfl) : ofFL (fl14 R what nn E A3 c3 D3 d3) 8 (a'.tmps.getD 108 undef) w')
              have e9 : a'.tmps.getD 109 undef = .bool true := (rg_dep (hd 9 (by decide)) (by kernel_rfl) : ofFL (fl14 R what nn E A3 c3 D3 d3) 9 (a'.tmps.getD 109 undef) w')
              exact rg_val (v := .bool false) rfl (rg_w1 (g := 8) (t := 108) (b := false) rfl (by kernel_rfl) e8) (by simp [execOp, Act.eval, go_sem, e9]) (Mo.refl _) rfl
            · -- 11
              have e8 : a'.tmps.getD 108 undef = .bool false := (rg_dep (hd 8 (by decide)) (by kernel_rfl) : ofFL (fl14 R what nn E A3 c3 D3 d3) 8 (a'.tmps.getD 108 undef) w')
              have e10 : a'.tmps.getD 110 undef = .bool false := (rg_dep (hd 10 (by decide)) (by kernel_rfl) : ofFL (fl14 R what nn E A3 c3 D3 d3) 10 (a'.tmps.getD 110 undef) w')
              exact rg_val rfl (rg_w1 (g := 8) (t := 108) (b := false) rfl (by kernel_rfl) e8) rfl (Mo.refl _) e10
            · -- 12
              have e11 : a'.tmps.getD 111 undef = .bool false := (rg_dep (hd 11 (by decide)) (by kernel_rfl) : ofFL (fl14 R what nn E A3 c3 D3 d3) 11 (a'.tmps.getD 111 undef) w')
              exact rg_skip rfl (rg_n1 (g := 11) (t := 111) (b := true) rfl (by kernel_rfl) e11) rfl
            · -- 13
              have e11 : a'.tmps.getD 111 undef = .bool false := (rg_dep (hd 11 (by decide)) (by kernel_rfl) : ofFL (fl14 R what nn E A3 c3 D3 d3) 11 (a'.tmps.getD 111 undef) w')
              exact rg_skip rfl (rg_n1 (g := 11) (t := 111) (b := true) rfl (by kernel_rfl) e11) rfl
            · -- 14
              have e11 : a'.tmps.getD 111 undef = .bool false := (rg_dep (hd 11 (by decide)) (by kernel_rfl) : ofFL (fl14 R what nn E A3 c3 D3 d3) 11 (a'.tmps.getD 111 undef) w')
              have e12 : a'.tmps.getD 112 undef = undef := (rg_dep (hd 12 (by decide)) (by kernel_rfl) : ofFL (fl14 R what nn E A3 c3 D3 d3) 12 (a'.tmps.getD 112 undef) w')
              have e13 : a'.tmps.getD 113 undef = undef := (rg_dep (hd 13 (by decide)) (by kernel_rfl) : ofFL (fl14 R what nn E A3 c3 D3 d3) 13 (a'.tmps.getD 113 undef) w')
              exact rg_skip rfl (rg_n1 (g := 11) (t := 111) (b := true) rfl (by kernel_rfl) e11) rfl
            · -- 15
              have e11 : a'.tmps.getD 111 undef = .bool false := (rg_dep (hd 11 (by decide)) (by kernel_rfl) : ofFL (fl14 R what nn E A3 c3 D3 d3) 11 (a'.tmps.getD 111 undef) w')
              have e14 : a'.tmps.getD 114 undef = undef := (rg_dep (hd 14 (by decide)) (by kernel_rfl) : ofFL (fl14 R what nn E A3 c3 D3 d3) 14 (a'.tmps.getD 114 undef) w')
              exact rg_skip rfl (rg_n1 (g := 11) (t := 111) (b := true) rfl (by kernel_rfl) e11) rfl
            · -- 16
              have e8 : a'.tmps.getD 108 undef = .bool false := (rg_dep (hd 8 (by decide)) (by kernel_rfl) : ofFL (fl14 R what nn E A3 c3 D3 d3) 8 (a'.tmps.getD 108 undef) w')
              have e11 : a'.tmps.getD 111 undef = .bool false := (rg_dep (hd 11 (by decide)) (by kernel_rfl) : ofFL (fl14 R what nn E A3 c3 D3 d3) 11 (a'.tmps.getD 111 undef) w')
              have e15 : a'.tmps.getD 115 undef = undef := (rg_dep (hd 15 (by decide)) (by kernel_rfl) : ofFL (fl14 R what nn E A3 c3 D3 d3) 15 (a'.tmps.getD 115 undef) w')
              exact rg_val (v := .bool false) rfl (rg_w1 (g := 8) (t := 108) (b := false) rfl (by kernel_rfl) e8) (by simp [execOp, Act.eval, go_sem, e11, e15]) (Mo.refl _) rfl
            · -- 17
              have e8 : a'.tmps.getD 108 undef = .bool false := (rg_dep (hd 8 (by decide)) (by kernel_rfl) : ofFL (fl14 R what nn E A3 c3 D3 d3) 8 (a'.tmps.getD 108 undef) w')
              have e16 : a'.tmps.getD 116 undef = .bool false := (rg_dep (hd 16 (by decide)) (by kernel_rfl) : ofFL (fl14 R what nn E A3 c3 D3 d3) 16 (a'.tmps.getD 116 undef) w')
              exact rg_val (v := .bool false) rfl (rg_w0 rfl) (by simp [execOp, Act.eval, go_sem, e8, e16]) (Mo.refl _) rfl
            · -- 18
              have e17 : a'.tmps.getD 117 undef = .bool false := (rg_dep (hd 17 (by decide)) (by kernel_rfl) : ofFL (fl14 R what nn E A3 c3 D3 d3) 17 (a'.tmps.getD 117 undef) w')
              exact rg_val rfl (rg_w0 rfl) rfl (Mo.refl _) e17
            · -- 19
              have e18 : a'.tmps.getD 118 undef = .bool false := (rg_dep (hd 18 (by decide)) (by kernel_rfl) : ofFL (fl14 R what nn E A3 c3 D3 d3) 18 (a'.tmps.getD 118 undef) w')
              exact rg_val rfl (rg_w1 (g := 18) (t := 118) (b := false) rfl (by kernel_rfl) e18) rfl (Mo.refl _) bb13
            · -- 20
              have e18 : a'.tmps.getD 118 undef = .bool false := (rg_dep (hd 18 (by decide)) (by kernel_rfl) : ofFL (fl14 R what nn E A3 c3 D3 d3) 18 (a'.tmps.getD 118 undef) w')
              have e19 : a'.tmps.getD 119 undef = .bool true := (rg_dep (hd 19 (by decide)) (by kernel_rfl) : ofFL (fl14 R what nn E A3 c3 D3 d3) 19 (a'.tmps.getD 119 undef) w')
              exact rg_val rfl (rg_w1 (g := 18) (t := 118) (b := false) rfl (by kernel_rfl) e18) rfl (Mo.refl _) e19
            · -- 21
              have e20 : a'.tmps.getD 120 undef = .bool true := (rg_dep (hd 20 (by decide)) (by kernel_rfl) : ofFL (fl14 R what nn E A3 c3 D3 d3) 20 (a'.tmps.getD 120 undef) w')
              have q := hM.blk b12
              exact rg_val (v := .agg (epC E A3 c3 D3 d3)) rfl (rg_w1 (g := 20) (t := 120) (b := true) rfl (by kernel_rfl) e20) (by simp [execOp, Act.eval, go_sem, bb12]) (Mo.refl _) rfl
            · -- 22
              have e20 : a'.tmps.getD 120 undef = .bool true := (rg_dep (hd 20 (by decide)) (by kernel_rfl) : ofFL (fl14 R what nn E A3 c3 D3 d3) 20 (a'.tmps.getD 120 undef) w')
              exact rg_val rfl (rg_w1 (g := 20) (t := 120) (b := true) rfl (by kernel_rfl) e20) rfl (Mo.refl _) bb9
            · -- 23
              have e20 : a'.tmps.getD 120 undef = .bool true := (rg_dep (hd 20 (by decide)) (by kernel_rfl) : ofFL (fl14 R what nn E A3 c3 D3 d3) 20 (a'.tmps.getD 120 undef) w')
              exact rg_val rfl (rg_w1 (g := 20) (t := 120) (b := true) rfl (by kernel_rfl) e20) rfl (Mo.refl _) bb15
            · -- 24
              have e20 : a'.tmps.getD 120 undef = .bool true := (rg_dep (hd 20 (by decide)) (by kernel_rfl) : ofFL (fl14 R what nn E A3 c3 D3 d3) 20 (a'.tmps.getD 120 undef) w')
              have e22 : a'.tmps.getD 122 undef = .pointer (some ⟨R, 0, none⟩) := (rg_dep (hd 22 (by decide)) (by kernel_rfl) : ofFL (fl14 R what nn E A3 c3 D3 d3) 22 (a'.tmps.getD 122 undef) w')
              have e23 : a'.tmps.getD 123 undef = .int .i64 nn := (rg_dep (hd 23 (by decide)) (by kernel_rfl) : ofFL (fl14 R what nn E A3 c3 D3 d3) 23 (a'.tmps.getD 123 undef) w')
              refine rg_call rfl (rg_w1 (g := 20) (t := 120) (b := true) rfl (by kernel_rfl) e20) (by simp [execOp, Act.eval, go_sem, e22, e23]) ((TD.out nn _ hM).mono ?_)
              rintro e wz ⟨E', v9, hT', rfl, hF', M9⟩
              exact ⟨_, rfl, M9, (told_uniq T1 hT' ▸ hF' : EpF wz E v9)⟩
            · -- 25
              have e20 : a'.tmps.getD 120 undef = .bool true := (rg_dep (hd 20 (by decide)) (by kernel_rfl) : ofFL (fl14 R what nn E A3 c3 D3 d3) 20 (a'.tmps.getD 120 undef) w')
              have e21 : a'.tmps.getD 121 undef = .agg (epC E A3 c3 D3 d3) := (rg_dep (hd 21 (by decide)) (by kernel_rfl) : ofFL (fl14 R what nn E A3 c3 D3 d3) 21 (a'.tmps.getD 121 undef) w')
              obtain hF2 := (rg_dep (hd 24 (by decide)) (by kernel_rfl) : ofFL (fl14 R what nn E A3 c3 D3 d3) 24 (a'.tmps.getD 124 undef) w')
              refine rg_call rfl (rg_w1 (g := 20) (t := 120) (b := true) rfl (by kernel_rfl) e20) (by simp [execOp, Act.eval, go_sem, e21]) ((SMT.out (a'.tmps.getD 124 undef) _ hM hF2).mono ?_)
              rintro e wz ⟨rfl, M9⟩
              exact ⟨_, rfl, M9, rfl⟩
            · -- 26
              have e20 : a'.tmps.getD 120 undef = .bool true := (rg_dep (hd 20 (by decide)) (by kernel_rfl) : ofFL (fl14 R what nn E A3 c3 D3 d3) 20 (a'.tmps.getD 120 undef) w')
              have e25 : a'.tmps.getD 125 undef = .bool true := (rg_dep (hd 25 (by decide)) (by kernel_rfl) : ofFL (fl14 R what nn E A3 c3 D3 d3) 25 (a'.tmps.getD 125 undef) w')
              exact rg_val (v := .bool false) rfl (rg_w1 (g := 20) (t := 120) (b := true) rfl (by kernel_rfl) e20) (by simp [execOp, Act.eval, go_sem, e25]) (Mo.refl _) rfl
            · -- 27
              have e18 : a'.tmps.getD 118 undef = .bool false := (rg_dep (hd 18 (by decide)) (by kernel_rfl) : ofFL (fl14 R what nn E A3 c3 D3 d3) 18 (a'.tmps.getD 118 undef) w')
              have e20 : a'.tmps.getD 120 undef = .bool true := (rg_dep (hd 20 (by decide)) (by kernel_rfl) : ofFL (fl14 R what nn E A3 c3 D3 d3) 20 (a'.tmps.getD 120 undef) w')
              have e26 : a'.tmps.getD 126 undef = .bool false := (rg_dep (hd 26 (by decide)) (by kernel_rfl) : ofFL (fl14 R what nn E A3 c3 D3 d3) 26 (a'.tmps.getD 126 undef) w')
              exact rg_val (v := .bool false) rfl (rg_w1 (g := 18) (t := 118) (b := false) rfl (by kernel_rfl) e18) (by simp [execOp, Act.eval, go_sem, e20, e26]) (Mo.refl _) rfl
            · -- 28
              have e18 : a'.tmps.getD 118 undef = .bool false := (rg_dep (hd 18 (by decide)) (by kernel_rfl) : ofFL (fl14 R what nn E A3 c3 D3 d3) 18 (a'.tmps.getD 118 undef) w')
              have e27 : a'.tmps.getD 127 undef = .bool false := (rg_dep (hd 27 (by decide)) (by kernel_rfl) : ofFL (fl14 R what nn E A3 c3 D3 d3) 27 (a'.tmps.getD 127 undef) w')
              exact rg_val (v := .bool false) rfl (rg_w0 rfl) (by simp [execOp, Act.eval, go_sem, e18, e27]) (Mo.refl _) rfl
          · intro a' w' hI
            have ec : a'.tmps.getD 128 undef = .bool false := (rg_dep (hI.val 28 (of_decide_eq_true (by kernel_rfl)) (by kernel_rfl)) (by kernel_rfl) : ofFL (fl14 R what nn E A3 c3 D3 d3) 28 (a'.tmps.getD 128 undef) w')
            have hsz : a'.tmps.size = 176 := hI.asz
            have hdf : a'.defers = [] := hI.df
            have hbs := hI.base
            refine hK a' w' (Met.intro (hJ a' w' ⟨a'.tmps.getD 76 undef, a'.tmps.getD 77 undef, a'.tmps.getD 78 undef, a'.tmps.getD 79 undef, a'.tmps.getD 80 undef, a'.tmps.getD 81 undef, a'.tmps.getD 82 undef, a'.tmps.getD 83 undef, a'.tmps.getD 84 undef, a'.tmps.getD 85 undef, a'.tmps.getD 86 undef, a'.tmps.getD 87 undef, a'.tmps.getD 88 undef, a'.tmps.getD 89 undef, a'.tmps.getD 90 undef, a'.tmps.getD 91 undef, a'.tmps.getD 92 undef, a'.tmps.getD 93 undef, a'.tmps.getD 94 undef, a'.tmps.getD 95 undef, a'.tmps.getD 96 undef, a'.tmps.getD 97 undef, a'.tmps.getD 98 undef, a'.tmps.getD 99 undef, a'.tmps.getD 100 undef, a'.tmps.getD 101 undef, a'.tmps.getD 102 undef, a'.tmps.getD 103 undef, a'.tmps.getD 104 undef, a'.tmps.getD 105 undef, a'.tmps.getD 106 undef, a'.tmps.getD 107 undef, a'.tmps.getD 108 undef, a'.tmps.getD 109 undef, a'.tmps.getD 110 undef, a'.tmps.getD 111 undef, a'.tmps.getD 112 undef, a'.tmps.getD 113 undef, a'.tmps.getD 114 undef, a'.tmps.getD 115 undef, a'.tmps.getD 116 undef, a'.tmps.getD 117 undef, a'.tmps.getD 118 undef, a'.tmps.getD 119 undef, a'.tmps.getD 120 undef, a'.tmps.getD 121 undef, a'.tmps.getD 122 undef, a'.tmps.getD 123 undef, a'.tmps.getD 124 undef, a'.tmps.getD 125 undef, a'.tmps.getD 126 undef, a'.tmps.getD 127 undef, a'.tmps.getD 128 undef, a'.tmps.getD 129 undef, a'.tmps.getD 130 undef, a'.tmps.getD 131 undef, a'.tmps.getD 132 undef, a'.tmps.getD 133 undef, a'.tmps.getD 134 undef, a'.tmps.getD 135 undef, a'.tmps.getD 136 undef, a'.tmps.getD 137 undef, a'.tmps.getD 138 undef, a'.tmps.getD 139 undef, a'.tmps.getD 140 undef, a'.tmps.getD 141 undef, a'.tmps.getD 142 undef, a'.tmps.getD 143 undef, a'.tmps.getD 144 undef, a'.tmps.getD 145 undef, a'.tmps.getD 146 undef, a'.tmps.getD 147 undef, a'.tmps.getD 148 undef, a'.tmps.getD 149 undef, a'.tmps.getD 150 undef, a'.tmps.getD 151 undef, a'.tmps.getD 152 undef, a'.tmps.getD 153 undef, a'.tmps.getD 154 undef, a'.tmps.getD 155 undef, a'.tmps.getD 156 undef, a'.tmps.getD 157 undef, a'.tmps.getD 158 undef, a'.tmps.getD 159 undef, a'.tmps.getD 160 undef, a'.tmps.getD 161 undef, a'.tmps.getD 162 undef, a'.tmps.getD 163 undef, a'.tmps.getD 164 undef, a'.tmps.getD 165 undef, a'.tmps.getD 166 undef, a'.tmps.getD 167 undef, a'.tmps.getD 168 undef, a'.tmps.getD 169 undef, a'.tmps.getD 170 undef, a'.tmps.getD 171 undef, a'.tmps.getD 172 undef, a'.tmps.getD 173 undef, a'.tmps.getD 174 undef, ⟨ec, hI.mo⟩, ?_⟩))
            refine act_eqG hdf (arr_eqG hsz ?_)
            intro i hi
            have hi' : i < 176 := hi
            clear hI hi hsz hdf ec
            rcases (show i = 0 ∨ i = 1 ∨ i = 2 ∨ i = 3 ∨ i = 4 ∨ i = 5 ∨ i = 6 ∨ i = 7 ∨ i = 8 ∨ i = 9 ∨ i = 10 ∨ i = 11 ∨ i = 12 ∨ i = 13 ∨ i = 14 ∨ i = 15 ∨ i = 16 ∨ i = 17 ∨ i = 18 ∨ i = 19 ∨ i = 20 ∨ i = 21 ∨ i = 22 ∨ i = 23 ∨ i = 24 ∨ i = 25 ∨ i = 26 ∨ i = 27 ∨ i = 28 ∨ i = 29 ∨ i = 30 ∨ i = 31 ∨ i = 32 ∨ i = 33 ∨ i = 34 ∨ i = 35 ∨ i = 36 ∨ i = 37 ∨ i = 38 ∨ i = 39 ∨ i = 40 ∨ i = 41 ∨ i = 42 ∨ i = 43 ∨ i = 44 ∨ i = 45 ∨ i = 46 ∨ i = 47 ∨ i = 48 ∨ i = 49 ∨ i = 50 ∨ i = 51 ∨ i = 52 ∨ i = 53 ∨ i = 54 ∨ i = 55 ∨ i = 56 ∨ i = 57 ∨ i = 58 ∨ i = 59 ∨ i = 60 ∨ i = 61 ∨ i = 62 ∨ i = 63 ∨ i = 64 ∨ i = 65 ∨ i = 66 ∨ i = 67 ∨ i = 68 ∨ i = 69 ∨ i = 70 ∨ i = 71 ∨ i = 72 ∨ i = 73 ∨ i = 74 ∨ i = 75 ∨ i = 76 ∨ i = 77 ∨ i = 78 ∨ i = 79 ∨ i = 80 ∨ i = 81 ∨ i = 82 ∨ i = 83 ∨ i = 84 ∨ i = 85 ∨ i = 86 ∨ i = 87 ∨ i = 88 ∨ i = 89 ∨ i = 90 ∨ i = 91 ∨ i = 92 ∨ i = 93 ∨ i = 94 ∨ i = 95 ∨ i = 96 ∨ i = 97 ∨ i = 98 ∨ i = 99 ∨ i = 100 ∨ i = 101 ∨ i = 102 ∨ i = 103 ∨ i = 104 ∨ i = 105 ∨ i = 106 ∨ i = 107 ∨ i = 108 ∨ i = 109 ∨ i = 110 ∨ i = 111 ∨ i = 112 ∨ i = 113 ∨ i = 114 ∨ i = 115 ∨ i = 116 ∨ i = 117 ∨ i = 118 ∨ i = 119 ∨ i = 120 ∨ i = 121 ∨ i = 122 ∨ i = 123 ∨ i = 124 ∨ i = 125 ∨ i = 126 ∨ i = 127 ∨ i = 128 ∨ i = 129 ∨ i = 130 ∨ i = 131 ∨ i = 132 ∨ i = 133 ∨ i = 134 ∨ i = 135 ∨ i = 136 ∨ i = 137 ∨ i = 138 ∨ i = 139 ∨ i = 140 ∨ i = 141 ∨ i = 142 ∨ i = 143 ∨ i = 144 ∨ i = 145 ∨ i = 146 ∨ i = 147 ∨ i = 148 ∨ i = 149 ∨ i = 150 ∨ i = 151 ∨ i = 152 ∨ i = 153 ∨ i = 154 ∨ i = 155 ∨ i = 156 ∨ i = 157 ∨ i = 158 ∨ i = 159 ∨ i = 160 ∨ i = 161 ∨ i = 162 ∨ i = 163 ∨ i = 164 ∨ i = 165 ∨ i = 166 ∨ i = 167 ∨ i = 168 ∨ i = 169 ∨ i = 170 ∨ i = 171 ∨ i = 172 ∨ i = 173 ∨ i = 174 ∨ i = 175 by omega) with rfl | rfl | rfl | rfl | rfl | rfl | rfl | rfl | rfl | rfl | rfl | rfl | rfl | rfl | rfl | rfl | rfl | rfl | rfl | rfl | rfl | rfl | rfl | rfl | rfl | rfl | rfl | rfl | rfl | rfl | rfl | rfl | rfl | rfl | rfl | rfl | rfl | rfl | rfl | rfl | rfl | rfl | rfl | rfl | rfl | rfl | rfl | rfl | rfl | rfl | rfl | rfl | rfl | rfl | rfl | rfl | rfl | rfl | rfl | rfl | rfl | rfl | rfl | rfl | rfl | rfl | rfl | rfl | rfl | rfl | rfl | rfl | rfl | rfl | rfl | rfl | rfl | rfl | rfl | rfl | rfl | rfl | rfl | rfl | rfl | rfl | rfl | rfl | rfl | rfl | rfl | rfl | rfl | rfl | rfl | rfl | rfl | rfl | rfl | rfl | rfl | rfl | rfl | rfl | rfl | rfl | rfl | rfl | rfl | rfl | rfl | rfl | rfl | rfl | rfl | rfl | rfl | rfl | rfl | rfl | rfl | rfl | rfl | rfl | rfl | rfl | rfl | rfl | rfl | rfl | rfl | rfl | rfl | rfl | rfl | rfl | rfl | rfl | rfl | rfl | rfl | rfl | rfl | rfl | rfl | rfl | rfl | rfl | rfl | rfl | rfl | rfl | rfl | rfl | rfl | rfl | rfl | rfl | rfl | rfl | rfl | rfl | rfl | rfl | rfl | rfl | rfl | rfl | rfl | rfl | rfl | rfl | rfl | rfl | rfl | rfl
            · exact (hbs 0 (rg_free (by kernel_rfl))).trans rfl
            · exact (hbs 1 (rg_free (by kernel_rfl))).trans rfl
            · exact (hbs 2 (rg_free (by kernel_rfl))).trans rfl
            · exact (hbs 3 (rg_free (by kernel_rfl))).trans rfl
            · exact (hbs 4 (rg_free (by kernel_rfl))).trans rfl
            · exact (hbs 5 (rg_free (by kernel_rfl))).trans rfl
            · exact (hbs 6 (rg_free (by kernel_rfl))).trans rfl
            · exact (hbs 7 (rg_free (by kernel_rfl))).trans rfl
            · exact (hbs 8 (rg_free (by kernel_rfl))).trans rfl
            · exact (hbs 9 (rg_free (by kernel_rfl))).trans rfl
            · exact (hbs 10 (rg_free (by kernel_rfl))).trans rfl
            · exact (hbs 11 (rg_free (by kernel_rfl))).trans rfl
            · exact (hbs 12 (rg_free (by kernel_rfl))).trans rfl
            · exact (hbs 13 (rg_free (by kernel_rfl))).trans rfl
            · exact (hbs 14 (rg_free (by kernel_rfl))).trans rfl
            · exact (hbs 15 (rg_free (by kernel_rfl))).trans rfl
            · exact (hbs 16 (rg_free (by kernel_rfl))).trans rfl
            · exact (hbs 17 (rg_free (by kernel_rfl))).trans rfl
            · exact (hbs 18 (rg_free (by kernel_rfl))).trans rfl
            · exact (hbs 19 (rg_free (by kernel_rfl))).trans rfl
            · exact (hbs 20 (rg_free (by kernel_rfl))).trans rfl
            · exact (hbs 21 (rg_free (by kernel_rfl))).trans rfl
            · exact (hbs 22 (rg_free (by kernel_rfl))).trans rfl
            · exact (hbs 23 (rg_free (by kernel_rfl))).trans rfl
            · exact (hbs 24 (rg_free (by kernel_rfl))).trans rfl
            · exact (hbs 25 (rg_free (by kernel_rfl))).trans rfl
            · exact (hbs 26 (rg_free (by kernel_rfl))).trans rfl
            · exact (hbs 27 (rg_free (by kernel_rfl))).trans rfl
            · exact (hbs 28 (rg_free (by kernel_rfl))).trans rfl
            · exact (hbs 29 (rg_free (by kernel_rfl))).trans rfl
            · exact (hbs 30 (rg_free (by kernel_rfl))).trans rfl
            · exact (hbs 31 (rg_free (by kernel_rfl))).trans rfl
            · exact (hbs 32 (rg_free (by kernel_rfl))).trans rfl
            · exact (hbs 33 (rg_free (by kernel_rfl))).trans rfl
            · exact (hbs 34 (rg_free (by kernel_rfl))).trans rfl
            · exact (hbs 35 (rg_free (by kernel_rfl))).trans rfl
            · exact (hbs 36 (rg_free (by kernel_rfl))).trans rfl
            · exact (hbs 37 (rg_free (by kernel_rfl))).trans rfl
            · exact (hbs 38 (rg_free (by kernel_rfl))).trans rfl
            · exact (hbs 39 (rg_free (by kernel_rfl))).trans rfl
            · exact (hbs 40 (rg_free (by kernel_rfl))).trans rfl
            · exact (hbs 41 (rg_free (by kernel_rfl))).trans rfl
            · exact (hbs 42 (rg_free (by kernel_rfl))).trans rfl
            · exact (hbs 43 (rg_free (by kernel_rfl))).trans rfl
            · exact (hbs 44 (rg_free (by kernel_rfl))).trans rfl
            · exact (hbs 45 (rg_free (by kernel_rfl))).trans rfl
            · exact (hbs 46 (rg_free (by kernel_rfl))).trans rfl
            · exact (hbs 47 (rg_free (by kernel_rfl))).trans rfl
            · exact (hbs 48 (rg_free (by kernel_rfl))).trans rfl
            · exact (hbs 49 (rg_free (by kernel_rfl))).trans rfl
            · exact (hbs 50 (rg_free (by kernel_rfl))).trans rfl
            · exact (hbs 51 (rg_free (by kernel_rfl))).trans rfl
            · exact (hbs 52 (rg_free (by kernel_rfl))).trans rfl
            · exact (hbs 53 (rg_free (by kernel_rfl))).trans rfl
            · exact (hbs 54 (rg_free (by kernel_rfl))).trans rfl
            · exact (hbs 55 (rg_free (by kernel_rfl))).trans rfl
            · exact (hbs 56 (rg_free (by kernel_rfl))).trans rfl
            · exact (hbs 57 (rg_free (by kernel_rfl))).trans rfl
            · exact (hbs 58 (rg_free (by kernel_rfl))).trans rfl
            · exact (hbs 59 (rg_free (by kernel_rfl))).trans rfl
            · exact (hbs 60 (rg_free (by kernel_rfl))).trans rfl
            · exact (hbs 61 (rg_free (by kernel_rfl))).trans rfl
            · exact (hbs 62 (rg_free (by kernel_rfl))).trans rfl
            · exact (hbs 63 (rg_free (by kernel_rfl))).trans rfl
            · exact (hbs 64 (rg_free (by kernel_rfl))).trans rfl
            · exact (hbs 65 (rg_free (by kernel_rfl))).trans rfl
            · exact (hbs 66 (rg_free (by kernel_rfl))).trans rfl
            · exact (hbs 67 (rg_free (by kernel_rfl))).trans rfl
            · exact (hbs 68 (rg_free (by kernel_rfl))).trans rfl
            · exact (hbs 69 (rg_free (by kernel_rfl))).trans rfl
            · exact (hbs 70 (rg_free (by kernel_rfl))).trans rfl
            · exact (hbs 71 (rg_free (by kernel_rfl))).trans rfl
            · exact (hbs 72 (rg_free (by kernel_rfl))).trans rfl
            · exact (hbs 73 (rg_free (by kernel_rfl))).trans rfl
            · exact (hbs 74 (rg_free (by kernel_rfl))).trans rfl
            · exact (hbs 75 (rg_free (by kernel_rfl))).trans rfl
            · rfl
            · rfl
            · rfl
            · rfl
            · rfl
            · rfl
            · rfl
            · rfl
            · rfl
            · rfl
            · rfl
            · rfl
            · rfl
            · rfl
            · rfl
            · rfl
            · rfl
            · rfl
            · rfl
            · rfl
            · rfl
            · rfl
            · rfl
            · rfl
            · rfl
            · rfl
            · rfl
            · rfl
            · rfl
            · rfl
            · rfl
            · rfl
            · rfl
            · rfl
            · rfl
            · rfl
            · rfl
            · rfl
            · rfl
            · rfl
            · rfl
            · rfl
            · rfl
            · rfl
            · rfl
            · rfl
            · rfl
            · rfl
            · rfl
            · rfl
            · rfl
            · rfl
            · rfl
            · rfl
            · rfl
            · rfl
            · rfl
            · rfl
            · rfl
            · rfl
            · rfl
            · rfl
            · rfl
            · rfl
            · rfl
            · rfl
            · rfl
            · rfl
            · rfl
            · rfl
            · rfl
            · rfl
            · rfl
            · rfl
            · rfl
            · rfl
            · rfl
            · rfl
            · rfl
            · rfl
            · rfl
            · rfl
            · rfl
            · rfl
            · rfl
            · rfl
            · rfl
            · rfl
            · rfl
            · rfl
            · rfl
            · rfl
            · rfl
            · rfl
            · rfl
            · rfl
            · rfl
            · rfl
            · rfl
            · exact (hbs 175 (rg_free (by kernel_rfl))).trans rfl
      obtain ⟨rfl, M56⟩ := hcut
      rename World => w6
      have I6 := Lib.hid (HI5.out.mo M56)
      have R6 := Lib.hid (HR5.out.mo M56)
      have N6 := N5.trans M56
      have hU6 : U.heap.size ≤ w6.heap.size := Nat.le_trans hU5 M56.size
      have TD := Lib.hid (fun num w (m : Mo w6 w) => TD.out num w (M56.trans m))
      have LS := Lib.hid (fun w (m : Mo w6 w) => LS.out w (M56.trans m))
      have KZ : keysB sv b0F = [] := by unfold keysB b0F; simp
      clear M56 HI5 HR5 N5 hU5 b12 J15 J25 HE0 HE1 HPM HPQ
      by_cases cL : L' = []
      · subst cL
        have im : mkR wd sv [] = mk0 wd sv := by unfold mkR; rw [if_pos rfl]
        have EN := Lib.hid (fun w (I : MkIs w M B (mkR wd sv [])) => eend_no M B (mkR wd sv []) w I (by rw [im]; rfl))
        have LV : Hid (∀ w, MkIs w M B (mkR wd sv []) → Calls Try.prog 17 #[.pointer (some ⟨M, 0, none⟩)] w fun e w' => e = .returned (.int .i64 0) ∧ Mo w w') := Lib.hid (fun w I => by
          have := elive_any M B _ w I
          rw [im] at this
          have e : (keysB (mk0 wd sv).sv (mk0 wd sv).f) = [] := KZ
          rw [e] at this
          exact this)
        have LN := Lib.hid (fun w (m : Mo w6 w) => rlast_no R U.heap.size v' wd sv w (R6.out.mo m))
        clear LS TD KZ im
        --@@ end0
        go_wp2_with fail
        refine (EN.out _ (I6.out.mo Mor.out)).mono ?_
        rintro e w7 ⟨rfl, M7⟩
        have M67 : Mo w6 w7 := (Mor.out : Mo w6 _).trans M7
        clear M7
        go_upto_region 17 with (fail)
        refine wp_name ?_
        intro w8 hw8
        have b18 : Blk w8 w7.heap.size 38 epz := by rw [hw8]; infer_instance
        have M68 : Mo w6 w8 := by rw [hw8]; exact M67.trans Mor.out
        generalize w7.heap.size = g18 at *
        clear hw8 M67
        have SM := Lib.hid (fun w => same35_any ep0 (.agg epz) (.agg epz) w (EpF.zero w) (EpF.zero w) (Nat.zero_le _) (Nat.zero_le _))
        --@@ last0
        go_wp2_with fail
        refine (LN.out _ (M68.trans Mor.out)).mono ?_
        rintro e w9 ⟨rfl, M9⟩
        have M69 : Mo w6 w9 := M68.trans ((Mor.out : Mo w8 _).trans M9)
        have b18 := ((Mor.out : Mo w8 _).trans M9).blk b18
        clear M9 M68
        --@@ same0
        go_wp2_with fail
        refine (SM.out _).mono ?_
        rintro e w10 ⟨rfl, M10⟩
        have M610 : Mo w6 w10 := M69.trans ((Mor.out : Mo w9 _).trans M10)
        clear M10 M69 b18
        --@@ live0
        go_wp2_with fail
        refine (LV.out _ (I6.out.mo (M610.trans Mor.out))).mono ?_
        rintro e w11 ⟨rfl, M11⟩
        have M611 : Mo w6 w11 := M610.trans ((Mor.out : Mo w10 _).trans M11)
        clear M11 M610
        --@@ r20
        go_upto_region 20 with (fail)
        first | (refine wp_region_mo (by kernel_rfl) (by kernel_rfl) ?_) | (refine wp_region_mo' (by kernel_rfl) (by kernel_rfl) ?_)
        repeat (go_big_quiet_step (fail))
        refine wpQuiet_nil ?_
        intro _ hw'
        obtain ⟨⟨J9, d9⟩, hw''⟩ := hw'
        subst hw''
        go_wp2_with fail
        go_roundw
        case rel => exact ⟨j + 1, [], v', by omega, by go_num, by simp, rises_nil wd, I6.out.mo (M611.trans Mor.out), R6.out.mo (M611.trans Mor.out), Nat.le_trans hU6 (M611.trans Mor.out).size, N6.trans (M611.trans Mor.out)⟩
        case measure => simp [intOf]; omega
      · have hem : L'.isEmpty = false := by cases L' with | nil => exact absurd rfl cL | cons _ _ => rfl
        have isome : (mkR wd sv L').some = true := by unfold mkR; rw [if_neg cL]
        have inum : (mkR wd sv L').num = lastN wd L' := by unfold mkR; rw [if_neg cL]
        have iff' : (mkR wd sv L').f = bestL (flS wd (lastN wd L') L') := by unfold mkR; rw [if_neg cL]
        have EY := Lib.hid (fun w (I : MkIs w M B (mkR wd sv L')) => eend_yes M B (mkR wd sv L') w I isome)
        have LV := Lib.hid (fun w (I : MkIs w M B (mkR wd sv L')) => elive_any M B (mkR wd sv L') w I)
        rw [inum, mkR_sv, iff'] at EY
        rw [mkR_sv, iff'] at LV
        have TD := Lib.hid (TD.out (lastN wd L'))
        rw [hem] at LS
        generalize lastN wd L' = ln at *
        clear hem isome inum iff' KZ cL
        --@@ end1
        go_wp2_with fail
        refine (EY.out _ (I6.out.mo Mor.out)).mono ?_
        rintro e w7 ⟨E2, v2, hE2, rfl, ⟨A4, c4, D4, d4, rfl, J1, J2⟩, M7⟩
        have M67 : Mo w6 w7 := (Mor.out : Mo w6 _).trans M7
        have HE2 := Lib.hid hE2
        have tl := told_lenR hE2 s1
        rw [← (told_len hE2).2] at LV
        clear M7 hE2
        go_upto_region 17 with (fail)
        refine wp_name ?_
        intro w8 hw8
        have b18 : Blk w8 w7.heap.size 38 (epC E2 A4 c4 D4 d4) := by rw [hw8]; infer_instance
        have M78 : Mo w7 w8 := by rw [hw8]; exact Mor.out
        have M68 : Mo w6 w8 := M67.trans M78
        have J1 := J1.mo M78
        have J2 := J2.mo M78
        generalize w7.heap.size = g18 at *
        clear hw8 M67 M78
        --@@ last1
        go_wp2_with fail
        refine (LS.out _ (M68.trans Mor.out)).mono ?_
        rintro e w9 ⟨rfl, M9⟩
        have M89 : Mo w8 w9 := (Mor.out : Mo w8 _).trans M9
        have M69 : Mo w6 w9 := M68.trans M89
        have b18 := M89.blk b18
        have J1 := J1.mo M89
        have J2 := J2.mo M89
        obtain ⟨n2, hn2⟩ : ∃ n, E2.srv.length = n := ⟨_, rfl⟩
        have bn : (((E2.srv.length : Nat) : Int) != (E2.srv.length : Nat)) = false := by simp
        clear M9 M68 M89 hn2
        --@@ r20b
        go_upto_region 20 with (fail)
        refine wp_name ?_
        intro wq hwq
        have Mq : Mo w9 wq := by rw [hwq]; exact Mor.out
        have M6q := M69.trans Mq
        have b18 := Mq.blk b18
        have J1 := J1.mo Mq
        have J2 := J2.mo Mq
        clear hwq Mq M69
        have SMT := Lib.hid (fun v w (m : Mo wq w) (h : EpF w E2 v) => same35_any E2 (.agg (epC E2 A4 c4 D4 d4)) v w ⟨A4, c4, D4, d4, rfl, J1.mo m, J2.mo m⟩ h tl.1 tl.2)
        have LVQ := Lib.hid (fun w (m : Mo wq w) => LV.out w (I6.out.mo (M6q.trans m)))
        clear LV EY LS
        go_region_held3 (fun w' => MoC wq w') (exact ⟨Mor.out⟩)
          (first
            | ((with_reducible refine (TD.out _ (M6q.trans Mor.out)).mono ?_)
               rintro e wt ⟨E', v9, hT', rfl, hF', Mt⟩
               have hF2 : EpF wt E2 v9 := by rw [told_uniq HE2.out hT']; exact hF'
               have iMt : MoC _ wt := ⟨Mt⟩
               have iRt : Mor wq wt := ⟨(Mor.out : Mo wq _).trans Mt⟩)
            | ((with_reducible refine (SMT.out v9 _ Mor.out (hF2.mo Mor.out)).mono ?_)
               rintro e ws ⟨rfl, Ms⟩
               have iMs : MoC _ ws := ⟨Ms⟩
               have iRs : Mor wq ws := ⟨(Mor.out : Mo wq _).trans Ms⟩)
            | ((with_reducible refine (LVQ.out _ Mor.out).mono ?_)
               rintro e wl ⟨rfl, Ml⟩
               have iMl : MoC _ wl := ⟨Ml⟩
               have iRl : Mor wq wl := ⟨(Mor.out : Mo wq _).trans Ml⟩))
        all_goals (
          go_wp2_with fail
          go_roundw
          case rel => exact ⟨j + 1, L', v', by omega, by go_num, by omega, HRS.out, I6.out.mo (M6q.trans Mor.out), R6.out.mo (M6q.trans Mor.out), Nat.le_trans hU6 (M6q.trans Mor.out).size, N6.trans (M6q.trans Mor.out)⟩
          case measure => simp [intOf]; omega)
    · obtain rfl : N = j := by omega
      clear hI hR hU
      go_wp2_with fail
      refine (WK.out _).mono ?_
      rintro e w9 ⟨rfl, M9⟩
      go_wp2_with fail
      go_ret
      exact ⟨rfl, hM.trans ((Mor.out : Mo wr _).trans (M9.trans Mor.out))⟩
end Go.Proofs.Ytdgmcgfkammioaa
