/- ext.Walk: the fields of a tail, one by one. -/
import Derived.Test.YtofbhkodnijkjaaExtA
import Derived.Test.YtofbhkodnijkjaaByteB
import Derived.Test.YtofbhkodnijkjaaRangeP
namespace Go.Proofs.Ytofbhkodnijkjaa
open Go.RowKit Go.Shelf

structure Fe where
  at_ : Nat
  kind : Int
  val : List Int
def kindM (bs : List Int) : Int := bs.getD 0 0 * 256 + bs.getD 1 0
def sz (bs : List Int) : Nat := (sizeM bs).toNat
set_option maxRecDepth 20000 in
theorem nextM_field {bs : List Int} (h : (nextM bs).1 = 2) : 28 ≤ bs.length ∧ (nextM bs).2 = sz bs ∧ 16 ≤ sz bs ∧ sz bs % 4 = 0 ∧ sz bs ≤ bs.length := by
  unfold nextM at h ⊢
  unfold sz
  by_cases c0 : bs.length = 0
  · rw [if_pos c0] at h; simp at h
  rw [if_neg c0] at h ⊢
  by_cases c1 : bs.length = 4 ∨ bs.length = 20 ∨ bs.length = 24
  · rw [if_pos c1] at h; simp at h
  rw [if_neg c1] at h ⊢
  by_cases c2 : bs.length < 28
  · rw [if_pos c2] at h; simp at h
  rw [if_neg c2] at h ⊢
  by_cases c3 : sizeM bs < 16 ∨ sizeM bs % 4 ≠ 0 ∨ (bs.length : Int) < sizeM bs
  · rw [if_pos c3] at h; simp at h
  rw [if_neg c3]
  refine ⟨by omega, ?_, by omega, by omega, by omega⟩
  show sizeM bs = _
  omega
/-- the fields from a place on -/
def parse (bs : List Int) (a : Nat) : List Fe :=
  if _h : (nextM (bs.drop a)).1 = 2 then ⟨a, kindM (bs.drop a), ((bs.drop a).drop 4).take (sz (bs.drop a) - 4)⟩ :: parse bs (a + sz (bs.drop a)) else []
termination_by bs.length - a
decreasing_by
  have := nextM_field _h
  rw [List.length_drop] at this
  omega
/-- where they end -/
def endF (bs : List Int) (a : Nat) : Nat :=
  if _h : (nextM (bs.drop a)).1 = 2 then endF bs (a + sz (bs.drop a)) else a
termination_by bs.length - a
decreasing_by
  have := nextM_field _h
  rw [List.length_drop] at this
  omega
set_option maxRecDepth 20000 in
theorem parse_cons {bs : List Int} {a : Nat} (h : (nextM (bs.drop a)).1 = 2) : parse bs a = ⟨a, kindM (bs.drop a), ((bs.drop a).drop 4).take (sz (bs.drop a) - 4)⟩ :: parse bs (a + sz (bs.drop a)) := by
  rw [parse, dif_pos h]
set_option maxRecDepth 20000 in
theorem parse_nil {bs : List Int} {a : Nat} (h : ¬ (nextM (bs.drop a)).1 = 2) : parse bs a = [] := by
  rw [parse, dif_neg h]
set_option maxRecDepth 20000 in
theorem endF_cons {bs : List Int} {a : Nat} (h : (nextM (bs.drop a)).1 = 2) : endF bs a = endF bs (a + sz (bs.drop a)) := by
  rw [endF, dif_pos h]
set_option maxRecDepth 20000 in
theorem endF_nil {bs : List Int} {a : Nat} (h : ¬ (nextM (bs.drop a)).1 = 2) : endF bs a = a := by
  rw [endF, dif_neg h]
/-- what a round is handed: a place, and a field whose bytes lie at u -/
structure Itm where
  fe : Fe
  u : Value
structure ItmOk (x : Itm) : Prop where
  at_ : x.fe.at_ ≤ 140737488355328
  kl : 0 ≤ x.fe.kind
  ku : x.fe.kind ≤ 65535
  byte : ∀ c ∈ x.fe.val, 0 ≤ c ∧ c ≤ 255
  vl : 12 ≤ x.fe.val.length
  vu : x.fe.val.length ≤ 140737488355328
abbrev itmV (x : Itm) : Array Value := #[.int .i64 x.fe.at_, .agg #[.int .u16 x.fe.kind, x.u]]
structure PxW (V : World) (bs : List Int) (pre : List Itm) (x : Itm) (W : World) : Prop where
  own : W.ownsRow V.heap.size 5 1 x.u x.fe.val.length (byteL x.fe.val)
  ok : ItmOk x
  more : ∃ r, pre.map Itm.fe ++ x.fe :: r = parse bs 0
structure KpB (n₀ B : Nat) (W W' : World) : Prop where
  bel : Below n₀ W W'
  box : ∀ v, Boxed W B 31 v → Boxed W' B 31 v
set_option maxRecDepth 20000 in
theorem KpB.trans {n₀ B : Nat} {X Y Z : World} (h : KpB n₀ B X Y) (k : KpB n₀ B Y Z) : KpB n₀ B X Z := ⟨h.bel.trans k.bel, fun v hv => k.box v (h.box v hv)⟩
set_option maxRecDepth 20000 in
theorem KpB.put {n₀ B : Nat} {w : World} (hn : n₀ ≤ w.heap.size) (W : World) (l : Nat) (o o' : Obj) (hl : w.heap.size ≤ l) (h : W.heap[l]? = some o) (hc : o.isCells = false) (hw : o.isWalk = false) : KpB n₀ B W (W.putObj l o') :=
  ⟨belowK_b hn W l o o' hl h hc hw, fun v hv => hv.kept (grownBy_putObj' W l o') (fun e => by
    obtain rfl : B = l := by simpa using e
    rw [show W.heap[B]? = _ from hv] at h
    cases h
    cases hc)⟩
set_option maxRecDepth 20000 in
theorem Mo.grown {W W' : World} (h : Mo W W') : W.grownBy W' none := ⟨h.below.os, h.below.tape, h.below.output, h.below.size, fun k hk _ => h.below.block k hk⟩
set_option maxRecDepth 20000 in
theorem boxed_mo {W W' : World} {B : Nat} {t : TypeId} {v : Value} (h : Boxed W B t v) (k : Mo W W') : Boxed W' B t v := h.kept k.grown (by simp)
set_option maxRecDepth 20000 in
theorem Mo.of_below {V W W' : World} (h : Mo V W) (k : Below V.heap.size W W') : Mo V W' := Mo.of (h.below.trans k)
set_option maxRecDepth 20000 in
set_option maxHeartbeats 2000000 in
theorem walk1_in (n : Nat) (l Bn : Nat) (V : World) (A : Option Addr) (cap m : Nat) (bs : List Int) (hm : bs.length = m) (hb : ByteS V A cap bs) (J Jx : List Itm → World → Prop)
    (hY : ∀ pre x W1, J pre W1 → PxW V bs pre x W1 → pre.length < (parse bs 0).length → YieldAt Fence.wide (n - 1) Try.prog l (itmV x) W1 fun e W' =>
      (e = .returned (.bool true) ∧ J (pre ++ [x]) W' ∧ KpB V.heap.size Bn W1 W') ∨ (e = .returned (.bool false) ∧ Jx (pre ++ [x]) W'))
    (W : World) (hVW : Mo V W) (hBn : Boxed W Bn 31 (.slice A m cap)) (hJ : AbidesFrom W.heap.size J) (h0 : J [] W) :
    CallsIn Fence.wide n Try.prog 45 #[.func (.yield l) #[] #[], .pointer (some ⟨Bn, 0, none⟩)] W fun e W' => (∃ v, e = .returned v) ∧
      ((∃ xs, xs.map Itm.fe = parse bs 0 ∧ J xs W') ∨ (∃ pre, (∃ r, pre.map Itm.fe ++ r = parse bs 0) ∧ Jx pre W')) := by
  refine callsIn_wide.2 ?_
  have hlim := hb.lim
  have hle := hb.le
  rw [hm] at hlim hle
  have HN := Lib.hid hm
  have HB := Lib.hid hb
  have HY := Lib.hid hY
  have HJ := Lib.hid hJ
  clear hm hb hY hJ
  go_enter Try.func45, Try.ntmps45
  go_wp2_with fail
  go_loopw [3] (fun i wr => ∃ (a : Nat) (pre : List Itm), i = .int .i64 a ∧ a ≤ m ∧ pre.map Itm.fe ++ parse bs a = parse bs 0 ∧ J pre wr ∧ Mo V wr ∧ Boxed wr Bn 31 (.slice A m cap)) (fun i _ => m - (intOf i).toNat)
  case atStart => exact ⟨0, [], rfl, by omega, by simp, h0, hVW, hBn⟩
  case round =>
    obtain ⟨a, pre, rfl, ha, hp, hJs, hM, hX⟩ := hrel
    have HP := Lib.hid hp
    clear hp hBn h0 hVW
    have hB := HB.out.mo hM
    obtain ⟨A', hB', hs1, hs2⟩ := hB.drop a (by rw [HN.out]; exact ha)
    rw [HN.out] at hs1 hs2
    have hX1 := hX.cell
    have hl' : (bs.drop a).length = m - a := by rw [List.length_drop, HN.out]
    have NX := Lib.hid (fun w (k : Mo wr w) => next_any A' (cap - a) (bs.drop a) (m - a) w hl' (hB'.mo k))
    have i0 : (0 : Int) ≤ a := by omega
    have LB : LtW Bn wr := ⟨hX.lt⟩
    clear hB hB' hl'
    by_cases cf : (nextM (bs.drop a)).1 = 2
    · obtain ⟨f1, f2, f3, f4, f5⟩ := nextM_field cf
      rw [List.length_drop, HN.out] at f1 f5
      have PC := Lib.hid (parse_cons cf)
      obtain ⟨r, hr⟩ : ∃ r, nextM (bs.drop a) = r := ⟨_, rfl⟩
      rw [hr] at NX cf f2
      obtain ⟨r1, r2⟩ := r
      simp only at NX cf f2
      subst cf f2
      clear hr
      generalize sz (bs.drop a) = s at *
      go_wp2_with fail
      refine (NX.out _ Mor.out).mono ?_
      rintro e w1 ⟨rfl, M1⟩
      have hJ1 := HJ.out _ _ _ none hJs M1.grown (fun r h => by cases h)
      have hM1 := hM.trans M1
      have hX2 := boxed_mo hX M1
      have hX3 := hX2.cell
      have LB1 : LtW Bn w1 := ⟨hX2.lt⟩
      clear NX hs1 hs2 hX1 LB hX hM hJs M1
      have hB := HB.out.mo hM1
      obtain ⟨g, off, rfl, LG, hc⟩ := hB.get (by rw [HN.out]; omega)
      obtain ⟨c0, c1, c2⟩ := hc a (by rw [HN.out]; omega)
      obtain ⟨d0, d1, d2⟩ := hc (a + 1) (by rw [HN.out]; omega)
      have eK : kindM (bs.drop a) = bs[a]'(by rw [HN.out]; omega) * 256 + bs[a + 1]'(by rw [HN.out]; omega) := by
        unfold kindM
        simp [List.getD, List.getElem?_drop, show a < bs.length by rw [HN.out]; omega, show a + 1 < bs.length by rw [HN.out]; omega]
      have eV : ((bs.drop a).drop 4).take (s - 4) = (bs.drop (a + 4)).take (a + s - (a + 4)) := by
        rw [List.drop_drop, show a + s - (a + 4) = s - 4 by omega]
      rw [eK, eV] at PC
      have hB3 := hB.at_part (a + 4) (a + s) (by omega) (by rw [HN.out]; omega)
      clear eK eV hc hB
      have hl3 : ((bs.drop (a + 4)).take (a + s - (a + 4))).length = s - 4 := by rw [List.length_take, List.length_drop, HN.out]; omega
      rw [show a + s - (a + 4) = s - 4 by omega] at hl3 PC hB3
      have BV := Lib.hid hB3.byte
      have CL := Lib.hid (fun w (k : Mo w1 w) => cloneB_own _ (s - 4) (cap - (a + 4)) _ w hl3 (hB3.mo k))
      have HL := Lib.hid hl3
      clear hB3 hl3
      generalize bs[a]'_ = x0 at *
      generalize bs[a + 1]'_ = x1 at *
      generalize (bs.drop (a + 4)).take (s - 4) = vs at *
      have ho := or_shift16 x0 x1 c1 c2 d1 d2
      have t1 : IntKind.i64.wrap ((a : Int) + 1) = a + 1 := by rw [IntKind.wrap_i64]; omega
      have t2 : IntKind.i64.wrap ((a : Int) + 4) = a + 4 := by rw [IntKind.wrap_i64]; omega
      have t3 : IntKind.i64.wrap ((a : Int) + s) = a + s := by rw [IntKind.wrap_i64]; omega
      have t9 : IntKind.u16.wrap x0 = x0 := by rw [IntKind.wrap_u16]; omega
      have t10 : IntKind.u16.wrap x1 = x1 := by rw [IntKind.wrap_u16]; omega
      have t4 : IntKind.u16.wrap (x0 * 256) = x0 * 256 := by rw [IntKind.wrap_u16]; omega
      have t5 : ((a : Int) + 1).toNat = a + 1 := by omega
      have t6 : (0 : Int) ≤ a + 1 := by omega
      have t7 : (a : Int) < m := by omega
      have t8 : (a : Int) + 1 < m := by omega
      have ux1 : (0 : Int) ≤ a + 4 := by omega
      have ux2 : (a : Int) + 4 ≤ a + s := by omega
      have ux3 : (4 : Int) ≤ s := by omega
      have ux4 : (a : Int) + s ≤ cap := by omega
      have ux10 : (a : Int) + s ≤ m := by omega
      have ux5 : (0 : Int) ≤ a + s := by omega
      have ux6 : ((a : Int) + 4).toNat = a + 4 := by omega
      have ux7 : ((a : Int) + s).toNat = a + s := by omega
      have ux8 : (cap = a + 4) = False := by simp; omega
      have ux9 : a + s - (a + 4) = s - 4 := by omega
      clear i0 f1 f4 f5
      have i0 : (0 : Int) ≤ a := by omega
      have nb1 : Bn < w1.heap.size := LB1.out
      have nb2 : g < w1.heap.size := LG.out
      go_upto_region 3 with (fail)
      go_cut [6] (fun s6 wx => ∃ b g3 c3, s6 = .pointer (some ⟨b, 0, none⟩) ∧ Blk wx b 70 #[.int .u16 (x0 * 256 + x1), .slice (some ⟨g3, 0, none⟩) (s - 4) c3] ∧ wx.ownsRow w1.heap.size 5 1 (.slice (some ⟨g3, 0, none⟩) (s - 4) c3) (s - 4) (byteL vs) ∧ Mo w1 wx)
      case first =>
        go_region_held3 (fun w' => w'.cell? ⟨Bn, 0, none⟩ = some (.slice (some ⟨g, off, none⟩) m cap) ∧ w'.cell? ⟨g, off + a, none⟩ = some (.int .u8 x0) ∧ w'.cell? ⟨g, off + (a + 1), none⟩ = some (.int .u8 x1)) (first | (simp [go_sem, hX3, c0, d0]; done) | (simp [go_sem, m0, m1, m2]; done) | (refine ⟨?_, ?_, ?_⟩ <;> (rw [World.cell?_setCell_other _ _ _ _ (by intro e; injection e; omega), World.cell?_setCell_other _ _ _ _ (by intro e; injection e; omega)]; first | exact m0 | exact m1 | exact m2)))
          (((with_reducible refine (CL.out _ Mor.out).mono ?_); rintro e w2 ⟨v, rfl, hv, M2⟩
            obtain ⟨g3, c3, rfl, hg3, hl3⟩ := owns_form hv (by omega)
            have LG2 : LtW g w2 := M2.ltW inferInstance
            have LB2 : LtW Bn w2 := M2.ltW inferInstance
            have m0 : w2.cell? ⟨Bn, 0, none⟩ = some (.slice (some ⟨g, off, none⟩) m cap) := by rw [M2.cell]; simp [go_sem, hX3]
            have m1 : w2.cell? ⟨g, off + a, none⟩ = some (.int .u8 x0) := by rw [M2.cell]; simp [go_sem, c0]
            have m2 : w2.cell? ⟨g, off + (a + 1), none⟩ = some (.int .u8 x1) := by rw [M2.cell]; simp [go_sem, d0]
            try (have B2 := M2.blk (g := w1.heap.size) (t := 70) (cs := #[.int .u16 0, .slice none 0 0]) inferInstance
                 have z0 : w2.cell? ⟨w1.heap.size, 0, none⟩ = some (.int .u16 0) := by rw [blk_cell B2]; rfl
                 have z1 : w2.cell? ⟨w1.heap.size, 1, none⟩ = some (.slice none 0 0) := by rw [blk_cell B2]; rfl
                 have z2 := blk_frozen B2 0
                 have z3 := blk_frozen B2 1)))
        · go_wp2_with fail
          go_meet
          exact ⟨_, g3, c3, rfl, inferInstance, owns_mo (owns_base hv (Mor.out : Mo w1 _).size) Mor.out, ((Mor.out : Mo w1 _).trans M2).trans Mor.out⟩
        · go_wp2_with fail
          go_meet
          have hv' := owns_setCell (owns_setCell hv w1.heap.size 0 (.int .u16 (x0 * 256 + x1)) (by simp)) w1.heap.size 1 (.slice (some ⟨g3, 0, none⟩) (s - 4) c3) (by simp)
          exact ⟨_, g3, c3, rfl, blk_setCell (blk_setCell B2 0 _) 1 _, owns_base hv' (Mor.out : Mo w1 _).size, mo_setCell (mo_setCell ((Mor.out : Mo w1 _).trans M2) (Nat.le_refl _) _ _) (Nat.le_refl _) _ _⟩
      case rest =>
        obtain ⟨b, g3, c3, rfl, hb, hv, hM2⟩ := hcut
        have hJ2 := HJ.out _ _ _ none hJ1 hM2.grown (fun r h => by cases h)
        have b0 : wc.cell? ⟨b, 0, none⟩ = some (.int .u16 (x0 * 256 + x1)) := by rw [blk_cell hb]; rfl
        have b1 : wc.cell? ⟨b, 1, none⟩ = some (.slice (some ⟨g3, 0, none⟩) (s - 4) c3) := by rw [blk_cell hb]; rfl
        have Lb : LtW b wc := LtW.of_cell b0
        have hX4 := boxed_mo hX2 hM2
        have hM3 := hM1.trans hM2
        have hPx : PxW V bs pre ⟨⟨a, x0 * 256 + x1, vs⟩, .slice (some ⟨g3, 0, none⟩) (s - 4) c3⟩ wc := by
          refine ⟨?_, ⟨?_, ?_, ?_, ?_, ?_, ?_⟩, parse bs (a + s), ?_⟩
          · show wc.ownsRow _ _ 1 _ vs.length _
            rw [HL.out]
            exact owns_base hv hM1.size
          · show a ≤ 140737488355328
            omega
          · show 0 ≤ x0 * 256 + x1
            omega
          · show x0 * 256 + x1 ≤ 65535
            omega
          · exact BV.out
          · show 12 ≤ vs.length
            rw [HL.out]; omega
          · show vs.length ≤ 140737488355328
            rw [HL.out]; omega
          · have := HP.out
            rw [PC.out] at this
            exact this
        have hlen : pre.length < (parse bs 0).length := by
          have := congrArg List.length HP.out
          rw [PC.out, List.length_append, List.length_map, List.length_cons] at this
          omega
        obtain ⟨fn, tmps, assign, body, hy, hR⟩ := HY.out pre _ wc hJ2 hPx hlen
        dsimp only [itmV] at hy
        clear hb hv hM2 hX2 hM1 LG LB1 hJ1 hX3 c0 d0 CL hlen
        go_upto_region 4 with (fail)
        refine (wpIn_wide (n := n)).1 ?_
        gi_wp2
        have PP : Hid ((pre ++ [(⟨⟨a, x0 * 256 + x1, vs⟩, .slice (some ⟨g3, 0, none⟩) (s - 4) c3⟩ : Itm)]).map Itm.fe ++ parse bs (a + s) = parse bs 0) := Lib.hid (by
          have := HP.out
          rw [PC.out] at this
          rw [List.map_append, List.append_assoc]
          exact this)
        refine ⟨fun h => absurd h (by decide), hR.mono ?_⟩
        rintro e W3 (⟨rfl, hJ3, hK3⟩ | ⟨rfl, hJx3⟩)
        · gi_wp2
          go_wp2_with fail
          go_roundw
          case rel => exact ⟨a + s, _, by go_num, by omega, PP.out, hJ3, hM3.of_below hK3.bel, hK3.box _ hX4⟩
          case measure => simp [intOf]; omega
        · gi_wp2
          go_wp2_with fail
          refine bodyPost_ret (results_none rfl _ _ _) rfl ?_
          exact ⟨⟨_, rfl⟩, .inr ⟨_, ⟨_, PP.out⟩, hJx3⟩⟩
    · have PN := Lib.hid (parse_nil cf)
      obtain ⟨r, hr⟩ : ∃ r, nextM (bs.drop a) = r := ⟨_, rfl⟩
      rw [hr] at NX cf
      obtain ⟨r1, r2⟩ := r
      simp only at NX cf
      clear hr
      have d0 : (r1 != 2) = true := by simp [cf]
      clear cf
      go_wp2_with fail
      refine (NX.out _ Mor.out).mono ?_
      rintro e w1 ⟨rfl, M1⟩
      have hJ1 := HJ.out _ _ _ none hJs M1.grown (fun r h => by cases h)
      go_wp2_with fail
      refine bodyPost_ret (results_none rfl _ _ _) rfl ?_
      exact ⟨⟨_, rfl⟩, .inl ⟨pre, by have := HP.out; rw [PN.out, List.append_nil] at this; exact this, hJ1⟩⟩
end Go.Proofs.Ytofbhkodnijkjaa
