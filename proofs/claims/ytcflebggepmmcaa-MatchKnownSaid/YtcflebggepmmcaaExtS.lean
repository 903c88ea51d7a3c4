/- Written by gen/bundle30.py: ExtC, ExtD in one text. -/
import Derived.Test.YtcflebggepmmcaaBlkS
/- ext.Walk: the fields of a tail, one by one. -/
namespace Go.Proofs.Ytcflebggepmmcaa
open Go.RowKit Go.Shelf

structure Fe where
  at_ : Nat
  kind : Int
  val : List Int
def kindM (bs : List Int) : Int := bs.getD 0 0 * 256 + bs.getD 1 0
def sz (bs : List Int) : Nat := (sizeM bs).toNat
set_option maxRecDepth 20000 in
theorem nextM_field {bs : List Int} (h : (nextM bs).1 = 2) : 28 ≤ bs.length ∧ (nextM bs).2 = sz bs ∧ 16 ≤ sz bs ∧ sz bs % 4 = 0 ∧ sz bs ≤ bs.length := by
  unfold nextM at h ⊢
  unfold sz
  by_cases c0 : bs.length = 0
  · rw [if_pos c0] at h; simp at h
  rw [if_neg c0] at h ⊢
  by_cases c1 : bs.length = 4 ∨ bs.length = 20 ∨ bs.length = 24
  · rw [if_pos c1] at h; simp at h
  rw [if_neg c1] at h ⊢
  by_cases c2 : bs.length < 28
  · rw [if_pos c2] at h; simp at h
  rw [if_neg c2] at h ⊢
  by_cases c3 : sizeM bs < 16 ∨ sizeM bs % 4 ≠ 0 ∨ (bs.length : Int) < sizeM bs
  · rw [if_pos c3] at h; simp at h
  rw [if_neg c3]
  refine ⟨by omega, ?_, by omega, by omega, by omega⟩
  show sizeM bs = _
  omega
/-- the fields from a place on -/
def parse (bs : List Int) (a : Nat) : List Fe :=
  if _h : (nextM (bs.drop a)).1 = 2 then ⟨a, kindM (bs.drop a), ((bs.drop a).drop 4).take (sz (bs.drop a) - 4)⟩ :: parse bs (a + sz (bs.drop a)) else []
termination_by bs.length - a
decreasing_by
  have := nextM_field _h
  rw [List.length_drop] at this
  omega
/-- where they end -/
def endF (bs : List Int) (a : Nat) : Nat :=
  if _h : (nextM (bs.drop a)).1 = 2 then endF bs (a + sz (bs.drop a)) else a
termination_by bs.length - a
decreasing_by
  have := nextM_field _h
  rw [List.length_drop] at this
  omega
set_option maxRecDepth 20000 in
theorem parse_cons {bs : List Int} {a : Nat} (h : (nextM (bs.drop a)).1 = 2) : parse bs a = ⟨a, kindM (bs.drop a), ((bs.drop a).drop 4).take (sz (bs.drop a) - 4)⟩ :: parse bs (a + sz (bs.drop a)) := by
  rw [parse, dif_pos h]
set_option maxRecDepth 20000 in
theorem parse_nil {bs : List Int} {a : Nat} (h : ¬ (nextM (bs.drop a)).1 = 2) : parse bs a = [] := by
  rw [parse, dif_neg h]
set_option maxRecDepth 20000 in
theorem endF_cons {bs : List Int} {a : Nat} (h : (nextM (bs.drop a)).1 = 2) : endF bs a = endF bs (a + sz (bs.drop a)) := by
  rw [endF, dif_pos h]
set_option maxRecDepth 20000 in
theorem endF_nil {bs : List Int} {a : Nat} (h : ¬ (nextM (bs.drop a)).1 = 2) : endF bs a = a := by
  rw [endF, dif_neg h]
/-- what a round is handed: a place, and a field whose bytes lie at u -/
structure Itm where
  fe : Fe
  u : Value
structure ItmOk (x : Itm) : Prop where
  at_ : x.fe.at_ ≤ 140737488355328
  kl : 0 ≤ x.fe.kind
  ku : x.fe.kind ≤ 65535
  byte : ∀ c ∈ x.fe.val, 0 ≤ c ∧ c ≤ 255
  vl : 12 ≤ x.fe.val.length
  vu : x.fe.val.length ≤ 140737488355328
abbrev itmV (x : Itm) : Array Value := #[.int .i64 x.fe.at_, .agg #[.int .u16 x.fe.kind, x.u]]
structure PxW (V : World) (bs : List Int) (pre : List Itm) (x : Itm) (W : World) : Prop where
  own : W.ownsRow V.heap.size 5 1 x.u x.fe.val.length (byteL x.fe.val)
  ok : ItmOk x
  more : ∃ r, pre.map Itm.fe ++ x.fe :: r = parse bs 0
structure KpB (n₀ B : Nat) (W W' : World) : Prop where
  bel : Below n₀ W W'
  box : ∀ v, Boxed W B 39 v → Boxed W' B 39 v
set_option maxRecDepth 20000 in
theorem KpB.trans {n₀ B : Nat} {X Y Z : World} (h : KpB n₀ B X Y) (k : KpB n₀ B Y Z) : KpB n₀ B X Z := ⟨h.bel.trans k.bel, fun v hv => k.box v (h.box v hv)⟩
set_option maxRecDepth 20000 in
theorem KpB.put {n₀ B : Nat} {w : World} (hn : n₀ ≤ w.heap.size) (W : World) (l : Nat) (o o' : Obj) (hl : w.heap.size ≤ l) (h : W.heap[l]? = some o) (hc : o.isCells = false) (hw : o.isWalk = false) : KpB n₀ B W (W.putObj l o') :=
  ⟨belowK_b hn W l o o' hl h hc hw, fun v hv => hv.kept (grownBy_putObj' W l o') (fun e => by
    obtain rfl : B = l := by simpa using e
    rw [show W.heap[B]? = _ from hv] at h
    cases h
    cases hc)⟩
set_option maxRecDepth 20000 in
set_option maxHeartbeats 2000000 in
theorem walk1_in (n : Nat) (l Bn : Nat) (V : World) (A : Option Addr) (cap m : Nat) (bs : List Int) (hm : bs.length = m) (hb : ByteS V A cap bs) (J Jx : List Itm → World → Prop)
    (hY : ∀ pre x W1, J pre W1 → PxW V bs pre x W1 → pre.length < (parse bs 0).length → YieldAt Fence.wide (n - 1) Try.prog l (itmV x) W1 fun e W' =>
      (e = .returned (.bool true) ∧ J (pre ++ [x]) W' ∧ KpB V.heap.size Bn W1 W') ∨ (e = .returned (.bool false) ∧ Jx (pre ++ [x]) W'))
    (W : World) (hVW : Mo V W) (hBn : Boxed W Bn 39 (.slice A m cap)) (hJ : AbidesFrom W.heap.size J) (h0 : J [] W) :
    CallsIn Fence.wide n Try.prog 116 #[.func (.yield l) #[] #[], .pointer (some ⟨Bn, 0, none⟩)] W fun e W' => (∃ v, e = .returned v) ∧
      ((∃ xs, xs.map Itm.fe = parse bs 0 ∧ J xs W') ∨ (∃ pre, (∃ r, pre.map Itm.fe ++ r = parse bs 0) ∧ Jx pre W')) := by
  refine callsIn_wide.2 ?_
  have hlim := hb.lim
  have hle := hb.le
  rw [hm] at hlim hle
  have HN := Lib.hid hm
  have HB := Lib.hid hb
  have HY := Lib.hid hY
  have HJ := Lib.hid hJ
  clear hm hb hY hJ
  go_enter Try.func116, Try.ntmps116
  go_wp2_with fail
  go_loopw [3] (fun i wr => ∃ (a : Nat) (pre : List Itm), i = .int .i64 a ∧ a ≤ m ∧ pre.map Itm.fe ++ parse bs a = parse bs 0 ∧ J pre wr ∧ Mo V wr ∧ Boxed wr Bn 39 (.slice A m cap)) (fun i _ => m - (intOf i).toNat)
  case atStart => exact ⟨0, [], rfl, by omega, by simp, h0, hVW, hBn⟩
  case round =>
    obtain ⟨a, pre, rfl, ha, hp, hJs, hM, hX⟩ := hrel
    have HP := Lib.hid hp
    clear hp hBn h0 hVW
    have hB := HB.out.mo hM
    obtain ⟨A', hB', hs1, hs2⟩ := hB.drop a (by rw [HN.out]; exact ha)
    rw [HN.out] at hs1 hs2
    have hX1 := hX.cell
    have hl' : (bs.drop a).length = m - a := by rw [List.length_drop, HN.out]
    have NX := Lib.hid (fun w (k : Mo wr w) => next_any A' (cap - a) (bs.drop a) (m - a) w hl' (hB'.mo k))
    have i0 : (0 : Int) ≤ a := by omega
    have LB : LtW Bn wr := ⟨hX.lt⟩
    clear hB hB' hl'
    by_cases cf : (nextM (bs.drop a)).1 = 2
    · obtain ⟨f1, f2, f3, f4, f5⟩ := nextM_field cf
      rw [List.length_drop, HN.out] at f1 f5
      have PC := Lib.hid (parse_cons cf)
      obtain ⟨r, hr⟩ : ∃ r, nextM (bs.drop a) = r := ⟨_, rfl⟩
      rw [hr] at NX cf f2
      obtain ⟨r1, r2⟩ := r
      simp only at NX cf f2
      subst cf f2
      clear hr
      generalize sz (bs.drop a) = s at *
      go_wp2_with fail
      refine (NX.out _ Mor.out).mono ?_
      rintro e w1 ⟨rfl, M1⟩
      have hJ1 := HJ.out _ _ _ none hJs M1.grown (fun r h => by cases h)
      have hM1 := hM.trans M1
      have hX2 := boxed_mo hX M1
      have hX3 := hX2.cell
      have LB1 : LtW Bn w1 := ⟨hX2.lt⟩
      clear NX hs1 hs2 hX1 LB hX hM hJs M1
      have hB := HB.out.mo hM1
      obtain ⟨g, off, rfl, LG, hc⟩ := hB.get (by rw [HN.out]; omega)
      obtain ⟨c0, c1, c2⟩ := hc a (by rw [HN.out]; omega)
      obtain ⟨d0, d1, d2⟩ := hc (a + 1) (by rw [HN.out]; omega)
      have eK : kindM (bs.drop a) = bs[a]'(by rw [HN.out]; omega) * 256 + bs[a + 1]'(by rw [HN.out]; omega) := by
        unfold kindM
        simp [List.getD, List.getElem?_drop, show a < bs.length by rw [HN.out]; omega, show a + 1 < bs.length by rw [HN.out]; omega]
      have eV : ((bs.drop a).drop 4).take (s - 4) = (bs.drop (a + 4)).take (a + s - (a + 4)) := by
        rw [List.drop_drop, show a + s - (a + 4) = s - 4 by omega]
      rw [eK, eV] at PC
      have hB3 := hB.at_part (a + 4) (a + s) (by omega) (by rw [HN.out]; omega)
      clear eK eV hc hB
      have hl3 : ((bs.drop (a + 4)).take (a + s - (a + 4))).length = s - 4 := by rw [List.length_take, List.length_drop, HN.out]; omega
      rw [show a + s - (a + 4) = s - 4 by omega] at hl3 PC hB3
      have BV := Lib.hid hB3.byte
      have CL := Lib.hid (fun w (k : Mo w1 w) => cloneB_own _ (s - 4) (cap - (a + 4)) _ w hl3 (hB3.mo k))
      have HL := Lib.hid hl3
      clear hB3 hl3
      generalize bs[a]'_ = x0 at *
      generalize bs[a + 1]'_ = x1 at *
      generalize (bs.drop (a + 4)).take (s - 4) = vs at *
      have ho := or_shift16 x0 x1 c1 c2 d1 d2
      have t1 : IntKind.i64.wrap ((a : Int) + 1) = a + 1 := by rw [IntKind.wrap_i64]; omega
      have t2 : IntKind.i64.wrap ((a : Int) + 4) = a + 4 := by rw [IntKind.wrap_i64]; omega
      have t3 : IntKind.i64.wrap ((a : Int) + s) = a + s := by rw [IntKind.wrap_i64]; omega
      have t9 : IntKind.u16.wrap x0 = x0 := by rw [IntKind.wrap_u16]; omega
      have t10 : IntKind.u16.wrap x1 = x1 := by rw [IntKind.wrap_u16]; omega
      have t4 : IntKind.u16.wrap (x0 * 256) = x0 * 256 := by rw [IntKind.wrap_u16]; omega
      have t5 : ((a : Int) + 1).toNat = a + 1 := by omega
      have t6 : (0 : Int) ≤ a + 1 := by omega
      have t7 : (a : Int) < m := by omega
      have t8 : (a : Int) + 1 < m := by omega
      have ux1 : (0 : Int) ≤ a + 4 := by omega
      have ux2 : (a : Int) + 4 ≤ a + s := by omega
      have ux3 : (4 : Int) ≤ s := by omega
      have ux4 : (a : Int) + s ≤ cap := by omega
      have ux10 : (a : Int) + s ≤ m := by omega
      have ux5 : (0 : Int) ≤ a + s := by omega
      have ux6 : ((a : Int) + 4).toNat = a + 4 := by omega
      have ux7 : ((a : Int) + s).toNat = a + s := by omega
      have ux8 : (cap = a + 4) = False := by simp; omega
      have ux9 : a + s - (a + 4) = s - 4 := by omega
      clear i0 f1 f4 f5
      have i0 : (0 : Int) ≤ a := by omega
      have nb1 : Bn < w1.heap.size := LB1.out
      have nb2 : g < w1.heap.size := LG.out
      go_upto_region 3 with (fail)
      go_cut [6] (fun s6 wx => ∃ b g3 c3, s6 = .pointer (some ⟨b, 0, none⟩) ∧ Blk wx b 172 #[.int .u16 (x0 * 256 + x1), .slice (some ⟨g3, 0, none⟩) (s - 4) c3] ∧ wx.ownsRow w1.heap.size 5 1 (.slice (some ⟨g3, 0, none⟩) (s - 4) c3) (s - 4) (byteL vs) ∧ Mo w1 wx)
      case first =>
        go_region_held3 (fun w' => w'.cell? ⟨Bn, 0, none⟩ = some (.slice (some ⟨g, off, none⟩) m cap) ∧ w'.cell? ⟨g, off + a, none⟩ = some (.int .u8 x0) ∧ w'.cell? ⟨g, off + (a + 1), none⟩ = some (.int .u8 x1)) (first | (simp [go_sem, hX3, c0, d0]; done) | (simp [go_sem, m0, m1, m2]; done) | (refine ⟨?_, ?_, ?_⟩ <;> (rw [World.cell?_setCell_other _ _ _ _ (by intro e; injection e; omega), World.cell?_setCell_other _ _ _ _ (by intro e; injection e; omega)]; first | exact m0 | exact m1 | exact m2)))
          (((with_reducible refine (CL.out _ Mor.out).mono ?_); rintro e w2 ⟨v, rfl, hv, M2⟩
            obtain ⟨g3, c3, rfl, hg3, hl3⟩ := owns_form hv (by omega)
            have LG2 : LtW g w2 := M2.ltW inferInstance
            have LB2 : LtW Bn w2 := M2.ltW inferInstance
            have m0 : w2.cell? ⟨Bn, 0, none⟩ = some (.slice (some ⟨g, off, none⟩) m cap) := by rw [M2.cell]; simp [go_sem, hX3]
            have m1 : w2.cell? ⟨g, off + a, none⟩ = some (.int .u8 x0) := by rw [M2.cell]; simp [go_sem, c0]
            have m2 : w2.cell? ⟨g, off + (a + 1), none⟩ = some (.int .u8 x1) := by rw [M2.cell]; simp [go_sem, d0]
            try (have B2 := M2.blk (g := w1.heap.size) (t := 172) (cs := #[.int .u16 0, .slice none 0 0]) inferInstance
                 have z0 : w2.cell? ⟨w1.heap.size, 0, none⟩ = some (.int .u16 0) := by rw [blk_cell B2]; rfl
                 have z1 : w2.cell? ⟨w1.heap.size, 1, none⟩ = some (.slice none 0 0) := by rw [blk_cell B2]; rfl
                 have z2 := blk_frozen B2 0
                 have z3 := blk_frozen B2 1)))
        · go_wp2_with fail
          go_meet
          exact ⟨_, g3, c3, rfl, inferInstance, owns_mo (owns_base hv (Mor.out : Mo w1 _).size) Mor.out, ((Mor.out : Mo w1 _).trans M2).trans Mor.out⟩
        · go_wp2_with fail
          go_meet
          have hv' := owns_setCell (owns_setCell hv w1.heap.size 0 (.int .u16 (x0 * 256 + x1)) (by simp)) w1.heap.size 1 (.slice (some ⟨g3, 0, none⟩) (s - 4) c3) (by simp)
          exact ⟨_, g3, c3, rfl, blk_setCell (blk_setCell B2 0 _) 1 _, owns_base hv' (Mor.out : Mo w1 _).size, mo_setCell (mo_setCell ((Mor.out : Mo w1 _).trans M2) (Nat.le_refl _) _ _) (Nat.le_refl _) _ _⟩
      case rest =>
        obtain ⟨b, g3, c3, rfl, hb, hv, hM2⟩ := hcut
        have hJ2 := HJ.out _ _ _ none hJ1 hM2.grown (fun r h => by cases h)
        have b0 : wc.cell? ⟨b, 0, none⟩ = some (.int .u16 (x0 * 256 + x1)) := by rw [blk_cell hb]; rfl
        have b1 : wc.cell? ⟨b, 1, none⟩ = some (.slice (some ⟨g3, 0, none⟩) (s - 4) c3) := by rw [blk_cell hb]; rfl
        have Lb : LtW b wc := LtW.of_cell b0
        have hX4 := boxed_mo hX2 hM2
        have hM3 := hM1.trans hM2
        have hPx : PxW V bs pre ⟨⟨a, x0 * 256 + x1, vs⟩, .slice (some ⟨g3, 0, none⟩) (s - 4) c3⟩ wc := by
          refine ⟨?_, ⟨?_, ?_, ?_, ?_, ?_, ?_⟩, parse bs (a + s), ?_⟩
          · show wc.ownsRow _ _ 1 _ vs.length _
            rw [HL.out]
            exact owns_base hv hM1.size
          · show a ≤ 140737488355328
            omega
          · show 0 ≤ x0 * 256 + x1
            omega
          · show x0 * 256 + x1 ≤ 65535
            omega
          · exact BV.out
          · show 12 ≤ vs.length
            rw [HL.out]; omega
          · show vs.length ≤ 140737488355328
            rw [HL.out]; omega
          · have := HP.out
            rw [PC.out] at this
            exact this
        have hlen : pre.length < (parse bs 0).length := by
          have := congrArg List.length HP.out
          rw [PC.out, List.length_append, List.length_map, List.length_cons] at this
          omega
        obtain ⟨fn, tmps, assign, body, hy, hR⟩ := HY.out pre _ wc hJ2 hPx hlen
        dsimp only [itmV] at hy
        clear hb hv hM2 hX2 hM1 LG LB1 hJ1 hX3 c0 d0 CL hlen
        go_upto_region 4 with (fail)
        refine (wpIn_wide (n := n)).1 ?_
        gi_wp2
        have PP : Hid ((pre ++ [(⟨⟨a, x0 * 256 + x1, vs⟩, .slice (some ⟨g3, 0, none⟩) (s - 4) c3⟩ : Itm)]).map Itm.fe ++ parse bs (a + s) = parse bs 0) := Lib.hid (by
          have := HP.out
          rw [PC.out] at this
          rw [List.map_append, List.append_assoc]
          exact this)
        refine ⟨fun h => absurd h (by decide), hR.mono ?_⟩
        rintro e W3 (⟨rfl, hJ3, hK3⟩ | ⟨rfl, hJx3⟩)
        · gi_wp2
          go_wp2_with fail
          go_roundw
          case rel => exact ⟨a + s, _, by go_num, by omega, PP.out, hJ3, hM3.of_below hK3.bel, hK3.box _ hX4⟩
          case measure => simp [intOf]; omega
        · gi_wp2
          go_wp2_with fail
          refine bodyPost_ret (results_none rfl _ _ _) rfl ?_
          exact ⟨⟨_, rfl⟩, .inr ⟨_, ⟨_, PP.out⟩, hJx3⟩⟩
    · have PN := Lib.hid (parse_nil cf)
      obtain ⟨r, hr⟩ : ∃ r, nextM (bs.drop a) = r := ⟨_, rfl⟩
      rw [hr] at NX cf
      obtain ⟨r1, r2⟩ := r
      simp only at NX cf
      clear hr
      have d0 : (r1 != 2) = true := by simp [cf]
      clear cf
      go_wp2_with fail
      refine (NX.out _ Mor.out).mono ?_
      rintro e w1 ⟨rfl, M1⟩
      have hJ1 := HJ.out _ _ _ none hJs M1.grown (fun r h => by cases h)
      go_wp2_with fail
      refine bodyPost_ret (results_none rfl _ _ _) rfl ?_
      exact ⟨⟨_, rfl⟩, .inl ⟨pre, by have := HP.out; rw [PN.out, List.append_nil] at this; exact this, hJ1⟩⟩
end Go.Proofs.Ytcflebggepmmcaa
/- ext.Take: the fields of a tail, and its MAC. -/
namespace Go.Proofs.Ytcflebggepmmcaa
open Go.RowKit Go.Shelf
attribute [local go_sem] Oper.semAt_some
set_option maxRecDepth 20000 in
theorem walk_any (A : Option Addr) (n cap : Nat) (W : World) : Calls Try.prog 103 #[.slice A n cap] W fun e w' => e = .returned (.func (.func 116) #[] #[.pointer (some ⟨W.heap.size, 0, none⟩)]) ∧ W.alloc (.cells #[.slice A n cap] 39) = w' := by
  go_enter Try.func103, Try.ntmps103
  go_wp2_with fail
  go_ret
  exact ⟨rfl, rfl⟩
set_option maxRecDepth 20000 in
theorem walk_seq (n Bn : Nat) (V w : World) (A : Option Addr) (cap m : Nat) (bs : List Int) (hm : bs.length = m) (hb : ByteS V A cap bs) (hV : Mo V w) (hBn : Boxed w Bn 39 (.slice A m cap)) :
    SeqP Fence.wide n Try.prog 116 #[.pointer (some ⟨Bn, 0, none⟩)] itmV (KpB V.heap.size Bn) (PxW V bs) (fun xs => xs.map Itm.fe = parse bs 0) (fun pre => ∃ r, pre.map Itm.fe ++ r = parse bs 0) (parse bs 0).length w :=
  fun l J Jx W hW hJ _ hY h0 => walk1_in n l Bn V A cap m bs hm hb J Jx hY W (hV.trans (Mo.of hW)) (boxed_mo hBn (Mo.of hW)) hJ h0
set_option maxRecDepth 20000 in
/-- a row of another element type stays when a row grows -/
theorem owns_grown {w w1 : World} {b b' : Nat} {e e' : TypeId} {s s' : Nat} {v v' : Value} {n n' : Nat} {xs xs' : List Value} (h : w.ownsRow b e s v n xs) (h2 : w.ownsRow b' e' s' v' n' xs') (hne : e ≠ e') (hg : w.grownBy w1 v'.ownBlock) : w1.ownsRow b e s v n xs := by
  refine ⟨h.1, ?_⟩
  rcases h.2 with hn | ⟨g, cap, cur, rfl, hb, hh, rest⟩
  · exact .inl hn
  · refine .inr ⟨g, cap, cur, rfl, hb, (hg.block g (Array.getElem?_eq_some_iff.1 hh).1 (fun e1 => ?_)).trans hh, rest⟩
    rcases h2.2 with ⟨rfl, _⟩ | ⟨g', cap', cur', rfl, _, hh', _⟩
    · simp [Value.ownBlock] at e1
    · obtain rfl : g = g' := by simpa [Value.ownBlock] using e1
      rw [hh] at hh'
      cases hh'
      exact hne rfl
set_option maxRecDepth 20000 in
/-- a row stays when a variable of another type is stored into -/
theorem owns_set_box {w : World} {b B : Nat} {e t : TypeId} {s : Nat} {v u : Value} {n : Nat} {xs : List Value} (h : w.ownsRow b e s v n xs) (hx : Boxed w B t u) (hne : t ≠ e) (u' : Value) : (w.setCell ⟨B, 0, none⟩ u').ownsRow b e s v n xs :=
  h.kept (grownBy_setCell' w B u') (.inr (hx.not_row hne h).symm)
def endL (a : Nat) : List Fe → Nat
  | [] => a
  | f :: fs => endL (f.at_ + 4 + f.val.length) fs
set_option maxRecDepth 20000 in
theorem endL_snoc (a : Nat) (l : List Fe) (x : Fe) : endL a (l ++ [x]) = x.at_ + 4 + x.val.length := by
  induction l generalizing a with
  | nil => rfl
  | cons y ys ih => exact ih _
set_option maxRecDepth 20000 in
theorem part_len {bs : List Int} {a : Nat} (h : (nextM (bs.drop a)).1 = 2) : (((bs.drop a).drop 4).take (sz (bs.drop a) - 4)).length = sz (bs.drop a) - 4 := by
  obtain ⟨f1, f2, f3, f4, f5⟩ := nextM_field h
  rw [List.length_take, List.length_drop]
  omega
set_option maxRecDepth 20000 in
theorem parse_end (bs : List Int) : ∀ (m a : Nat), bs.length - a ≤ m → endL a (parse bs a) = endF bs a ∧ (a ≤ bs.length → endF bs a ≤ bs.length) := by
  intro m
  induction m with
  | zero =>
    intro a hm
    have h : ¬ (nextM (bs.drop a)).1 = 2 := fun h => by
      have := (nextM_field h).1
      rw [List.length_drop] at this
      omega
    rw [parse_nil h, endF_nil h]
    exact ⟨rfl, id⟩
  | succ m ih =>
    intro a hm
    by_cases h : (nextM (bs.drop a)).1 = 2
    · obtain ⟨f1, f2, f3, f4, f5⟩ := nextM_field h
      have hl := part_len h
      rw [List.length_drop] at f1 f5
      obtain ⟨i1, i2⟩ := ih (a + sz (bs.drop a)) (by omega)
      rw [parse_cons h, endF_cons h]
      refine ⟨?_, fun _ => i2 (by omega)⟩
      show endL (a + 4 + List.length _) _ = _
      rw [hl, show a + 4 + (sz (bs.drop a) - 4) = a + sz (bs.drop a) by omega]
      exact i1
    · rw [parse_nil h, endF_nil h]
      exact ⟨rfl, id⟩
def itmL (l : List Itm) : List Value := l.flatMap fun x => [.int .u16 x.fe.kind, x.u]
set_option maxRecDepth 20000 in
theorem itmL_snoc (l : List Itm) (x : Itm) : itmL (l ++ [x]) = itmL l ++ [.int .u16 x.fe.kind, x.u] := by unfold itmL; simp
structure TakeI (n₀ b2 b3 b4 b5 Bn : Nat) (sl : Value) (pre : List Itm) (W : World) : Prop where
  l : ∃ v, Boxed W b2 64 v ∧ W.ownsRow n₀ 172 2 v pre.length (itmL pre)
  m : Boxed W b3 39 (.slice none 0 0)
  c : Boxed W b4 26 (.int .i64 0)
  e : Boxed W b5 3 (.int .i64 (endL 0 (pre.map Itm.fe)))
  s : Boxed W Bn 39 sl
  own : ∀ x ∈ pre, W.ownsRow n₀ 5 1 x.u x.fe.val.length (byteL x.fe.val) ∧ ItmOk x
  le : pre.length ≤ 32
set_option maxRecDepth 20000 in
theorem TakeI.cel {n₀ b2 b3 b4 b5 Bn : Nat} {sl : Value} {pre : List Itm} {W W' : World} (h : TakeI n₀ b2 b3 b4 b5 Bn sl pre W) (k : Cel W W') : TakeI n₀ b2 b3 b4 b5 Bn sl pre W' := by
  obtain ⟨v, h1, h2⟩ := h.l
  exact ⟨⟨v, boxed_cel h1 k, owns_cel h2 k⟩, boxed_cel h.m k, boxed_cel h.c k, boxed_cel h.e k, boxed_cel h.s k, fun x hx => ⟨owns_cel (h.own x hx).1 k, (h.own x hx).2⟩, h.le⟩
structure TakeX (n₀ b2 b3 b4 : Nat) (c : Code) (pre : List Itm) (W : World) : Prop where
  ret : c = .ret
  l : Boxed W b2 64 (.slice none 0 0)
  m : Boxed W b3 39 (.slice none 0 0)
  c : Boxed W b4 26 (.int .i64 3)
  len : pre.length = 33
structure TakeA (n₀ b2 : Nat) (x : Itm) (Bx : Nat) (W : World) : Prop where
  v : ∃ v, Boxed W b2 64 v ∧ v.ownBlock ≠ some Bx
  box : W.heap[Bx]? = some (.cells #[.int .u16 x.fe.kind, x.u] 172 (0, 0))
  own : W.ownsRow n₀ 5 1 x.u x.fe.val.length (byteL x.fe.val)
  ok : ItmOk x
set_option maxRecDepth 20000 in
theorem TakeA.cel {n₀ b2 : Nat} {x : Itm} {Bx : Nat} {W W' : World} (h : TakeA n₀ b2 x Bx W) (k : Cel W W') : TakeA n₀ b2 x Bx W' := by
  obtain ⟨v, h1, h2⟩ := h.v
  exact ⟨⟨v, boxed_cel h1 k, h2⟩, k.2 _ _ _ _ h.box, owns_cel h.own k, h.ok⟩
set_option maxRecDepth 20000 in
theorem Cel.alloc (W : World) (o : Obj) : Cel W (W.alloc o) := ⟨by simp, fun k t cs z hk => (Below.heap_alloc W o k (Array.getElem?_eq_some_iff.1 hk).1).trans hk⟩
set_option maxRecDepth 20000 in
theorem infoExt : (Try.prog.info? 172).map (fun i => (i.zero, i.size, i.bytes)) = some (some (.agg #[.int .u16 0, .slice none 0 0]), 2, 32) := by kernel_rfl
/-- an append, kept whole -/
def appAny (ats : Array TypeId) (ty : TypeId) (args : Array Value) : Sem Value := Builtin.append_ ats ty args
set_option maxRecDepth 20000 in
theorem app_fold (ats : Array TypeId) (ty : TypeId) (args : Array Value) : Builtin.append_ ats ty args = appAny ats ty args := rfl
attribute [local go_sem ↓] app_fold
abbrev actT (A : Option Addr) (n cap h : Nat) (x : Itm) (Bx : Nat) : Act := { tmps := #[.slice A n cap, undef, .pointer (some ⟨h, 0, none⟩), .pointer (some ⟨h + 1, 0, none⟩), .pointer (some ⟨h + 1 + 1, 0, none⟩), .pointer (some ⟨h + 1 + 1 + 1, 0, none⟩), .int .i64 x.fe.at_, .pointer (some ⟨Bx, 0, none⟩), undef, undef, .slice A n cap, .func (.func 116) #[] #[.pointer (some ⟨h + 1 + 1 + 1 + 1, 0, none⟩)], .int .i64 x.fe.at_, .agg #[.int .u16 x.fe.kind, x.u], undef, undef, undef, undef, undef, undef, undef, undef, undef, undef, undef, undef, undef, undef, undef, undef, undef, undef, undef, undef, undef, undef, undef, undef, undef, undef, undef, undef, undef, undef, undef], defers := [] }
def takeM (bs : List Int) : List Fld × List Int × Int :=
  let l := (parse bs 0).map fun f => (⟨f.kind, f.val⟩ : Fld)
  let t := bs.drop (endF bs 0)
  if 32 < l.length then ([], [], 3) else if (nextM t).1 = 3 then ([], [], 8) else (l, if (nextM t).1 = 1 then t else [], 0)
def TakeRet (r : List Fld × List Int × Int) (W : World) (e : Ending) (w' : World) : Prop := ∃ v1 v2, e = .returned (.tuple #[v1, v2, .int .i64 r.2.2]) ∧ ExtV w' v1 r.1 ∧ ByteV w' v2 r.2.1 ∧ Mo W w'
set_option maxRecDepth 20000 in
theorem itmL_get (l : List Itm) : ∀ (i : Nat) (hi : i < l.length), (itmL l)[i * 2]? = some (.int .u16 l[i].fe.kind) ∧ (itmL l)[i * 2 + 1]? = some l[i].u := by
  induction l with
  | nil => intro i hi; simp at hi
  | cons x xs ih =>
    intro i hi
    have e : itmL (x :: xs) = .int .u16 x.fe.kind :: x.u :: itmL xs := rfl
    rw [e]
    cases i with
    | zero => exact ⟨rfl, rfl⟩
    | succ i =>
      obtain ⟨h1, h2⟩ := ih i (by simpa using hi)
      rw [show (i + 1) * 2 = i * 2 + 1 + 1 by omega, List.getElem?_cons_succ, List.getElem?_cons_succ, List.getElem?_cons_succ, List.getElem?_cons_succ]
      exact ⟨h1, h2⟩
set_option maxRecDepth 20000 in
theorem itmL_len (l : List Itm) : (itmL l).length = l.length * 2 := by
  induction l with
  | nil => rfl
  | cons x xs ih =>
    have e : itmL (x :: xs) = .int .u16 x.fe.kind :: x.u :: itmL xs := rfl
    rw [e, List.length_cons, List.length_cons, ih, List.length_cons]
    omega
abbrev fldOf (x : Fe) : Fld := ⟨x.kind, x.val⟩
set_option maxRecDepth 20000 in
theorem extV_owns {w : World} {b : Nat} {v : Value} {l : List Itm} (h : w.ownsRow b 172 2 v l.length (itmL l)) (ho : ∀ x ∈ l, w.ownsRow b 5 1 x.u x.fe.val.length (byteL x.fe.val) ∧ ItmOk x) (hl : l.length ≤ 4398046511104) : ExtV w v (l.map fun x => fldOf x.fe) := by
  rcases h.2 with ⟨rfl, h0⟩ | ⟨g, cap, cur, rfl, hbb, hg, h3, h4, h5, h6⟩
  · rw [List.eq_nil_of_length_eq_zero h0]
    exact extV_nil w
  · refine ⟨_, _, by rw [List.length_map], by rw [List.length_map]; exact h3, by rw [List.length_map]; exact hl, fun e => (by cases e), .inr ⟨g, 0, rfl, fun i hi => ?_⟩⟩
    have hi' : i < l.length := by rwa [List.length_map] at hi
    obtain ⟨k1, k2⟩ := itmL_get l i hi'
    obtain ⟨o1, o2⟩ := ho _ (List.getElem_mem hi')
    have hB : Blk w g 172 cur := ⟨hg⟩
    have hll := itmL_len l
    rw [List.getElem_map]
    refine ⟨?_, o2.kl, o2.ku, l[i].u, ?_, owns_byteS o1 o2.vu o2.byte⟩
    · rw [blk_cell hB, Nat.zero_add, ← Array.getElem?_toList, ← k1, ← h6, List.getElem?_take_of_lt (by omega)]
    · rw [blk_cell hB, Nat.zero_add, ← Array.getElem?_toList, ← k2, ← h6, List.getElem?_take_of_lt (by omega)]
set_option maxRecDepth 20000 in
theorem take_ret {R : Ending → World → Prop} {a : Act} {w : World} (b2 b3 b4 D : Nat) (A1 A2 : Option Addr) (n1 c1 n2 c2 : Nat) (c : Int)
    (h2 : a.tmps.getD 2 undef = .pointer (some ⟨b2, 0, none⟩)) (h3 : a.tmps.getD 3 undef = .pointer (some ⟨b3, 0, none⟩)) (h4 : a.tmps.getD 4 undef = .pointer (some ⟨b4, 0, none⟩)) (hd : a.defers = [{ target := Target.collected D, args := #[] }])
    (x2 : Boxed w b2 64 (.slice A1 n1 c1)) (x3 : Boxed w b3 39 (.slice A2 n2 c2)) (x4 : Boxed w b4 26 (.int .i64 c)) (hK : w.heap[D]? = some (.deferred (some [])))
    (hR : R (.returned (.tuple #[.slice A1 n1 c1, .slice A2 n2 c2, .int .i64 c])) (w.putObj D (.deferred none))) : bodyPostM Fence.wide 6 Try.prog Try.f82 R .ret a w := by
  have y2 := (x2.kept (grownBy_putObj' w D (.deferred none)) (fun e => by
    obtain rfl : b2 = D := by simpa using e
    rw [show w.heap[b2]? = _ from x2] at hK; cases hK)).cell
  have y3 := (x3.kept (grownBy_putObj' w D (.deferred none)) (fun e => by
    obtain rfl : b3 = D := by simpa using e
    rw [show w.heap[b3]? = _ from x3] at hK; cases hK)).cell
  have y4 := (x4.kept (grownBy_putObj' w D (.deferred none)) (fun e => by
    obtain rfl : b4 = D := by simpa using e
    rw [show w.heap[b4]? = _ from x4] at hK; cases hK)).cell
  obtain ⟨tm, df⟩ := a
  simp only at h2 h3 h4 hd
  subst hd
  refine ⟨by simp, .inl ⟨_, _, rfl, run_takeDeferred hK, ?_⟩⟩
  refine ⟨.tuple #[.slice A1 n1 c1, .slice A2 n2 c2, .int .i64 c], ?_, hR⟩
  have k2 : tm[2]?.getD undef = .pointer (some ⟨b2, 0, none⟩) := by simpa using h2
  have k3 : tm[3]?.getD undef = .pointer (some ⟨b3, 0, none⟩) := by simpa using h3
  have k4 : tm[4]?.getD undef = .pointer (some ⟨b4, 0, none⟩) := by simpa using h4
  simp [results, Try.results82, go_sem, k2, k3, k4, y2, y3, y4]
set_option maxRecDepth 20000 in
theorem owns_far {w Z : World} {b : Nat} {e : TypeId} {sz : Nat} {v : Value} {n : Nat} {xs : List Value} {B2 B3 B4 : Nat} {t2 t3 t4 : TypeId} {u2 u3 u4 : Value} (h : w.ownsRow b e sz v n xs)
    (x2 : Boxed w B2 t2 u2) (x3 : Boxed w B3 t3 u3) (x4 : Boxed w B4 t4 u4) (n2 : t2 ≠ e) (n3 : t3 ≠ e) (n4 : t4 ≠ e)
    (hZ : ∀ k, k ≠ B2 → k ≠ B3 → k ≠ B4 → Z.heap[k]? = w.heap[k]?) : Z.ownsRow b e sz v n xs :=
  owns_block h fun g _ hg => hZ g (fun e => x2.not_row n2 h (by rw [← e]; exact hg.symm)) (fun e => x3.not_row n3 h (by rw [← e]; exact hg.symm)) (fun e => x4.not_row n4 h (by rw [← e]; exact hg.symm))
set_option maxRecDepth 20000 in
theorem take_fin {W w w2 Z : World} {D : Nat} {l : List Itm} {v1 v2 u3 u4 : Value} {m : List Int}
    (x2 : Boxed w2 W.heap.size 64 v1) (x3 : Boxed w2 (W.heap.size + 1) 39 u3) (x4 : Boxed w2 (W.heap.size + 1 + 1) 26 u4)
    (row : w2.ownsRow W.heap.size 172 2 v1 l.length (itmL l)) (own : ∀ x ∈ l, w2.ownsRow W.heap.size 5 1 x.u x.fe.val.length (byteL x.fe.val) ∧ ItmOk x) (hl : l.length ≤ 32)
    (hv : w2.ownsRow W.heap.size 5 1 v2 m.length (byteL m)) (hm : m.length ≤ 140737488355328) (hmb : ∀ c ∈ m, 0 ≤ c ∧ c ≤ 255)
    (hZ : ∀ k, k ≠ W.heap.size → k ≠ W.heap.size + 1 → k ≠ W.heap.size + 1 + 1 → Z.heap[k]? = w2.heap[k]?) (hMZ : Mo W Z) (hD : w.heap.size ≤ D) (hWw : W.heap.size ≤ w.heap.size) (hK : Z.heap[D]? = some (.deferred (some []))) :
    ExtV (Z.putObj D (.deferred none)) v1 (l.map fun x => fldOf x.fe) ∧ ByteV (Z.putObj D (.deferred none)) v2 m ∧ Mo W (Z.putObj D (.deferred none)) := by
  refine ⟨extV_owns (ownsRow_putObj (owns_far row x2 x3 x4 (by decide) (by decide) (by decide) hZ) _ hK rfl) (fun x hx => ⟨ownsRow_putObj (owns_far (own x hx).1 x2 x3 x4 (by decide) (by decide) (by decide) hZ) _ hK rfl, (own x hx).2⟩) (by omega), owns_byteS (ownsRow_putObj (owns_far hv x2 x3 x4 (by decide) (by decide) (by decide) hZ) _ hK rfl) hm hmb, hMZ.of_below (belowK_b (w := w) hWw _ D _ _ hD hK rfl rfl)⟩
set_option maxRecDepth 100000 in
set_option maxHeartbeats 2000000 in
theorem take_any (A : Option Addr) (cap n : Nat) (bs : List Int) (W : World) (hn : bs.length = n) (hb : ByteS W A cap bs) :
    Calls Try.prog 82 #[.slice A n cap] W (TakeRet (takeM bs) W) := by
  refine (callsIn_wide (n := 6)).1 ?_
  refine callsIn_of_wp_marks Try.func82 rfl trivial ?_ rfl
  simp only [Try.ntmps82, List.size_toArray, List.length_cons, List.length_nil, Nat.reduceAdd, Nat.reduceSub, Array.replicate_succ, Array.replicate_zero, List.push_toArray, List.append_toArray, List.nil_append, List.cons_append]
  refine wpIn_wide.2 ?_
  go_wp2_with fail
  refine (walk_any _ _ _ _).mono ?_
  rintro e w' ⟨rfl, rfl⟩
  go_wp2_with fail
  obtain ⟨w, hw⟩ : ∃ w, ((((W.alloc (.cells #[.slice none 0 0] 64)).alloc (.cells #[.slice none 0 0] 39)).alloc (.cells #[.int .i64 0] 26)).alloc (.cells #[.int .i64 0] 3)).alloc (.cells #[.slice A n cap] 39) = w := ⟨_, rfl⟩
  have x2 : Boxed w W.heap.size 64 (.slice none 0 0) := by rw [← hw]; exact (inferInstance : Blk _ _ _ _).out
  have x3 : Boxed w (W.heap.size + 1) 39 (.slice none 0 0) := by rw [← hw]; exact (inferInstance : Blk _ _ _ _).out
  have x4 : Boxed w (W.heap.size + 1 + 1) 26 (.int .i64 0) := by rw [← hw]; exact (inferInstance : Blk _ _ _ _).out
  have x5 : Boxed w (W.heap.size + 1 + 1 + 1) 3 (.int .i64 0) := by rw [← hw]; exact (inferInstance : Blk _ _ _ _).out
  have xn : Boxed w (W.heap.size + 1 + 1 + 1 + 1) 39 (.slice A n cap) := by rw [← hw]; exact (inferInstance : Blk _ _ _ _).out
  have hWw : Mo W w := by rw [← hw]; exact Mor.out
  rw [hw]
  clear hw
  have HB := Lib.hid hb
  have HN := Lib.hid hn
  clear hb hn
  refine (wpIn_wide (n := 6)).1 ?_
  refine wpIn_range_px (F := Fence.wide) (n := 6) (w0 := w) rfl (by omega) (gf := 116) (lb := #[.pointer (some ⟨W.heap.size + 1 + 1 + 1 + 1, 0, none⟩)]) rfl trivial (enters_of Try.func116 (by kernel_rfl) rfl)
    (walk_seq 5 _ W w A cap n bs HN.out HB.out hWw xn) KpB.trans (KpB.put hWw.size) (Below.refl _ _) (fun _ => rfl)
    (fun pre W' => TakeI W.heap.size W.heap.size (W.heap.size + 1) (W.heap.size + 1 + 1) (W.heap.size + 1 + 1 + 1) (W.heap.size + 1 + 1 + 1 + 1) (.slice A n cap) pre W' ∧ Below W.heap.size W W')
    (fun c pre W' => TakeX W.heap.size W.heap.size (W.heap.size + 1) (W.heap.size + 1 + 1) c pre W' ∧ Below W.heap.size W W')
    (OwnFrom.and (ownFrom_cel fun _ _ _ h k => h.cel k) (ownFrom_below (Nat.le_refl _) hWw.size))
    (fun c => OwnFrom.and (ownFrom_cel fun _ _ _ h k => ⟨h.ret, boxed_cel h.l k, boxed_cel h.m k, boxed_cel h.c k, h.len⟩) (ownFrom_below (Nat.le_refl _) hWw.size))
    ⟨⟨⟨_, x2, World.ownsRow_nil _ _ _ _⟩, x3, x4, x5, xn, fun x hx => (by cases hx), by simp⟩, hWw.below⟩
    (fun pre x a' W' => ∃ Bx, TakeA W.heap.size W.heap.size x Bx W' ∧ a' = actT A n cap W.heap.size x Bx)
    (fun pre x a' => ownFrom_cel fun _ _ _ ⟨Bx, h, e⟩ k => ⟨Bx, h.cel k, e⟩)
    ?assign ?body ?done ?stop
  case assign =>
    rintro l pre ⟨⟨a, k, vs⟩, u⟩ Wr K ⟨hI, hB⟩ hP hK
    have hvl : 12 ≤ vs.length := hP.ok.vl
    have hown : Wr.ownsRow W.heap.size 5 1 u vs.length (byteL vs) := hP.own
    obtain ⟨g3, c3, rfl, hg3, hl3⟩ := owns_form hown (by omega)
    have hok := hP.ok
    clear hP
    dsimp only [itmV]
    gi_wp2
    obtain ⟨v, hv, hrow⟩ := hI.l
    refine hK _ _ ((KeepsOthers.alloc _ _).from _) ⟨(Below.refl _ Wr).alloc (by have := hB.size; have := (Array.getElem?_eq_some_iff.1 hI.l.choose_spec.1).1; omega) _, fun v hv => hv.alloc _⟩ ⟨hI.cel (Cel.alloc _ _), hB.alloc hB.size _⟩ ⟨Wr.heap.size, ⟨⟨v, hv.alloc _, fun e => ?_⟩, heap_alloc_new _ _, owns_cel hown (Cel.alloc _ _), hok⟩, rfl⟩
    rcases hrow.2 with ⟨rfl, _⟩ | ⟨g, cap', cur, rfl, _, hg, _⟩
    · simp [Value.ownBlock] at e
    · have e1 : g = Wr.heap.size := by simpa [Value.ownBlock] using e
      have := (Array.getElem?_eq_some_iff.1 hg).1
      omega
  case body =>
    rintro l pre ⟨⟨a, k, vs⟩, u⟩ a' Wr hl ⟨r, hr⟩ ⟨hI, hB⟩ ⟨Bx, hA, rfl⟩ hlt
    clear hr hlt
    obtain ⟨v, hv, hrow⟩ := hI.l
    obtain ⟨v', hv', hne⟩ := hA.v
    obtain rfl : v' = v := by
      have := (show Wr.heap[_]? = _ from hv').symm.trans hv
      simpa using this
    have hvl : 12 ≤ vs.length := hA.ok.vl
    have hvu : vs.length ≤ 140737488355328 := hA.ok.vu
    have hau : a ≤ 140737488355328 := hA.ok.at_
    have hown : Wr.ownsRow W.heap.size 5 1 u vs.length (byteL vs) := hA.own
    obtain ⟨g3, c3, rfl, hg3, hl3⟩ := owns_form hown (by omega)
    have hbx : Wr.heap[Bx]? = some (.cells #[.int .u16 k, .slice (some ⟨g3, 0, none⟩) vs.length c3] 172 (0, 0)) := hA.box
    obtain ⟨A2, c2, rfl⟩ : ∃ A c, v' = .slice A pre.length c := by
      rcases hrow.2 with ⟨rfl, h0⟩ | ⟨g, cap', cur, rfl, _⟩
      · exact ⟨none, 0, by rw [h0]⟩
      · exact ⟨_, _, rfl⟩
    have hm := hI.m
    have hcc := hI.c
    have he := hI.e
    have hs := hI.s
    have hle := hI.le
    have ho := hI.own
    have hok := hA.ok
    clear hI hA hv'
    have y2 := hv.cell
    have z2 := hv.frozen
    have y3 := hm.cell
    have z3 := hm.frozen
    have y4 := hcc.cell
    have z4 := hcc.frozen
    obtain ⟨q, hq⟩ : ∃ q, pre.length = q := ⟨_, rfl⟩
    have HQ := Lib.hid hq
    rw [hq] at hv hrow y2 hle hne
    clear hq
    by_cases hc : q = 32
    · subst hc
      gi_wp2
      refine ⟨(((KeepsOthers.setCell _ _ _).trans (KeepsOthers.setCell _ _ _)).trans (KeepsOthers.setCell _ _ _)).from _, ⟨rfl, ?_, ?_, ?_, ?_⟩, ?_⟩
      · exact ((hv.set _).other (by omega) _).other (by omega) _
      · exact ((hm.other (by omega) _).set _).other (by omega) _
      · exact ((hcc.other (by omega) _).other (by omega) _).set _
      · rw [List.length_append, HQ.out]; rfl
      · exact ((hB.setCell (p := ⟨_, 0, none⟩) (by simp) _).setCell (p := ⟨_, 0, none⟩) (by simp) _).setCell (p := ⟨_, 0, none⟩) (by simp; omega) _
    · have d0 : ((q : Int) == 32) = false := by simp; omega
      gi_wp2
      generalize Value.slice A2 q c2 = v at *
      have hmix : Try.prog.follows .mixedOrders = true := by kernel_rfl
      obtain ⟨i0, hi, hz0, hz1, hz2⟩ := info_parts infoExt
      have hsz := hB.size
      obtain ⟨v2, w1, hrun, hown1, hgrow, -, -⟩ := run_append_own_at (P := Try.prog) ((Wr.alloc (.cells #[.int .u16 k, .slice (some ⟨g3, 0, none⟩) vs.length c3] 172)).drew) W.heap.size 64 64 172 i0 (.agg #[.int .u16 0, .slice none 0 0]) 2 32 Try.underlying64 hi hz0 hz1 hz2 rfl (by decide) _ q _ (owns_mo hrow Mor.out) ⟨Wr.heap.size, 0, none⟩ 1 1 [.int .u16 k, .slice (some ⟨g3, 0, none⟩) vs.length c3] rfl (news_of_blk (g := Wr.heap.size) (t := 172) (cs := #[.int .u16 k, .slice (some ⟨g3, 0, none⟩) vs.length c3]) inferInstance _ rfl) (by intro u hu; simp at hu; rcases hu with rfl | rfl <;> rfl) (by unfold maxLen; omega) (by omega) (by simp; omega)
      replace hrun : (appAny #[64, 64] 64 #[v, .slice (some ⟨Wr.heap.size, 0, none⟩) 1 1]).run Try.prog _ = .ok v2 w1 := hrun
      obtain ⟨g4, c4, rfl⟩ := ownsRow_succ hown1
      have T2 := boxed_mo hv (Mor.out : Mo Wr ((Wr.alloc (.cells #[.int .u16 k, .slice (some ⟨g3, 0, none⟩) vs.length c3] 172)).drew))
      have T5 := boxed_mo he (Mor.out : Mo Wr ((Wr.alloc (.cells #[.int .u16 k, .slice (some ⟨g3, 0, none⟩) vs.length c3] 172)).drew))
      have hrowT := owns_mo hrow (Mor.out : Mo Wr ((Wr.alloc (.cells #[.int .u16 k, .slice (some ⟨g3, 0, none⟩) vs.length c3] 172)).drew))
      have U2 := T2.kept hgrow (T2.not_row (by decide) hrowT)
      have U5 := T5.kept hgrow (T5.not_row (by decide) hrowT)
      have BX : Blk Wr Bx 172 #[.int .u16 k, .slice (some ⟨g3, 0, none⟩) vs.length c3] := ⟨hbx⟩
      have BX1 : Blk w1 Bx 172 #[.int .u16 k, .slice (some ⟨g3, 0, none⟩) vs.length c3] := ⟨(hgrow.block Bx (by have := BX.lt; simp; omega) (fun e => hne e.symm)).trans (inferInstance : Blk ((Wr.alloc (.cells #[.int .u16 k, .slice (some ⟨g3, 0, none⟩) vs.length c3] 172)).drew) Bx 172 #[.int .u16 k, .slice (some ⟨g3, 0, none⟩) vs.length c3]).out⟩
      have a0 : Wr.cell? ⟨Bx, 0, none⟩ = some (.int .u16 k) := by rw [blk_cell BX]; rfl
      have a1 : Wr.cell? ⟨Bx, 1, none⟩ = some (.slice (some ⟨g3, 0, none⟩) vs.length c3) := by rw [blk_cell BX]; rfl
      have a2 : w1.cell? ⟨Bx, 0, none⟩ = some (.int .u16 k) := by rw [blk_cell BX1]; rfl
      have a3 : w1.cell? ⟨Bx, 1, none⟩ = some (.slice (some ⟨g3, 0, none⟩) vs.length c3) := by rw [blk_cell BX1]; rfl
      have p2 := U2.cell
      have q2 := U2.frozen
      have p5 := U5.cell
      have q5 := U5.frozen
      have LX : LtW Bx Wr := LtW.of_cell a0
      have LY : LtW W.heap.size Wr := LtW.of_cell y2
      have t1 : IntKind.i64.wrap ((a : Int) + 4) = a + 4 := by rw [IntKind.wrap_i64]; omega
      have t2 : IntKind.i64.wrap ((a : Int) + 4 + vs.length) = a + 4 + vs.length := by rw [IntKind.wrap_i64]; omega
      have nx2 : Bx ≠ W.heap.size := fun e => by
        have h1 := (show Wr.heap[W.heap.size]? = _ from hv)
        rw [← e, BX.out] at h1
        simp at h1
      have nx5 : Bx ≠ W.heap.size + 1 + 1 + 1 := fun e => by
        have h1 := (show Wr.heap[W.heap.size + 1 + 1 + 1]? = _ from he)
        rw [← e, BX.out] at h1
        simp at h1
      clear BX BX1 hbx T2 T5 hrowT hi hz0 hz1 hz2 hsz hne
      obtain ⟨W2, hW2⟩ : ∃ W2, (w1.setCell ⟨W.heap.size, 0, none⟩ (.slice (some ⟨g4, 0, none⟩) (q + 1) c4)).setCell ⟨W.heap.size + 1 + 1 + 1, 0, none⟩ (.int .i64 ((a : Int) + 4 + vs.length)) = W2 := ⟨_, rfl⟩
      have FIN : KeepsFrom w.heap.size Wr W2 ∧ KpB W.heap.size (W.heap.size + 1 + 1 + 1 + 1) Wr W2 ∧ TakeI W.heap.size W.heap.size (W.heap.size + 1) (W.heap.size + 1 + 1) (W.heap.size + 1 + 1 + 1) (W.heap.size + 1 + 1 + 1 + 1) (.slice A n cap) (pre ++ [⟨⟨a, k, vs⟩, .slice (some ⟨g3, 0, none⟩) vs.length c3⟩]) W2 ∧ Below W.heap.size W W2 := by
        have hT := (Mor.out : Mo Wr ((Wr.alloc (.cells #[.int .u16 k, .slice (some ⟨g3, 0, none⟩) vs.length c3] 172)).drew))
        have hrowT := owns_mo hrow hT
        have lift : ∀ (B : Nat) (t : TypeId) (u : Value), t ≠ 172 → B ≠ W.heap.size → B ≠ W.heap.size + 1 + 1 + 1 → Boxed Wr B t u → Boxed W2 B t u := fun B t u ht n1 n2 hb => by
          rw [← hW2]
          have h1 := boxed_mo hb hT
          exact ((h1.kept hgrow (h1.not_row ht hrowT)).other n1 _).other n2 _
        have liftO : ∀ (u : Value) (z : Nat) (xs : List Value), Wr.ownsRow W.heap.size 5 1 u z xs → W2.ownsRow W.heap.size 5 1 u z xs := fun u z xs h => by
          rw [← hW2]
          exact owns_set_box (owns_set_box (owns_grown (owns_mo h hT) hrowT (by decide) hgrow) U2 (by decide) _) (U5.other (by omega) _) (by decide) _
        have hb2 : Below W.heap.size Wr W2 := by
          rw [← hW2]
          refine (((hT.below.mono hB.size).grown hgrow (Nat.le_trans hB.size hT.size) fun j ej => ?_).setCell (p := ⟨_, 0, none⟩) (by simp) _).setCell (p := ⟨_, 0, none⟩) (by simp; omega) _
          exact (hrow.lt j ej).1
        refine ⟨KeepsOthers.from ?_ _, ⟨hb2, fun v hv => lift _ _ _ (by decide) (by omega) (by omega) hv⟩, ⟨⟨.slice (some ⟨g4, 0, none⟩) (q + 1) c4, ?_, ?_⟩, lift _ _ _ (by decide) (by omega) (by omega) hm, lift _ _ _ (by decide) (by omega) (by omega) hcc, ?_, lift _ _ _ (by decide) (by omega) (by omega) hs, ?_, ?_⟩, hB.trans hb2⟩
        · rw [← hW2]
          refine ((((KeepsOthers.alloc Wr _).trans (KeepsOthers.drew _)).trans (KeepsOthers.of_grownBy hgrow fun j o ej hj => ?_)).trans (KeepsOthers.setCell _ _ _)).trans (KeepsOthers.setCell _ _ _)
          rcases hrowT.2 with ⟨e, _⟩ | ⟨g, cap', cur, e, _, hg, _⟩
          · rw [e] at ej; simp [Value.ownBlock] at ej
          · rw [e] at ej
            obtain rfl : g = j := by simpa [Value.ownBlock] using ej
            rw [hg] at hj
            cases hj
            rfl
        · rw [← hW2]
          exact (U2.set _).other (by omega) _
        · rw [← hW2, List.length_append, HQ.out, itmL_snoc]
          exact owns_set_box (owns_set_box hown1 U2 (by decide) _) (U5.other (by omega) _) (by decide) _
        · rw [← hW2, List.map_append, List.map_cons, List.map_nil, endL_snoc]
          have h5 := (U5.other (B' := W.heap.size) (by omega) (.slice (some ⟨g4, 0, none⟩) (q + 1) c4)).set (.int .i64 ((a : Int) + 4 + vs.length))
          have e5 : ((a : Int) + 4 + vs.length) = ((a + 4 + vs.length : Nat) : Int) := by push_cast; rfl
          rw [← e5]
          exact h5
        · intro x hx
          rcases List.mem_append.1 hx with h | h
          · exact ⟨liftO _ _ _ (ho x h).1, (ho x h).2⟩
          · obtain rfl : x = _ := by simpa using h
            exact ⟨liftO _ _ _ hown, hok⟩
        · rw [List.length_append, HQ.out]; simp; omega
      have a4 : W2.cell? ⟨Bx, 0, none⟩ = some (.int .u16 k) := by rw [← hW2, World.cell?_setCell_other _ _ _ _ (by intro e; injection e; omega), World.cell?_setCell_other _ _ _ _ (by intro e; injection e; omega)]; exact a2
      have a5 : W2.cell? ⟨Bx, 1, none⟩ = some (.slice (some ⟨g3, 0, none⟩) vs.length c3) := by rw [← hW2, World.cell?_setCell_other _ _ _ _ (by intro e; injection e; omega), World.cell?_setCell_other _ _ _ _ (by intro e; injection e; omega)]; exact a3
      obtain ⟨S, hS⟩ : ∃ S : World → Prop, S = fun w' => w'.cell? ⟨Bx, 0, none⟩ = some (.int .u16 k) ∧ w'.cell? ⟨Bx, 1, none⟩ = some (.slice (some ⟨g3, 0, none⟩) vs.length c3) := ⟨_, rfl⟩
      have hS0 : S Wr.drew := by rw [hS]; exact ⟨by simp [go_sem, a0], by simp [go_sem, a1]⟩
      have hS1 : S ((Wr.alloc (.cells #[.int .u16 k, .slice (some ⟨g3, 0, none⟩) vs.length c3] 172)).drew) := by rw [hS]; exact ⟨by simp [go_sem, a0], by simp [go_sem, a1]⟩
      refine wpIn_region_round (S := S) hmix (by kernel_rfl) (fun ⟨_, _, h⟩ => h) ?_
      simp only [List.size_toArray, List.length_cons, List.length_nil, Nat.reduceAdd, Array.replicate_succ, Array.replicate_zero, List.push_toArray, List.nil_append, List.cons_append]
      refine wpAnyH_take (i := 1) (v := ?_) rfl (by kernel_rfl) (by kernel_rfl) (by kernel_rfl) (fun _ _ _ h => h) (Or.inl ⟨by rfl, ?_⟩) hS0 ?_
      rotate_left
      · intro w hSw
        rw [hS] at hSw
        obtain ⟨e0, e1⟩ := hSw
        go_simp
        with_reducible rfl
      (try simp only [Act.put, List.getElem_toArray, List.getElem_cons_zero, List.getElem_cons_succ, List.setIfInBounds_toArray, List.set_cons_zero, List.set_cons_succ])
      refine wpAnyH_take (i := 4) (v := ?_) rfl (by kernel_rfl) (by kernel_rfl) (by kernel_rfl) (fun _ _ _ h => h) (Or.inl ⟨by rfl, ?_⟩) hS0 ?_
      rotate_left
      · intro w hSw
        rw [hS] at hSw
        obtain ⟨e0, e1⟩ := hSw
        go_simp
        with_reducible rfl
      (try simp only [Act.put, List.getElem_toArray, List.getElem_cons_zero, List.getElem_cons_succ, List.setIfInBounds_toArray, List.set_cons_zero, List.set_cons_succ])
      refine wpAnyH_take (i := 5) (v := ?_) rfl (by kernel_rfl) (by kernel_rfl) (by kernel_rfl) (fun _ _ _ h => h) (Or.inl ⟨by rfl, ?_⟩) hS0 ?_
      rotate_left
      · intro w hSw
        rw [hS] at hSw
        obtain ⟨e0, e1⟩ := hSw
        go_simp
        with_reducible rfl
      (try simp only [Act.put, List.getElem_toArray, List.getElem_cons_zero, List.getElem_cons_succ, List.setIfInBounds_toArray, List.set_cons_zero, List.set_cons_succ])
      refine wpAnyH_take (i := 6) (v := ?_) rfl (by kernel_rfl) (by kernel_rfl) (by kernel_rfl) (fun _ _ _ h => h) (Or.inl ⟨by rfl, ?_⟩) hS0 ?_
      rotate_left
      · intro w hSw
        rw [hS] at hSw
        obtain ⟨e0, e1⟩ := hSw
        go_simp
        with_reducible rfl
      (try simp only [Act.put, List.getElem_toArray, List.getElem_cons_zero, List.getElem_cons_succ, List.setIfInBounds_toArray, List.set_cons_zero, List.set_cons_succ])
      refine wpAnyH_take (i := 7) (v := ?_) rfl (by kernel_rfl) (by kernel_rfl) (by kernel_rfl) (fun _ _ _ h => h) (Or.inl ⟨by rfl, ?_⟩) hS0 ?_
      rotate_left
      · intro w hSw
        rw [hS] at hSw
        obtain ⟨e0, e1⟩ := hSw
        go_simp
        with_reducible rfl
      (try simp only [Act.put, List.getElem_toArray, List.getElem_cons_zero, List.getElem_cons_succ, List.setIfInBounds_toArray, List.set_cons_zero, List.set_cons_succ])
      refine wpAnyH_take (i := 8) (v := ?_) rfl (by kernel_rfl) (by kernel_rfl) (by kernel_rfl) (fun _ _ _ h => h) (Or.inl ⟨by rfl, ?_⟩) hS0 ?_
      rotate_left
      · intro w hSw
        rw [hS] at hSw
        obtain ⟨e0, e1⟩ := hSw
        go_simp
        with_reducible rfl
      (try simp only [Act.put, List.getElem_toArray, List.getElem_cons_zero, List.getElem_cons_succ, List.setIfInBounds_toArray, List.set_cons_zero, List.set_cons_succ])
      refine wpAnyH_take (i := 9) (v := ?_) rfl (by kernel_rfl) (by kernel_rfl) (by kernel_rfl) (fun _ _ _ h => h) (Or.inl ⟨by rfl, ?_⟩) hS0 ?_
      rotate_left
      · intro w hSw
        rw [hS] at hSw
        obtain ⟨e0, e1⟩ := hSw
        go_simp
        with_reducible rfl
      (try simp only [Act.put, List.getElem_toArray, List.getElem_cons_zero, List.getElem_cons_succ, List.setIfInBounds_toArray, List.set_cons_zero, List.set_cons_succ])
      refine wpAnyH_ready (rs := [0, 2]) (by kernel_rfl) (by simp) (AllReadyH.cons rfl (fun K hK => ?_) (AllReadyH.cons rfl (fun K hK => ?_) AllReadyH.nil))
      · (try simp only [Act.put, List.getElem_toArray, List.getElem_cons_zero, List.setIfInBounds_toArray, List.set_cons_zero, List.set_cons_succ])
        go_simp
        refine hK.out _ _ hS0 (fun hHeld => ?_)
        clear hK hHeld K
        (try simp only [List.setIfInBounds_toArray, List.set_cons_zero])
        refine wpAnyH_ready (rs := [2]) (by kernel_rfl) (by simp) (AllReadyH.cons rfl (fun K hK => ?_) AllReadyH.nil)
        (try simp only [Act.put, List.getElem_toArray, List.getElem_cons_zero, List.getElem_cons_succ, List.setIfInBounds_toArray, List.set_cons_zero, List.set_cons_succ])
        go_simp
        refine hK.out _ _ hS1 (fun hHeld => ?_)
        clear hK hHeld K
        (try simp only [List.setIfInBounds_toArray, List.set_cons_zero, List.set_cons_succ])
        refine wpAnyH_ready (rs := [3]) (by kernel_rfl) (by simp) (AllReadyH.cons rfl (fun K hK => ?_) AllReadyH.nil)
        (try simp only [Act.put, List.getElem_toArray, List.getElem_cons_zero, List.getElem_cons_succ, List.setIfInBounds_toArray, List.set_cons_zero, List.set_cons_succ])
        go_simp
        refine hK.out _ _ (by rw [hS]; exact ⟨by simp [go_sem, a2], by simp [go_sem, a3]⟩) (fun hHeld => ?_)
        clear hK hHeld K
        (try simp only [List.setIfInBounds_toArray, List.set_cons_zero, List.set_cons_succ])
        refine wpAnyH_ready (rs := [10]) (by kernel_rfl) (by simp) (AllReadyH.cons rfl (fun K hK => ?_) AllReadyH.nil)
        (try simp only [Act.put, List.getElem_toArray, List.getElem_cons_zero, List.getElem_cons_succ])
        go_simp
        refine hK.out _ _ (by rw [hS]; exact ⟨by rw [World.cell?_setCell_other _ _ _ _ (by intro e; injection e; omega)]; exact a2, by rw [World.cell?_setCell_other _ _ _ _ (by intro e; injection e; omega)]; exact a3⟩) (fun hHeld => ?_)
        clear hK hHeld K
        (try simp only [List.setIfInBounds_toArray, List.set_cons_zero, List.set_cons_succ])
        refine wpAnyH_ready (rs := [11]) (by kernel_rfl) (by simp) (AllReadyH.cons rfl (fun K hK => ?_) AllReadyH.nil)
        (try simp only [Act.put, List.getElem_toArray, List.getElem_cons_zero, List.getElem_cons_succ])
        go_simp
        refine hK.out _ _ (by rw [hS]; exact ⟨a4, a5⟩) (fun hHeld => ?_)
        clear hK hHeld K
        (try simp only [List.setIfInBounds_toArray, List.set_cons_zero, List.set_cons_succ])
        refine wpAnyH_done (by kernel_rfl) ?_ _
        exact FIN
      · (try simp only [Act.put, List.getElem_toArray, List.getElem_cons_zero, List.getElem_cons_succ, List.setIfInBounds_toArray, List.set_cons_zero, List.set_cons_succ])
        go_simp
        refine hK.out _ _ hS1 (fun hHeld => ?_)
        clear hK hHeld K
        (try simp only [List.setIfInBounds_toArray, List.set_cons_zero, List.set_cons_succ])
        refine wpAnyH_ready (rs := [0]) (by kernel_rfl) (by simp) (AllReadyH.cons rfl (fun K hK => ?_) AllReadyH.nil)
        (try simp only [Act.put, List.getElem_toArray, List.getElem_cons_zero, List.setIfInBounds_toArray, List.set_cons_zero, List.set_cons_succ])
        go_simp
        refine hK.out _ _ hS1 (fun hHeld => ?_)
        clear hK hHeld K
        (try simp only [List.setIfInBounds_toArray, List.set_cons_zero])
        refine wpAnyH_ready (rs := [3]) (by kernel_rfl) (by simp) (AllReadyH.cons rfl (fun K hK => ?_) AllReadyH.nil)
        (try simp only [Act.put, List.getElem_toArray, List.getElem_cons_zero, List.getElem_cons_succ, List.setIfInBounds_toArray, List.set_cons_zero, List.set_cons_succ])
        go_simp
        refine hK.out _ _ (by rw [hS]; exact ⟨by simp [go_sem, a2], by simp [go_sem, a3]⟩) (fun hHeld => ?_)
        clear hK hHeld K
        (try simp only [List.setIfInBounds_toArray, List.set_cons_zero, List.set_cons_succ])
        refine wpAnyH_ready (rs := [10]) (by kernel_rfl) (by simp) (AllReadyH.cons rfl (fun K hK => ?_) AllReadyH.nil)
        (try simp only [Act.put, List.getElem_toArray, List.getElem_cons_zero, List.getElem_cons_succ])
        go_simp
        refine hK.out _ _ (by rw [hS]; exact ⟨by rw [World.cell?_setCell_other _ _ _ _ (by intro e; injection e; omega)]; exact a2, by rw [World.cell?_setCell_other _ _ _ _ (by intro e; injection e; omega)]; exact a3⟩) (fun hHeld => ?_)
        clear hK hHeld K
        (try simp only [List.setIfInBounds_toArray, List.set_cons_zero, List.set_cons_succ])
        refine wpAnyH_ready (rs := [11]) (by kernel_rfl) (by simp) (AllReadyH.cons rfl (fun K hK => ?_) AllReadyH.nil)
        (try simp only [Act.put, List.getElem_toArray, List.getElem_cons_zero, List.getElem_cons_succ])
        go_simp
        refine hK.out _ _ (by rw [hS]; exact ⟨a4, a5⟩) (fun hHeld => ?_)
        clear hK hHeld K
        (try simp only [List.setIfInBounds_toArray, List.set_cons_zero, List.set_cons_succ])
        refine wpAnyH_done (by kernel_rfl) ?_ _
        exact FIN
  case done =>
    rintro D xs Wr hD hS ⟨hI, hB⟩ hK
    obtain ⟨v, hv, hrow⟩ := hI.l
    have pe := parse_end bs bs.length 0 (by omega)
    have hel : endF bs 0 ≤ bs.length := pe.2 (by omega)
    have he := hI.e
    rw [hS, pe.1] at he
    have hlen : xs.length = (parse bs 0).length := by rw [← hS, List.length_map]
    have hM : Mo W Wr := Mo.of hB
    obtain ⟨A', hB', hs1, hs2⟩ := (HB.out.mo hM).drop (endF bs 0) hel
    rw [HN.out] at hs1 hs2 hel
    have NX := Lib.hid (fun w (k : Mo Wr w) => next_any A' (cap - endF bs 0) (bs.drop (endF bs 0)) (n - endF bs 0) w (by rw [List.length_drop, HN.out]) (hB'.mo k))
    have y5 := he.cell
    have i0 : (0 : Int) ≤ endF bs 0 := by omega
    obtain ⟨tl, htl⟩ : ∃ tl, takeM bs = tl := ⟨_, rfl⟩
    have TL := Lib.hid htl
    clear htl y5
    have y5 := he.cell
    go_wp2_with fail
    refine (NX.out _ (Mo.refl _)).mono ?_
    rintro e w1 ⟨rfl, M1⟩
    obtain ⟨A2, c2, rfl⟩ : ∃ A c, v = .slice A xs.length c := by
      rcases hrow.2 with ⟨rfl, h0⟩ | ⟨g, cap', cur, rfl, _⟩
      · exact ⟨none, 0, by rw [h0]⟩
      · exact ⟨_, _, rfl⟩
    have x2 := boxed_mo hv M1
    have x3 := boxed_mo hI.m M1
    have x4 := boxed_mo hI.c M1
    have x5 := boxed_mo he M1
    have row1 := owns_mo hrow M1
    have own1 := fun x hx => (⟨owns_mo (hI.own x hx).1 M1, (hI.own x hx).2⟩ : _ ∧ _)
    have hB1 := hM.trans M1
    have hD' : D < Wr.heap.size := (Array.getElem?_eq_some_iff.1 hK).1
    have hK1 := (M1.below.block D hD').trans hK
    have hle := hI.le
    have OW := Lib.hid own1
    have HBB := Lib.hid (hB'.mo M1)
    clear hv hI he hrow own1 hK hM y5 NX hB' M1 hB
    have c2' := x2.cell
    have c3 := x3.cell
    have c4 := x4.cell
    have c5 := x5.cell
    have f2 := x2.frozen
    have f3 := x3.frozen
    have f4 := x4.frozen
    obtain ⟨r, hr⟩ : ∃ r, nextM (bs.drop (endF bs 0)) = r := ⟨_, rfl⟩
    have hr' := hr
    rw [hr]
    obtain ⟨r1, r2⟩ := r
    have NR := Lib.hid hr'
    clear hr hr'
    have HS := Lib.hid hS
    have HL := Lib.hid hlen
    have PE := Lib.hid pe
    clear hS hlen pe
    by_cases e3 : r1 = 3
    · subst e3
      have hTM : takeM bs = ([], [], 8) := by
        unfold takeM
        simp only [List.length_map]
        rw [if_neg (by have := HL.out; omega), NR.out]
        rfl
      have HTM := Lib.hid hTM
      clear hTM
      go_wp2_with fail
      have z2 := ((x2.set (.slice none 0 0)).other (B' := W.heap.size + 1) (by omega) (.slice none 0 0)).other (B' := W.heap.size + 1 + 1) (by omega) (.int .i64 8)
      have z3 := ((x3.other (B' := W.heap.size) (by omega) (.slice none 0 0)).set (.slice none 0 0)).other (B' := W.heap.size + 1 + 1) (by omega) (.int .i64 8)
      have z4 := ((x4.other (B' := W.heap.size) (by omega) (.slice none 0 0)).other (B' := W.heap.size + 1) (by omega) (.slice none 0 0)).set (.int .i64 8)
      have hK2 := (((KeepsOthers.setCell w1 ⟨W.heap.size, 0, none⟩ (.slice none 0 0)).trans (KeepsOthers.setCell _ ⟨W.heap.size + 1, 0, none⟩ (.slice none 0 0))).trans (KeepsOthers.setCell _ ⟨W.heap.size + 1 + 1, 0, none⟩ (.int .i64 8))).same D _ hK1 rfl
      have hM2 := mo_setCell (mo_setCell (mo_setCell hB1 (g := W.heap.size) (by omega) 0 (.slice none 0 0)) (g := W.heap.size + 1) (by omega) 0 (.slice none 0 0)) (g := W.heap.size + 1 + 1) (by omega) 0 (.int .i64 8)
      refine take_ret _ _ _ D _ _ _ _ _ _ _ rfl rfl rfl rfl z2 z3 z4 hK2 ?_
      rw [HTM.out]
      exact ⟨_, _, rfl, extV_nil _, byteV_nil _, hM2.of_below (belowK_b (w := w) hWw.size _ D _ _ hD hK2 rfl rfl)⟩
    · by_cases e1 : r1 = 1
      · subst e1
        have hTM : takeM bs = ((parse bs 0).map fldOf, bs.drop (endF bs 0), 0) := by
          unfold takeM
          simp only [List.length_map]
          rw [if_neg (by have := HL.out; omega), NR.out]
          rfl
        have HTM := Lib.hid hTM
        clear hTM e3
        have hpos : 0 < (bs.drop (endF bs 0)).length := by
          rcases Nat.eq_zero_or_pos (bs.drop (endF bs 0)).length with h | h
          · have := NR.out
            unfold nextM at this
            rw [if_pos h] at this
            simp at this
          · exact h
        obtain ⟨g', off', rfl, -, -⟩ := HBB.out.get hpos
        have hpos' : 0 < n - endF bs 0 := by rw [List.length_drop, HN.out] at hpos; exact hpos
        have CL := Lib.hid (fun w (k : Mo w1 w) => cloneB_own ⟨g', off', none⟩ (n - endF bs 0) (cap - endF bs 0) (bs.drop (endF bs 0)) w (by rw [List.length_drop, HN.out]) (HBB.out.mo k))
        clear hpos
        go_wp2_with fail
        refine (CL.out _ (Mo.refl _)).mono ?_
        rintro e w2 ⟨v2, rfl, hv2, M2⟩
        obtain ⟨g5, c5', rfl, -, -⟩ := owns_form hv2 hpos'
        have X2 := boxed_mo x2 M2
        have X3 := boxed_mo x3 M2
        have X4 := boxed_mo x4 M2
        have R2 := owns_mo row1 M2
        have hK2 := (M2.below.block D (Array.getElem?_eq_some_iff.1 hK1).1).trans hK1
        have O2 := Lib.hid (fun x hx => (⟨owns_mo (OW.out x hx).1 M2, (OW.out x hx).2⟩ : _ ∧ _))
        have hB2 := hB1.trans M2
        have hb1 := hB1.size
        clear x2 x3 x4 x5 row1 hK1 c2' c3 c4 c5 f2 f3 f4 M2 CL hs1 hs2
        have c2' := X2.cell
        have c3 := X3.cell
        have c4 := X4.cell
        have f2 := X2.frozen
        have f3 := X3.frozen
        have f4 := X4.frozen
        go_wp2_with fail
        go_region
        go_wp2_with fail
        have hMZ : Mo W ((((w2.setCell ⟨W.heap.size + 1, 0, none⟩ (.slice (some ⟨g5, 0, none⟩) (n - endF bs 0) c5')).setCell ⟨W.heap.size, 0, none⟩ (.slice A2 xs.length c2)).setCell ⟨W.heap.size + 1, 0, none⟩ (.slice (some ⟨g5, 0, none⟩) (n - endF bs 0) c5')).setCell ⟨W.heap.size + 1 + 1, 0, none⟩ (.int .i64 0)).drew :=
          Mo.trans (mo_setCell (mo_setCell (mo_setCell (mo_setCell hB2 (g := W.heap.size + 1) (by omega) 0 (.slice (some ⟨g5, 0, none⟩) (n - endF bs 0) c5')) (g := W.heap.size) (by omega) 0 (.slice A2 xs.length c2)) (g := W.heap.size + 1) (by omega) 0 (.slice (some ⟨g5, 0, none⟩) (n - endF bs 0) c5')) (g := W.heap.size + 1 + 1) (by omega) 0 (.int .i64 0)) Mor.out
        have hZ : ∀ k, k ≠ W.heap.size → k ≠ W.heap.size + 1 → k ≠ W.heap.size + 1 + 1 → ((((w2.setCell ⟨W.heap.size + 1, 0, none⟩ (.slice (some ⟨g5, 0, none⟩) (n - endF bs 0) c5')).setCell ⟨W.heap.size, 0, none⟩ (.slice A2 xs.length c2)).setCell ⟨W.heap.size + 1, 0, none⟩ (.slice (some ⟨g5, 0, none⟩) (n - endF bs 0) c5')).setCell ⟨W.heap.size + 1 + 1, 0, none⟩ (.int .i64 0)).drew.heap[k]? = w2.heap[k]? := fun k k2 k3 k4 => by
          show (World.setCell _ _ _).heap[k]? = _
          rw [Below.heap_setCell _ _ _ _ k4, Below.heap_setCell _ _ _ _ k3, Below.heap_setCell _ _ _ _ k2, Below.heap_setCell _ _ _ _ k3]
        have hDn := hWw.size
        have Dne : ∀ (B : Nat) (t : TypeId) (u : Value), Boxed w2 B t u → D ≠ B := fun B t u hb e => by
          subst e
          rw [show w2.heap[D]? = _ from hb] at hK2
          cases hK2
        have hK3 := (hZ D (Dne _ _ _ X2) (Dne _ _ _ X3) (Dne _ _ _ X4)).trans hK2
        have z2 := (((X2.other (B' := W.heap.size + 1) (by omega) (.slice (some ⟨g5, 0, none⟩) (n - endF bs 0) c5')).set (.slice A2 xs.length c2)).other (B' := W.heap.size + 1) (by omega) (.slice (some ⟨g5, 0, none⟩) (n - endF bs 0) c5')).other (B' := W.heap.size + 1 + 1) (by omega) (.int .i64 0)
        have z3 := (((X3.set (.slice (some ⟨g5, 0, none⟩) (n - endF bs 0) c5')).other (B' := W.heap.size) (by omega) (.slice A2 xs.length c2)).set (.slice (some ⟨g5, 0, none⟩) (n - endF bs 0) c5')).other (B' := W.heap.size + 1 + 1) (by omega) (.int .i64 0)
        have z4 := (((X4.other (B' := W.heap.size + 1) (by omega) (.slice (some ⟨g5, 0, none⟩) (n - endF bs 0) c5')).other (B' := W.heap.size) (by omega) (.slice A2 xs.length c2)).other (B' := W.heap.size + 1) (by omega) (.slice (some ⟨g5, 0, none⟩) (n - endF bs 0) c5')).set (.int .i64 0)
        have hl2 : (bs.drop (endF bs 0)).length = n - endF bs 0 := by rw [List.length_drop, HN.out]
        obtain ⟨F1, F2, F3⟩ := take_fin (m := bs.drop (endF bs 0)) X2 X3 X4 R2 O2.out hle (by rw [hl2]; exact owns_base hv2 (by omega)) HBB.out.lim HBB.out.byte hZ hMZ hD hDn hK3
        refine take_ret _ _ _ D _ _ _ _ _ _ _ rfl rfl rfl rfl z2 z3 z4 hK3 ?_
        rw [HTM.out]
        exact ⟨_, _, rfl, by rw [← HS.out, List.map_map]; exact F1, F2, F3⟩
      · have hTM : takeM bs = ((parse bs 0).map fldOf, [], 0) := by
          unfold takeM
          simp only [List.length_map]
          rw [if_neg (by have := HL.out; omega), NR.out, if_neg e3, if_neg e1]
        have HTM := Lib.hid hTM
        have d3 : (r1 == 3) = false := by simp [e3]
        have d1 : (r1 == 1) = false := by simp [e1]
        clear hTM e3 e1
        go_wp2_with fail
        go_region
        go_wp2_with fail
        have hMZ : Mo W (((w1.setCell ⟨W.heap.size, 0, none⟩ (.slice A2 xs.length c2)).setCell ⟨W.heap.size + 1, 0, none⟩ (.slice none 0 0)).setCell ⟨W.heap.size + 1 + 1, 0, none⟩ (.int .i64 0)).drew :=
          Mo.trans (mo_setCell (mo_setCell (mo_setCell hB1 (g := W.heap.size) (by omega) 0 (.slice A2 xs.length c2)) (g := W.heap.size + 1) (by omega) 0 (.slice none 0 0)) (g := W.heap.size + 1 + 1) (by omega) 0 (.int .i64 0)) Mor.out
        have hZ : ∀ k, k ≠ W.heap.size → k ≠ W.heap.size + 1 → k ≠ W.heap.size + 1 + 1 → (((w1.setCell ⟨W.heap.size, 0, none⟩ (.slice A2 xs.length c2)).setCell ⟨W.heap.size + 1, 0, none⟩ (.slice none 0 0)).setCell ⟨W.heap.size + 1 + 1, 0, none⟩ (.int .i64 0)).drew.heap[k]? = w1.heap[k]? := fun k k2 k3 k4 => by
          show (World.setCell _ _ _).heap[k]? = _
          rw [Below.heap_setCell _ _ _ _ k4, Below.heap_setCell _ _ _ _ k3, Below.heap_setCell _ _ _ _ k2]
        have hDn := hWw.size
        have Dne : ∀ (B : Nat) (t : TypeId) (u : Value), Boxed w1 B t u → D ≠ B := fun B t u hb e => by
          subst e
          rw [show w1.heap[D]? = _ from hb] at hK1
          cases hK1
        have hK3 := (hZ D (Dne _ _ _ x2) (Dne _ _ _ x3) (Dne _ _ _ x4)).trans hK1
        have z2 := ((x2.set (.slice A2 xs.length c2)).other (B' := W.heap.size + 1) (by omega) (.slice none 0 0)).other (B' := W.heap.size + 1 + 1) (by omega) (.int .i64 0)
        have z3 := ((x3.other (B' := W.heap.size) (by omega) (.slice A2 xs.length c2)).set (.slice none 0 0)).other (B' := W.heap.size + 1 + 1) (by omega) (.int .i64 0)
        have z4 := ((x4.other (B' := W.heap.size) (by omega) (.slice A2 xs.length c2)).other (B' := W.heap.size + 1) (by omega) (.slice none 0 0)).set (.int .i64 0)
        obtain ⟨F1, F2, F3⟩ := take_fin (m := []) x2 x3 x4 row1 OW.out hle (World.ownsRow_nil _ _ _ _) (by simp) (by simp) hZ hMZ hD hDn hK3
        refine take_ret _ _ _ D _ _ _ _ _ _ _ rfl rfl rfl rfl z2 z3 z4 hK3 ?_
        rw [HTM.out]
        exact ⟨_, _, rfl, by rw [← HS.out, List.map_map]; exact F1, F2, F3⟩
  case stop =>
    rintro D c pre Wr hD ⟨r, hr⟩ ⟨hX, hB⟩ hK
    obtain rfl := hX.ret
    have hTM : takeM bs = ([], [], 3) := by
      unfold takeM
      simp only [List.length_map]
      rw [if_pos (by rw [← hr, List.length_append, List.length_map, hX.len]; omega)]
    have HTM := Lib.hid hTM
    clear hTM
    gi_wp2
    refine take_ret _ _ _ D _ _ _ _ _ _ _ rfl rfl rfl rfl hX.l hX.m hX.c hK ?_
    rw [HTM.out]
    exact ⟨_, _, rfl, extV_nil _, byteV_nil _, (Mo.of hB).of_below (belowK_b (w := w) hWw.size _ D _ _ hD hK rfl rfl)⟩
end Go.Proofs.Ytcflebggepmmcaa
