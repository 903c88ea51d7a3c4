/- horologelaw21.ExtTakes: the walk. -/
import Derived.Test.YtbndcopeaaifdaaExtW
import Derived.Test.YtbndcopeaaifdaaExtG
import Derived.Test.YtbndcopeaaifdaaExtI
import Derived.Deep.DeepCutAuto
namespace Go.Proofs.Ytbndcopeaaifdaa
open Go.RowKit Go.Shelf
attribute [local go_sem] Oper.semAt_some
theorem takeM_want {bs : List Int} {am : Bool} {N : Nat} {w0 wt : Int} (ha : decide ((nextM (tailOf bs)).1 = 3) = am) (hN : (parse bs 0).length = N) (h0 : (if am = true then (8 : Int) else 0) = w0) (hw : (if 32 < N then (3 : Int) else w0) = wt) :
    (wt = 0 ∧ takeM bs = ((parse bs 0).map fldOf, macM bs, 0) ∧ N ≤ 32) ∨ (wt ≠ 0 ∧ takeM bs = ([], [], wt)) := by
  have e : (nextM (bs.drop (endF bs 0))).1 = (nextM (tailOf bs)).1 := rfl
  by_cases c : 32 < N
  · rw [if_pos c] at hw
    refine .inr ⟨by omega, ?_⟩
    unfold takeM
    simp only [List.length_map]
    rw [if_pos (by omega), hw]
  · rw [if_neg c] at hw
    cases am
    · have h3 : ¬ (nextM (tailOf bs)).1 = 3 := of_decide_eq_false ha
      rw [if_neg (by simp)] at h0
      refine .inl ⟨by omega, takeM_val (takeM_ok.2 ⟨by omega, by rw [e]; exact h3⟩), by omega⟩
    · have h3 : (nextM (tailOf bs)).1 = 3 := of_decide_eq_true ha
      rw [if_pos rfl] at h0
      refine .inr ⟨by omega, ?_⟩
      unfold takeM
      simp only [List.length_map]
      rw [if_neg (by omega), if_pos (by rw [e]; exact h3)]
      rw [← hw, ← h0]
/-- one of the fields: l[q:q+1] -/
theorem sizeE (w : World) : (sizeOf (Try.prog.elem 22)).run Try.prog w = .ok 2 w := rfl
theorem ExtS.one {W : World} {A : Option Addr} {cap : Nat} {l : List Fld} (h : ExtS W A cap l) (q : Nat) (hq : q < l.length) :
    ∃ A', ExtS W A' (cap - q) [l[q]] ∧ (∀ w : World, (Instr.slice 22 (.slice A l.length cap) (some (.int .i64 (q : Int))) (some (.int .i64 ((q : Int) + 1))) none).run Try.prog w = .ok (.slice A' 1 (cap - q)) w) := by
  have hle := h.le
  have hlim := h.lim
  have h1 : ∀ w : World, (Instr.slice 22 (.slice A l.length cap) (some (.int .i64 (q : Int))) (some (.int .i64 ((q : Int) + 1))) none).run Try.prog w = .ok (sliced A q (q + 1) cap 2) w := fun w => by
    have := run_slice_lh (P := Try.prog) w 22 A l.length cap Try.underlying22 .i64 .i64 q (q + 1) (by omega) (by omega) (by omega)
    rw [sizeE] at this
    exact this
  obtain ⟨g, off, rfl, LG, hc⟩ := h.get (by omega)
  obtain ⟨a, n, c, k1, k2, k3, k4, k5, k6⟩ := hc q hq
  unfold sliced at h1
  rw [if_neg (show ¬ cap = q by omega), show q + 1 - q = 1 by omega] at h1
  refine ⟨_, ⟨by simp; omega, by simp, fun e => (by cases e), .inr ⟨g, off + q * 2, ?_, fun i hi => ?_⟩⟩, h1⟩
  · show some ((⟨g, off, none⟩ : Addr).add (q * 2)) = _
    rw [Go.WideShapes.add_plain]
  · obtain rfl : i = 0 := by simpa using hi
    simp only [Nat.zero_mul, Nat.add_zero, List.getElem_cons_zero]
    exact ⟨k1, k2, k3, _, k4, a, c, by rw [k5], k6⟩
structure WalkI (b Bn : Nat) (sl : Value) (left : Int) (pre : List Itm) (W : World) : Prop where
  n : Boxed W b 3 (.int .i64 pre.length)
  s : Boxed W Bn 23 sl
  c : pre.length = 0 ∨ (pre.length : Int) < left
theorem WalkI.cel {b Bn : Nat} {sl : Value} {left : Int} {pre : List Itm} {W W' : World} (h : WalkI b Bn sl left pre W) (k : Cel W W') : WalkI b Bn sl left pre W' := ⟨boxed_cel h.n k, boxed_cel h.s k, h.c⟩
structure WalkX (b : Nat) (left : Int) (c : Code) (pre : List Itm) (W : World) : Prop where
  c : c = .exit 0
  n : Boxed W b 3 (.int .i64 pre.length)
  k : 0 < pre.length ∧ left ≤ pre.length ∧ (pre.length = 1 ∨ (pre.length : Int) ≤ left)
theorem WalkX.cel {b : Nat} {left : Int} {c : Code} {pre : List Itm} {W W' : World} (h : WalkX b left c pre W) (k : Cel W W') : WalkX b left c pre W' := ⟨h.c, boxed_cel h.n k, h.k⟩
structure WalkA (V : World) (bs : List Int) (pre : List Itm) (x : Itm) (Bx : Nat) (W : World) : Prop where
  box : Blk W Bx 43 #[.int .u16 x.fe.kind, x.u]
  own : W.ownsRow V.heap.size 5 1 x.u x.fe.val.length (byteL x.fe.val)
  ok : ItmOk x
  more : ∃ r, pre.map Itm.fe ++ x.fe :: r = parse bs 0
theorem WalkA.cel {V : World} {bs : List Int} {pre : List Itm} {x : Itm} {Bx : Nat} {W W' : World} (h : WalkA V bs pre x Bx W) (k : Cel W W') : WalkA V bs pre x Bx W' := ⟨⟨k.2 _ _ _ _ h.box.out⟩, owns_cel h.own k, h.ok, h.more⟩
theorem takes_ret {R : Ending → World → Prop} {a : Act} {w : World} (b4 D : Nat)
    (h4 : a.tmps.getD 4 undef = .pointer (some ⟨b4, 0, none⟩)) (hd : a.defers = [{ target := Target.collected D, args := #[] }])
    (x4 : Boxed w b4 4 (.bool true)) (hK : w.heap[D]? = some (.deferred (some [])))
    (hR : R (.returned (.bool true)) (w.putObj D (.deferred none))) : bodyPostM Fence.wide 6 Try.prog Try.f4 R .ret a w := by
  have y4 := (x4.kept (grownBy_putObj' w D (.deferred none)) (fun e => by
    obtain rfl : b4 = D := by simpa using e
    rw [show w.heap[b4]? = _ from x4] at hK; cases hK)).cell
  obtain ⟨tm, df⟩ := a
  simp only at h4 hd
  subst hd
  refine ⟨by simp, .inl ⟨_, _, rfl, run_takeDeferred hK, ?_⟩⟩
  refine ⟨.bool true, ?_, hR⟩
  have k4 : tm[4]?.getD undef = .pointer (some ⟨b4, 0, none⟩) := by simpa using h4
  simp [results, Try.results4, go_sem, k4, y4]
theorem boxed_of {w : World} {g : Nat} {t : TypeId} {v : Value} (h : Blk w g t #[v]) : Boxed w g t v := h.out
set_option maxRecDepth 20000 in
set_option maxHeartbeats 8000000 in
theorem takes21_any (A : Option Addr) (n cap : Nat) (bs : List Int) (left : Int) (W : World) (hl1 : -9223372036854775808 ≤ left) (hl2 : left ≤ 9223372036854775807) (hn : bs.length = n) (h : ByteS W A cap bs) :
    Calls Try.prog 4 #[.slice A n cap, .int .i64 left] W fun e w' => e = .returned (.bool true) ∧ Mo W w' := by
  have WK := Lib.hid works_any
  have HN := Lib.hid hn
  have HB := Lib.hid h
  have hlim := h.lim
  rw [hn] at hlim
  clear hn h
  refine (callsIn_wide (n := 6)).1 ?_
  refine callsIn_of_wp_marks Try.func4 rfl trivial ?_ rfl
  simp only [Try.ntmps4, List.size_toArray, List.length_cons, List.length_nil, Nat.reduceAdd, Nat.reduceSub, Array.replicate_succ, Array.replicate_zero, List.push_toArray, List.append_toArray, List.nil_append, List.cons_append]
  refine wpIn_wide.2 ?_
  by_cases cn : 5000 < n
  · have cn' : (5000 : Int) < n := by omega
    go_wp2_with fail
    refine (WK.out _).mono ?_
    rintro e w1 ⟨rfl, M1⟩
    have B1 : Blk w1 (W.heap.size + 1) 4 #[.bool false] := M1.blk inferInstance
    have b1 : w1.cell? ⟨W.heap.size + 1, 0, none⟩ = some (.bool false) := by rw [blk_cell B1]; rfl
    have b2 := blk_frozen B1 0
    go_wp2_with fail
    exact ⟨.bool true, by simp [results, Try.results4, go_sem, b1], rfl, mo_setCell (Mo.trans (Mor.out : Mo W _) M1) (by omega) _ _⟩
  · have cn' : ¬ (5000 : Int) < n := by omega
    go_wp2_with fail
    refine (WK.out _).mono ?_
    rintro e w1 ⟨rfl, M1⟩
    have B0 : Blk w1 W.heap.size 3 #[.int .i64 left] := M1.blk inferInstance
    have B1 : Blk w1 (W.heap.size + 1) 4 #[.bool false] := M1.blk inferInstance
    have MW := Mo.trans (Mor.out : Mo W _) M1
    have RD := Lib.hid (fun w (k : Mo W w) => read_any A cap n bs w HN.out (HB.out.mo k) (by omega))
    clear M1
    go_wp2_with fail
    refine (RD.out _ MW).mono ?_
    rintro e w2 ⟨D1, d1, D2, d2, D3, d3, q3, rfl, x1, x2, x3, M2⟩
    have B0 := M2.blk B0
    have B1 := M2.blk B1
    have MW2 := MW.trans M2
    obtain ⟨am, ham⟩ : ∃ am : Bool, decide ((nextM (tailOf bs)).1 = 3) = am := ⟨_, rfl⟩
    obtain ⟨N, hN⟩ : ∃ N : Nat, (parse bs 0).length = N := ⟨_, rfl⟩
    rw [ham]
    rw [hN] at x1 x2 ⊢
    have HA := Lib.hid ham
    have HNN := Lib.hid hN
    have HX1 := Lib.hid x1
    have HX2 := Lib.hid x2
    have HX3 := Lib.hid x3
    clear ham hN x1 x2 x3 RD MW M2
    go_upto_if 24 with (fail)
    refine wp_name ?_
    intro V hV
    have MV : Mo w2 V := by rw [hV]; exact Mor.out
    have B2 : Blk V w2.heap.size 33 #[.slice D1 N d1, .slice D2 N d2, .slice D3 q3 d3, .bool am] := by rw [hV]; infer_instance
    clear hV
    have B0 := MV.blk B0
    have B1 := MV.blk B1
    have MWV := MW2.trans MV
    have t0 : V.cell? ⟨w2.heap.size, 0, none⟩ = some (.slice D1 N d1) := by rw [blk_cell B2]; rfl
    have t1 : V.cell? ⟨w2.heap.size, 1, none⟩ = some (.slice D2 N d2) := by rw [blk_cell B2]; rfl
    have t2 : V.cell? ⟨w2.heap.size, 2, none⟩ = some (.slice D3 q3 d3) := by rw [blk_cell B2]; rfl
    obtain ⟨w0, hw0⟩ : ∃ w0 : Int, (if am = true then (8 : Int) else 0) = w0 := ⟨_, rfl⟩
    obtain ⟨wt, hwt⟩ : ∃ wt : Int, (if 32 < N then (3 : Int) else w0) = wt := ⟨_, rfl⟩
    go_cut [6] from 13 to 111 (fun s6 wx => s6 = .int .i64 w0 ∧ V = wx)
    case first =>
      cases am
      · subst hw0
        go_wp2_with fail
        go_meet
        exact ⟨rfl, rfl⟩
      · subst hw0
        go_wp2_with fail
        go_meet
        exact ⟨rfl, rfl⟩
    obtain ⟨rfl, rfl⟩ := hcut
    go_upto_if 28 with (fail)
    go_cut [6] from 13 to 111 (fun s6 wx => s6 = .int .i64 wt ∧ V = wx)
    case first =>
      by_cases c : 32 < N
      · rw [if_pos c] at hwt
        subst hwt
        have c' : (32 : Int) < N := by omega
        go_wp2_with fail
        go_meet
        exact ⟨rfl, rfl⟩
      · rw [if_neg c] at hwt
        subst hwt
        have c' : ¬ (32 : Int) < N := by omega
        go_wp2_with fail
        go_meet
        exact ⟨rfl, rfl⟩
    obtain ⟨rfl, rfl⟩ := hcut
    have TC := Lib.hid (takeM_want HA.out HNN.out hw0 hwt)
    have TK := Lib.hid (fun w (k : Mo V w) => take_any A cap n bs w HN.out (HB.out.mo (MWV.trans k)))
    clear hw0 hwt
    go_wp2_with fail
    refine (TK.out _ (Mo.refl _)).mono ?_
    rintro e w3 ⟨v3, v4, rfl, ⟨A3, c3, rfl, hv3⟩, ⟨A4, c4, rfl, hv4⟩, M3⟩
    have e0 : (takeM bs).2.2 = wt := by
      rcases TC.out with ⟨h1, h2, _⟩ | ⟨_, h2⟩
      · rw [h2, h1]
      · rw [h2]
    obtain ⟨n3, hn3⟩ : ∃ n, (takeM bs).1.length = n := ⟨_, rfl⟩
    obtain ⟨n4, hn4⟩ : ∃ n, (takeM bs).2.1.length = n := ⟨_, rfl⟩
    rw [e0, hn3, hn4]
    have H3 := Lib.hid hn3
    have H4 := Lib.hid hn4
    clear hn3 hn4 e0
    have B2 := M3.blk B2
    have B1 := M3.blk B1
    have B0 := M3.blk B0
    have MW3 := MWV.trans M3
    have t0 : w3.cell? ⟨w2.heap.size, 0, none⟩ = some (.slice D1 N d1) := by rw [blk_cell B2]; rfl
    have t1 : w3.cell? ⟨w2.heap.size, 1, none⟩ = some (.slice D2 N d2) := by rw [blk_cell B2]; rfl
    have t2 : w3.cell? ⟨w2.heap.size, 2, none⟩ = some (.slice D3 q3 d3) := by rw [blk_cell B2]; rfl
    have M23 := MV.trans M3
    clear MWV MV MW2
    go_upto_region 10 with (fail)
    go_cut [68] from 13 to 111 (fun s68 wx => s68 = .bool false ∧ Mo w3 wx)
    case first =>
      rcases TC.out with ⟨rfl, ht, hN⟩ | ⟨hw, ht⟩
      · clear TC TK
        rw [ht] at hv3 hv4 H3 H4
        have hx1 : ExtV w3 (.slice D1 N d1) ((parse bs 0).map fldOf) := HX1.out.mo M23
        have hx3 : ByteV w3 (.slice D3 q3 d3) (macM bs) := HX3.out.mo M23
        obtain ⟨A5, c5, e5, hx1⟩ := hx1
        obtain ⟨A6, c6, e6, hx3⟩ := hx3
        obtain ⟨rfl, h5, rfl⟩ : D1 = A5 ∧ N = ((parse bs 0).map fldOf).length ∧ d1 = c5 := by simpa using e5
        obtain ⟨rfl, h6, rfl⟩ : D3 = A6 ∧ q3 = (macM bs).length ∧ d3 = c6 := by simpa using e6
        have RS := Lib.hid (fun w (k : Mo w3 w) => refSame_any A3 D1 n3 N c3 d1 ((parse bs 0).map fldOf) ((parse bs 0).map fldOf) w H3.out h5.symm (hv3.mo k) (hx1.mo k))
        have s1 : ∀ w (k : Mo w3 w), (convert 23 9 (.slice A4 n4 c4)).run Try.prog w = .ok (.string (strOfNums (macM bs))) w := fun w k => str_conv (hv4.mo k) H4.out
        have s2 : ∀ w (k : Mo w3 w), (convert 23 9 (.slice D3 q3 d3)).run Try.prog w = .ok (.string (strOfNums (macM bs))) w := fun w k => str_conv (hx3.mo k) h6.symm
        have S1 := Lib.hid s1
        have S2 := Lib.hid s2
        clear s1 s2 h5 h6 e5 e6 ht hN hx1 hx3 hv3 hv4
        go_wp2_with fail
        refine (RS.out _ (Mo.refl _)).mono ?_
        rintro e w4 ⟨rfl, M4⟩
        have B2' := M4.blk B2
        have t2' : w4.cell? ⟨w2.heap.size, 2, none⟩ = some (.slice D3 q3 d3) := by rw [blk_cell B2']; rfl
        have s1 : (convert 23 9 (.slice A4 n4 c4)).run Try.prog w4 = .ok (.string (strOfNums (macM bs))) w4 := S1.out _ M4
        have s2 : (convert 23 9 (.slice D3 q3 d3)).run Try.prog w4 = .ok (.string (strOfNums (macM bs))) w4 := S2.out _ M4
        generalize strOfNums (macM bs) = sm at s1 s2
        clear S1 S2 RS
        go_wp2_with fail
        go_meet
        exact ⟨rfl, M4⟩
      · have d0 : (wt == 0) = false := by simp [hw]
        have d1 : (wt != 0) = true := by simp [hw]
        clear hw
        obtain rfl : n3 = 0 := by rw [← H3.out, ht]; rfl
        obtain rfl : n4 = 0 := by rw [← H4.out, ht]; rfl
        clear ht
        go_wp2_with fail
        go_meet
        exact ⟨rfl, Mor.out⟩
    obtain ⟨rfl, MZ⟩ := hcut
    clear TC TK hv3 hv4 H3 H4 t0 t1 t2
    go_wp2_with fail
    refine (walk_any _ _ _ _).mono ?_
    rintro e w' ⟨rfl, rfl⟩
    go_wp2_with fail
    -- RANGE
    obtain ⟨w, hw⟩ : ∃ w, (wc.alloc (.cells #[.int .i64 0] 3)).alloc (.cells #[.slice A n cap] 23) = w := ⟨_, rfl⟩
    have x1 : Boxed w wc.heap.size 3 (.int .i64 0) := by rw [← hw]; exact (inferInstance : Blk _ _ _ _).out
    have xn : Boxed w (wc.heap.size + 1) 23 (.slice A n cap) := by rw [← hw]; exact (inferInstance : Blk _ _ _ _).out
    have hMw : Mo wc w := by rw [← hw]; exact Mor.out
    rw [hw]
    clear hw
    have MWc := MW3.trans MZ
    have Bc2 := MZ.blk B2
    have Bc1 := MZ.blk B1
    have Bc0 := MZ.blk B0
    have Mc := M23.trans MZ
    clear B2 B1 B0 MW3 M23 MZ M3
    refine (wpIn_wide (n := 6)).1 ?_
    refine wpIn_range_px (F := Fence.wide) (n := 6) (w0 := w) rfl (by omega) (gf := 23) (lb := #[.pointer (some ⟨wc.heap.size + 1, 0, none⟩)]) rfl trivial (enters_of Try.func23 (by kernel_rfl) rfl)
      (walk_seq 5 _ wc w A cap n bs HN.out (HB.out.mo MWc) hMw xn) KpB.trans (KpB.put hMw.size) (Below.refl _ _) (fun _ => rfl)
      (fun pre W' => WalkI wc.heap.size (wc.heap.size + 1) (.slice A n cap) left pre W' ∧ Below wc.heap.size wc W')
      (fun c pre W' => WalkX wc.heap.size left c pre W' ∧ Below wc.heap.size wc W')
      (OwnFrom.and (ownFrom_cel fun _ _ _ h k => h.cel k) (ownFrom_below (Nat.le_refl _) hMw.size))
      (fun c => OwnFrom.and (ownFrom_cel fun _ _ _ h k => h.cel k) (ownFrom_below (Nat.le_refl _) hMw.size))
      ⟨⟨x1, xn, .inl rfl⟩, hMw.below⟩
      (fun pre x a' W' => ∃ Bx, WalkA wc bs pre x Bx W' ∧ a' = (⟨#[.slice A n cap, .int .i64 left, undef, .pointer (some ⟨W.heap.size, 0, none⟩), .pointer (some ⟨W.heap.size + 1, 0, none⟩), .pointer (some ⟨w2.heap.size, 0, none⟩), .int .i64 wt, .slice A3 n3 c3, .slice A4 n4 c4, .int .i64 wt, .pointer (some ⟨wc.heap.size, 0, none⟩), .int .i64 x.fe.at_, .pointer (some ⟨Bx, 0, none⟩), u13, u14, u15, u16, u17, u18, u19, u20, u21, u22, u23, u24, u25, u26, u27, u28, u29, u30, u31, u32, u33, u34, u35, u36, u37, u38, u39, u40, u41, u42, u43, u44, u45, u46, u47, u48, u49, u50, u51, u52, u53, u54, u55, u56, u57, u58, u59, u60, u61, u62, u63, u64, u65, u66, u67, .bool false, .slice A n cap, .func (.func 23) #[] #[.pointer (some ⟨wc.heap.size + 1, 0, none⟩)], .int .i64 x.fe.at_, .agg #[.int .u16 x.fe.kind, x.u], u73, u74, u75, u76, u77, u78, u79, u80, u81, u82, u83, u84, u85, u86, u87, u88, u89, u90, u91, u92, u93, u94, u95, u96, u97, u98, u99, u100, u101, u102, u103, u104, u105, u106, u107, u108, u109, u110, u111], []⟩ : Act))
      (fun pre x a' => ownFrom_cel fun _ _ _ ⟨Bx, h, e⟩ k => ⟨Bx, h.cel k, e⟩)
      ?assign ?body ?done ?stop
    case assign =>
      rintro l pre ⟨⟨a, k, vs⟩, u⟩ Wr K ⟨hI, hB⟩ hP hK
      have hvl : 12 ≤ vs.length := hP.ok.vl
      have hown : Wr.ownsRow wc.heap.size 5 1 u vs.length (byteL vs) := hP.own
      obtain ⟨g6, c6, rfl, hg3, hl3⟩ := owns_form hown (by omega)
      have hok := hP.ok
      have hmore := hP.more
      clear hP
      dsimp only [itmV]
      gi_wp2
      exact hK _ _ ((KeepsOthers.alloc _ _).from _) ⟨(Below.refl _ Wr).alloc hB.size _, fun v hv => hv.alloc _⟩ ⟨hI.cel (Cel.alloc _ _), hB.alloc hB.size _⟩ ⟨Wr.heap.size, ⟨⟨heap_alloc_new _ _⟩, owns_cel hown (Cel.alloc _ _), hok, hmore⟩, rfl⟩
    case body =>
      rintro l pre x a' Wr hl ⟨r, hr⟩ ⟨hI, hB⟩ ⟨Bx, hA, rfl⟩ hlt
      clear hr
      obtain ⟨q, hq⟩ : ∃ q, pre.length = q := ⟨_, rfl⟩
      have HQ := Lib.hid hq
      have hM : Mo wc Wr := Mo.of hB
      have C2 := hM.blk Bc2
      have C0 := hM.blk Bc0
      have E1 : ExtV Wr (.slice D1 N d1) ((parse bs 0).map fldOf) := HX1.out.mo (Mc.trans hM)
      have R2 := owns_mo HX2.out (Mc.trans hM)
      have hn := hI.n
      have hcnd := hI.c
      have hsl := hI.s
      rw [hq] at hn hcnd hlt
      rw [HNN.out] at hlt
      obtain ⟨hbx, hown, hok, hmore⟩ := hA
      obtain ⟨rr, hmore⟩ := hmore
      have hpq : (parse bs 0)[q]? = some x.fe := by
        rw [← hmore, ← hq]
        simp
      have hNq : q < (parse bs 0).length := by rw [HNN.out]; exact hlt
      have hpq' : (parse bs 0)[q] = x.fe := by
        rw [List.getElem?_eq_getElem hNq] at hpq
        exact Option.some.inj hpq
      obtain ⟨g2, cap2, e2, -, hg2⟩ := owns_form R2 (by omega)
      obtain ⟨rfl, rfl⟩ : D2 = some ⟨g2, 0, none⟩ ∧ d2 = cap2 := by simpa using e2
      have y3 : Wr.cell? ⟨g2, q, none⟩ = some (.int .i64 x.fe.at_) := by
        have h := R2.cells (g := g2) rfl q (.int .i64 x.fe.at_) (by unfold atL; rw [List.getElem?_map, hpq]; rfl)
        rwa [show (⟨g2, 0, none⟩ : Addr).add q = ⟨g2, q, none⟩ by rw [Addr.add_mid, Nat.zero_add]] at h
      obtain ⟨A5, c5, e5, E1⟩ := E1
      obtain ⟨rfl, h5, rfl⟩ : D1 = A5 ∧ N = ((parse bs 0).map fldOf).length ∧ d1 = c5 := by simpa using e5
      obtain ⟨A7, P1, hsl1⟩ := E1.one q (by rw [← h5]; exact hlt)
      rw [← h5] at hsl1
      rw [List.getElem_map, hpq'] at P1
      have hbv := owns_byteS hown hok.vu hok.byte
      have RS := Lib.hid (fun w g (k : Mo Wr w) (b : Blk w g 43 #[.int .u16 x.fe.kind, x.u]) => refSame_any (some ⟨g, 0, none⟩) A7 1 1 1 (d1 - q) [fldOf x.fe] [fldOf x.fe] w rfl rfl (extS_one b hok.kl hok.ku (hbv.mo k)) (P1.mo k))
      have y0 := hn.cell
      have z0 := hn.frozen
      have y1 : Wr.cell? ⟨w2.heap.size, 0, none⟩ = some (.slice D1 N d1) := by rw [blk_cell C2]; rfl
      have y2 : Wr.cell? ⟨w2.heap.size, 1, none⟩ = some (.slice (some ⟨g2, 0, none⟩) N d2) := by rw [blk_cell C2]; rfl
      have y4 : Wr.cell? ⟨Bx, 0, none⟩ = some (.int .u16 x.fe.kind) := by rw [blk_cell hbx]; rfl
      have y5 : Wr.cell? ⟨Bx, 1, none⟩ = some x.u := by rw [blk_cell hbx]; rfl
      have y6 : Wr.cell? ⟨W.heap.size, 0, none⟩ = some (.int .i64 left) := by rw [blk_cell C0]; rfl
      have i0 : (0 : Int) ≤ q := by omega
      have i1 : (q : Int) < N := by omega
      have hNl : N ≤ 140737488355328 := by
        have := E1.lim
        rw [← h5] at this
        omega
      have j0 : decide ((N : Int) ≤ q) = false := decide_eq_false (by omega)
      have j1 : IntKind.i64.wrap ((q : Int) + 1) = q + 1 := by rw [IntKind.wrap_i64]; omega
      have Lw2 : LtW w2.heap.size Wr := LtW.of_cell y1
      have LBx : LtW Bx Wr := LtW.of_cell y4
      have Lg2 : LtW g2 Wr := LtW.of_cell y3
      have Lwc : LtW wc.heap.size Wr := LtW.of_cell y0
      have LW : LtW W.heap.size Wr := LtW.of_cell y6
      have HSL := Lib.hid hsl
      have HOW := Lib.hid hown
      clear hmore hpq hpq' hNq e2 e5 E1 P1 hbv R2 hq hI hown h5 hsl
      have hmix : Try.prog.follows .mixedOrders = true := by kernel_rfl
      obtain ⟨S, hS⟩ : ∃ S : World → Prop, S = fun w' => w'.cell? ⟨wc.heap.size, 0, none⟩ = some (.int .i64 q) ∧ w'.cell? ⟨w2.heap.size, 0, none⟩ = some (.slice D1 N d1) ∧ w'.cell? ⟨w2.heap.size, 1, none⟩ = some (.slice (some ⟨g2, 0, none⟩) N d2) ∧ w'.cell? ⟨g2, q, none⟩ = some (.int .i64 x.fe.at_) ∧ w'.cell? ⟨Bx, 0, none⟩ = some (.int .u16 x.fe.kind) ∧ w'.cell? ⟨Bx, 1, none⟩ = some x.u := ⟨_, rfl⟩
      have hS0 : S Wr.drew := by rw [hS]; exact ⟨by simp [go_sem, y0], by simp [go_sem, y1], by simp [go_sem, y2], by simp [go_sem, y3], by simp [go_sem, y4], by simp [go_sem, y5]⟩
      gi_wp2
      refine wpIn_region_round (S := S) hmix (by kernel_rfl) (fun ⟨_, _, h⟩ => h) ?_
      simp only [List.size_toArray, List.length_cons, List.length_nil, Nat.reduceAdd, Array.replicate_succ, Array.replicate_zero, List.push_toArray, List.nil_append, List.cons_append]
      refine wpAnyH_take (i := 0) (v := ?_) rfl (by kernel_rfl) (by kernel_rfl) (by kernel_rfl) (fun _ _ _ h => h) (Or.inl ⟨by rfl, ?_⟩) hS0 ?_
      rotate_left
      · intro w hSw
        rw [hS] at hSw
        obtain ⟨e0, e1, e2, e3, e4, e5⟩ := hSw
        go_simp
        with_reducible rfl
      (try simp only [Act.put, List.getElem_toArray, List.getElem_cons_zero, List.setIfInBounds_toArray, List.set_cons_zero, List.set_cons_succ])
      refine wpAnyH_take (i := 1) (v := ?_) rfl (by kernel_rfl) (by kernel_rfl) (by kernel_rfl) (fun _ _ _ h => h) (Or.inl ⟨by rfl, ?_⟩) hS0 ?_
      rotate_left
      · intro w hSw
        rw [hS] at hSw
        obtain ⟨e0, e1, e2, e3, e4, e5⟩ := hSw
        go_simp
        with_reducible rfl
      (try simp only [Act.put, List.getElem_toArray, List.getElem_cons_zero, List.getElem_cons_succ, List.setIfInBounds_toArray, List.set_cons_zero, List.set_cons_succ])
      refine wpAnyH_take (i := 2) (v := ?_) rfl (by kernel_rfl) (by kernel_rfl) (by kernel_rfl) (fun _ _ _ h => h) (Or.inl ⟨by rfl, ?_⟩) hS0 ?_
      rotate_left
      · intro w hSw
        rw [hS] at hSw
        obtain ⟨e0, e1, e2, e3, e4, e5⟩ := hSw
        go_simp
        with_reducible rfl
      (try simp only [Act.put, List.getElem_toArray, List.getElem_cons_zero, List.getElem_cons_succ, List.setIfInBounds_toArray, List.set_cons_zero, List.set_cons_succ])
      refine wpAnyH_take (i := 3) (v := ?_) rfl (by kernel_rfl) (by kernel_rfl) (by kernel_rfl) (fun _ _ _ h => h) (Or.inl ⟨by rfl, ?_⟩) hS0 ?_
      rotate_left
      · intro w hSw
        rw [hS] at hSw
        obtain ⟨e0, e1, e2, e3, e4, e5⟩ := hSw
        go_simp
        with_reducible rfl
      (try simp only [Act.put, List.getElem_toArray, List.getElem_cons_zero, List.getElem_cons_succ, List.setIfInBounds_toArray, List.set_cons_zero, List.set_cons_succ])
      refine wpAnyH_take (i := 4) (v := .bool false) rfl (by kernel_rfl) (by kernel_rfl) (by kernel_rfl) (fun _ _ _ h => h) (Or.inl ⟨by rfl, ?_⟩) hS0 ?_
      · intro w hSw
        rw [hS] at hSw
        obtain ⟨e0, e1, e2, e3, e4, e5⟩ := hSw
        go_simp
        skip
      (try simp only [Act.put, List.getElem_toArray, List.getElem_cons_zero, List.getElem_cons_succ, List.setIfInBounds_toArray, List.set_cons_zero, List.set_cons_succ])
      refine wpAnyH_take (i := 5) (v := ?_) rfl (by kernel_rfl) (by kernel_rfl) (by kernel_rfl) (fun _ _ _ h => h) (Or.inl ⟨by rfl, ?_⟩) hS0 ?_
      rotate_left
      · intro w hSw
        rw [hS] at hSw
        obtain ⟨e0, e1, e2, e3, e4, e5⟩ := hSw
        go_simp
        with_reducible rfl
      (try simp only [Act.put, List.getElem_toArray, List.getElem_cons_zero, List.getElem_cons_succ, List.setIfInBounds_toArray, List.set_cons_zero, List.set_cons_succ])
      refine wpAnyH_take (i := 6) (v := ?_) rfl (by kernel_rfl) (by kernel_rfl) (by kernel_rfl) (fun _ _ _ h => h) (Or.inl ⟨by rfl, ?_⟩) hS0 ?_
      rotate_left
      · intro w hSw
        rw [hS] at hSw
        obtain ⟨e0, e1, e2, e3, e4, e5⟩ := hSw
        go_simp
        with_reducible rfl
      (try simp only [Act.put, List.getElem_toArray, List.getElem_cons_zero, List.getElem_cons_succ, List.setIfInBounds_toArray, List.set_cons_zero, List.set_cons_succ])
      refine wpAnyH_take (i := 7) (v := ?_) rfl (by kernel_rfl) (by kernel_rfl) (by kernel_rfl) (fun _ _ _ h => h) (Or.inl ⟨by rfl, ?_⟩) hS0 ?_
      rotate_left
      · intro w hSw
        rw [hS] at hSw
        obtain ⟨e0, e1, e2, e3, e4, e5⟩ := hSw
        go_simp
        with_reducible rfl
      (try simp only [Act.put, List.getElem_toArray, List.getElem_cons_zero, List.getElem_cons_succ, List.setIfInBounds_toArray, List.set_cons_zero, List.set_cons_succ])
      refine wpAnyH_take (i := 8) (v := ?_) rfl (by kernel_rfl) (by kernel_rfl) (by kernel_rfl) (fun _ _ _ h => h) (Or.inl ⟨by rfl, ?_⟩) hS0 ?_
      rotate_left
      · intro w hSw
        rw [hS] at hSw
        obtain ⟨e0, e1, e2, e3, e4, e5⟩ := hSw
        go_simp
        with_reducible rfl
      (try simp only [Act.put, List.getElem_toArray, List.getElem_cons_zero, List.getElem_cons_succ, List.setIfInBounds_toArray, List.set_cons_zero, List.set_cons_succ])
      refine wpAnyH_take (i := 9) (v := ?_) rfl (by kernel_rfl) (by kernel_rfl) (by kernel_rfl) (fun _ _ _ h => h) (Or.inl ⟨by rfl, ?_⟩) hS0 ?_
      rotate_left
      · intro w hSw
        rw [hS] at hSw
        obtain ⟨e0, e1, e2, e3, e4, e5⟩ := hSw
        go_simp
        with_reducible rfl
      (try simp only [Act.put, List.getElem_toArray, List.getElem_cons_zero, List.getElem_cons_succ, List.setIfInBounds_toArray, List.set_cons_zero, List.set_cons_succ])
      refine wpAnyH_take (i := 10) (v := ?_) rfl (by kernel_rfl) (by kernel_rfl) (by kernel_rfl) (fun _ _ _ h => h) (Or.inl ⟨by rfl, ?_⟩) hS0 ?_
      rotate_left
      · intro w hSw
        rw [hS] at hSw
        obtain ⟨e0, e1, e2, e3, e4, e5⟩ := hSw
        go_simp
        with_reducible rfl
      (try simp only [Act.put, List.getElem_toArray, List.getElem_cons_zero, List.getElem_cons_succ, List.setIfInBounds_toArray, List.set_cons_zero, List.set_cons_succ])
      refine wpAnyH_take (i := 11) (v := ?_) rfl (by kernel_rfl) (by kernel_rfl) (by kernel_rfl) (fun _ _ _ h => h) (Or.inl ⟨by rfl, ?_⟩) hS0 ?_
      rotate_left
      · intro w hSw
        rw [hS] at hSw
        obtain ⟨e0, e1, e2, e3, e4, e5⟩ := hSw
        go_simp
        with_reducible rfl
      (try simp only [Act.put, List.getElem_toArray, List.getElem_cons_zero, List.getElem_cons_succ, List.setIfInBounds_toArray, List.set_cons_zero, List.set_cons_succ])
      refine wpAnyH_take (i := 12) (v := .bool false) rfl (by kernel_rfl) (by kernel_rfl) (by kernel_rfl) (fun _ _ _ h => h) (Or.inl ⟨by rfl, ?_⟩) hS0 ?_
      · intro w hSw
        rw [hS] at hSw
        obtain ⟨e0, e1, e2, e3, e4, e5⟩ := hSw
        go_simp
        skip
      (try simp only [Act.put, List.getElem_toArray, List.getElem_cons_zero, List.getElem_cons_succ, List.setIfInBounds_toArray, List.set_cons_zero, List.set_cons_succ])
      refine wpAnyH_take (i := 13) (v := .bool false) rfl (by kernel_rfl) (by kernel_rfl) (by kernel_rfl) (fun _ _ _ h => h) (Or.inl ⟨by rfl, ?_⟩) hS0 ?_
      · intro w hSw
        rw [hS] at hSw
        obtain ⟨e0, e1, e2, e3, e4, e5⟩ := hSw
        go_simp
        skip
      (try simp only [Act.put, List.getElem_toArray, List.getElem_cons_zero, List.getElem_cons_succ, List.setIfInBounds_toArray, List.set_cons_zero, List.set_cons_succ])
      refine wpAnyH_take (i := 14) (v := ?_) rfl (by kernel_rfl) (by kernel_rfl) (by kernel_rfl) (fun _ _ _ h => h) (Or.inl ⟨by rfl, ?_⟩) hS0 ?_
      rotate_left
      · intro w hSw
        rw [hS] at hSw
        obtain ⟨e0, e1, e2, e3, e4, e5⟩ := hSw
        go_simp
        with_reducible rfl
      (try simp only [Act.put, List.getElem_toArray, List.getElem_cons_zero, List.getElem_cons_succ, List.setIfInBounds_toArray, List.set_cons_zero, List.set_cons_succ])
      refine wpAnyH_take (i := 15) (v := ?_) rfl (by kernel_rfl) (by kernel_rfl) (by kernel_rfl) (fun _ _ _ h => h) (Or.inl ⟨by rfl, ?_⟩) hS0 ?_
      rotate_left
      · intro w hSw
        rw [hS] at hSw
        obtain ⟨e0, e1, e2, e3, e4, e5⟩ := hSw
        go_simp
        with_reducible rfl
      (try simp only [Act.put, List.getElem_toArray, List.getElem_cons_zero, List.getElem_cons_succ, List.setIfInBounds_toArray, List.set_cons_zero, List.set_cons_succ])
      refine wpAnyH_take (i := 17) (v := ?_) rfl (by kernel_rfl) (by kernel_rfl) (by kernel_rfl) (fun _ _ _ h => h) (Or.inl ⟨by rfl, ?_⟩) hS0 ?_
      rotate_left
      · intro w hSw
        rw [hS] at hSw
        obtain ⟨e0, e1, e2, e3, e4, e5⟩ := hSw
        go_simp
        with_reducible rfl
      (try simp only [Act.put, List.getElem_toArray, List.getElem_cons_zero, List.getElem_cons_succ, List.setIfInBounds_toArray, List.set_cons_zero, List.set_cons_succ])
      refine wpAnyH_take (i := 18) (v := ?_) rfl (by kernel_rfl) (by kernel_rfl) (by kernel_rfl) (fun _ _ _ h => h) (Or.inl ⟨by rfl, ?_⟩) hS0 ?_
      rotate_left
      · intro w hSw
        rw [hS] at hSw
        obtain ⟨e0, e1, e2, e3, e4, e5⟩ := hSw
        go_simp
        with_reducible rfl
      (try simp only [Act.put, List.getElem_toArray, List.getElem_cons_zero, List.getElem_cons_succ, List.setIfInBounds_toArray, List.set_cons_zero, List.set_cons_succ])
      refine wpAnyH_take (i := 19) (v := ?_) rfl (by kernel_rfl) (by kernel_rfl) (by kernel_rfl) (fun _ _ _ h => h) (Or.inl ⟨by rfl, ?_⟩) hS0 ?_
      rotate_left
      · intro w hSw
        rw [hS] at hSw
        obtain ⟨e0, e1, e2, e3, e4, e5⟩ := hSw
        go_simp
        with_reducible rfl
      (try simp only [Act.put, List.getElem_toArray, List.getElem_cons_zero, List.getElem_cons_succ, List.setIfInBounds_toArray, List.set_cons_zero, List.set_cons_succ])
      refine wpAnyH_take (i := 20) (v := ?_) rfl (by kernel_rfl) (by kernel_rfl) (by kernel_rfl) (fun _ _ _ h => h) (Or.inl ⟨by rfl, ?_⟩) hS0 ?_
      rotate_left
      · intro w hSw
        rw [hS] at hSw
        obtain ⟨e0, e1, e2, e3, e4, e5⟩ := hSw
        go_simp
        with_reducible rfl
      (try simp only [Act.put, List.getElem_toArray, List.getElem_cons_zero, List.getElem_cons_succ, List.setIfInBounds_toArray, List.set_cons_zero, List.set_cons_succ])
      refine wpAnyH_take (i := 21) (v := ?_) rfl (by kernel_rfl) (by kernel_rfl) (by kernel_rfl) (fun _ _ _ h => h) (Or.inl ⟨by rfl, ?_⟩) hS0 ?_
      rotate_left
      · intro w hSw
        rw [hS] at hSw
        obtain ⟨e0, e1, e2, e3, e4, e5⟩ := hSw
        go_simp
        with_reducible rfl
      (try simp only [Act.put, List.getElem_toArray, List.getElem_cons_zero, List.getElem_cons_succ, List.setIfInBounds_toArray, List.set_cons_zero, List.set_cons_succ])
      refine wpAnyH_take (i := 22) (v := ?_) rfl (by kernel_rfl) (by kernel_rfl) (by kernel_rfl) (fun _ _ _ h => h) (Or.inl ⟨by rfl, ?_⟩) hS0 ?_
      rotate_left
      · intro w hSw
        rw [hS] at hSw
        obtain ⟨e0, e1, e2, e3, e4, e5⟩ := hSw
        go_simp
        with_reducible rfl
      (try simp only [Act.put, List.getElem_toArray, List.getElem_cons_zero, List.getElem_cons_succ, List.setIfInBounds_toArray, List.set_cons_zero, List.set_cons_succ])
      refine wpAnyH_ready (rs := [16]) (by kernel_rfl) (by simp) (AllReadyH.cons rfl (fun K hK => ?_) AllReadyH.nil)
      (try simp only [Act.put, List.getElem_toArray, List.getElem_cons_zero, List.getElem_cons_succ, List.setIfInBounds_toArray, List.set_cons_zero, List.set_cons_succ])
      go_simp
      refine hK.out _ _ (by rw [hS]; exact ⟨by simp [go_sem, y0], by simp [go_sem, y1], by simp [go_sem, y2], by simp [go_sem, y3], by simp [go_sem, y4], by simp [go_sem, y5]⟩) (fun hHeld => ?_)
      clear hK hHeld K
      (try simp only [List.setIfInBounds_toArray, List.set_cons_zero, List.set_cons_succ])
      refine wpAnyH_ready (rs := [23]) (by kernel_rfl) (by simp) (AllReadyH.cons rfl (fun K hK => ?_) AllReadyH.nil)
      (try simp only [Act.put, List.getElem_toArray, List.getElem_cons_zero, List.getElem_cons_succ, List.setIfInBounds_toArray, List.set_cons_zero, List.set_cons_succ])
      go_simp
      refine (RS.out _ _ Mor.out inferInstance).mono ?_
      rintro e w5 ⟨rfl, M5⟩
      have M5' : Mo Wr w5 := Mo.trans Mor.out M5
      have v0 : w5.cell? ⟨wc.heap.size, 0, none⟩ = some (.int .i64 q) := by rw [M5'.cell]; exact y0
      have v1 : w5.cell? ⟨w2.heap.size, 0, none⟩ = some (.slice D1 N d1) := by rw [M5'.cell]; exact y1
      have v2 : w5.cell? ⟨w2.heap.size, 1, none⟩ = some (.slice (some ⟨g2, 0, none⟩) N d2) := by rw [M5'.cell]; exact y2
      have v3 : w5.cell? ⟨g2, q, none⟩ = some (.int .i64 x.fe.at_) := by rw [M5'.cell]; exact y3
      have v4 : w5.cell? ⟨Bx, 0, none⟩ = some (.int .u16 x.fe.kind) := by rw [M5'.cell]; exact y4
      have v5 : w5.cell? ⟨Bx, 1, none⟩ = some x.u := by rw [M5'.cell]; exact y5
      have v6 : w5.cell? ⟨W.heap.size, 0, none⟩ = some (.int .i64 left) := by rw [M5'.cell]; exact y6
      have hn5 := boxed_mo hn M5'
      have f0 := hn5.frozen
      have hS5 : S w5 := by rw [hS]; exact ⟨v0, v1, v2, v3, v4, v5⟩
      go_simp
      refine hK.out _ _ hS5 (fun hHeld => ?_)
      clear hK hHeld K
      (try simp only [List.setIfInBounds_toArray, List.set_cons_zero, List.set_cons_succ])
      refine wpAnyH_ready (rs := [24]) (by kernel_rfl) (by simp) (AllReadyH.cons rfl (fun K hK => ?_) AllReadyH.nil)
      (try simp only [Act.put, List.getElem_toArray, List.getElem_cons_zero, List.getElem_cons_succ, List.setIfInBounds_toArray, List.set_cons_zero, List.set_cons_succ])
      go_simp
      refine hK.out _ _ hS5 (fun hHeld => ?_)
      clear hK hHeld K
      (try simp only [List.setIfInBounds_toArray, List.set_cons_zero, List.set_cons_succ])
      refine wpAnyH_ready (rs := [25]) (by kernel_rfl) (by simp) (AllReadyH.cons rfl (fun K hK => ?_) AllReadyH.nil)
      (try simp only [Act.put, List.getElem_toArray, List.getElem_cons_zero, List.getElem_cons_succ, List.setIfInBounds_toArray, List.set_cons_zero, List.set_cons_succ])
      go_simp
      refine hK.out _ _ hS5 (fun hHeld => ?_)
      clear hK hHeld K
      (try simp only [List.setIfInBounds_toArray, List.set_cons_zero, List.set_cons_succ])
      refine wpAnyH_done (by kernel_rfl) ?_ _
      have hK5 : KeepsFrom w.heap.size Wr (w5.setCell ⟨wc.heap.size, 0, none⟩ (.int .i64 ((q : Int) + 1))) := ((KeepsOthers.of_grownBy M5'.grown fun j o ej _ => (by cases ej)).trans (KeepsOthers.setCell _ _ _)).from _
      have hB5 : Below wc.heap.size Wr (w5.setCell ⟨wc.heap.size, 0, none⟩ (.int .i64 ((q : Int) + 1))) := (M5'.below.mono hB.size).setCell (p := ⟨wc.heap.size, 0, none⟩) (Nat.le_refl _) _
      have hl1 : (((pre ++ [x]).length : Nat) : Int) = (q : Int) + 1 := by rw [List.length_append, HQ.out]; simp
      have hX : Boxed (w5.setCell ⟨wc.heap.size, 0, none⟩ (.int .i64 ((q : Int) + 1))) wc.heap.size 3 (.int .i64 (pre ++ [x]).length) := by rw [hl1]; exact hn5.set _
      have L5 : LtW wc.heap.size w5 := LtW.of_cell v0
      have L6 : LtW W.heap.size w5 := LtW.of_cell v6
      have ne : W.heap.size ≠ wc.heap.size := by have := Bc0.lt; omega
      by_cases cl : left ≤ (q : Int) + 1
      · have HCN := Lib.hid hcnd
        have HL1 := Lib.hid hl1
        clear hcnd hl1 y0 y1 y2 y3 y4 y5 y6 v1 v2 v3 v4 v5 hn5
        gi_wp2
        refine ⟨hK5, ⟨rfl, hX, ?_⟩, hB.trans hB5⟩
        have := HL1.out
        have := HCN.out
        omega
      · have HL1 := Lib.hid hl1
        clear hl1 y0 y1 y2 y3 y4 y5 y6 v1 v2 v3 v4 v5
        gi_wp2
        refine ⟨hK5, ⟨hB5, fun v hv => (boxed_mo hv M5').other (by omega) _⟩, ⟨hX, (boxed_mo HSL.out M5').other (by omega) _, ?_⟩, hB.trans hB5⟩
        have := HL1.out
        omega
    case done =>
      rintro D xs Wr hD hS ⟨hI, hB⟩ hK
      have hM : Mo wc Wr := Mo.of hB
      have C2 := hM.blk Bc2
      have C1 := hM.blk Bc1
      have C0 := hM.blk Bc0
      have hn := hI.n
      have hlen : xs.length = N := by rw [← HNN.out, ← hS, List.length_map]
      have hc := hI.c
      rw [hlen] at hn hc
      have y0 := hn.cell
      have y1 : Wr.cell? ⟨w2.heap.size, 0, none⟩ = some (.slice D1 N d1) := by rw [blk_cell C2]; rfl
      have y4 : Wr.cell? ⟨W.heap.size + 1, 0, none⟩ = some (.bool false) := by rw [blk_cell C1]; rfl
      have z4 := blk_frozen C1 0
      have y6 : Wr.cell? ⟨W.heap.size, 0, none⟩ = some (.int .i64 left) := by rw [blk_cell C0]; rfl
      clear hS hlen
      go_wp2_with fail
      all_goals
        exact takes_ret _ D rfl rfl ((boxed_of C1).set _) ((KeepsOthers.setCell Wr ⟨W.heap.size + 1, 0, none⟩ (.bool true)).same D _ hK rfl) ⟨rfl, (mo_setCell (MWc.trans hM) (g := W.heap.size + 1) (by omega) 0 (.bool true)).of_below (belowK_b (w := w) (Nat.le_trans MWc.size hMw.size) _ D _ _ hD ((KeepsOthers.setCell Wr ⟨W.heap.size + 1, 0, none⟩ (.bool true)).same D _ hK rfl) rfl rfl)⟩
    case stop =>
      rintro D c pre Wr hD ⟨r, hSp⟩ ⟨hI, hB⟩ hK
      obtain ⟨rfl, hn, hk1, hk2, hk3⟩ := hI
      have hM : Mo wc Wr := Mo.of hB
      have C2 := hM.blk Bc2
      have C1 := hM.blk Bc1
      have C0 := hM.blk Bc0
      obtain ⟨q, hq⟩ : ∃ q, pre.length = q := ⟨_, rfl⟩
      have hqN : q ≤ N := by rw [← HNN.out, ← hSp, List.length_append, List.length_map]; omega
      rw [hq] at hn hk1 hk2 hk3
      have y0 := hn.cell
      have y1 : Wr.cell? ⟨w2.heap.size, 0, none⟩ = some (.slice D1 N d1) := by rw [blk_cell C2]; rfl
      have y4 : Wr.cell? ⟨W.heap.size + 1, 0, none⟩ = some (.bool false) := by rw [blk_cell C1]; rfl
      have z4 := blk_frozen C1 0
      have y6 : Wr.cell? ⟨W.heap.size, 0, none⟩ = some (.int .i64 left) := by rw [blk_cell C0]; rfl
      clear hSp hq
      have b0 : (q : Int) < N ∨ q = N := by omega
      by_cases b1 : left < 1
      · obtain rfl : q = 1 := by omega
        refine (wpIn_wide (n := 6)).2 ?_
        rcases b0 with b0 | rfl
        all_goals
          go_wp2_with fail
        all_goals
          exact takes_ret _ D rfl rfl ((boxed_of C1).set _) ((KeepsOthers.setCell Wr ⟨W.heap.size + 1, 0, none⟩ (.bool true)).same D _ hK rfl) ⟨rfl, (mo_setCell (MWc.trans hM) (g := W.heap.size + 1) (by omega) 0 (.bool true)).of_below (belowK_b (w := w) (Nat.le_trans MWc.size hMw.size) _ D _ _ hD ((KeepsOthers.setCell Wr ⟨W.heap.size + 1, 0, none⟩ (.bool true)).same D _ hK rfl) rfl rfl)⟩
      · obtain rfl : left = q := by omega
        refine (wpIn_wide (n := 6)).2 ?_
        rcases b0 with b0 | rfl
        all_goals
          go_wp2_with fail
        all_goals
          exact takes_ret _ D rfl rfl ((boxed_of C1).set _) ((KeepsOthers.setCell Wr ⟨W.heap.size + 1, 0, none⟩ (.bool true)).same D _ hK rfl) ⟨rfl, (mo_setCell (MWc.trans hM) (g := W.heap.size + 1) (by omega) 0 (.bool true)).of_below (belowK_b (w := w) (Nat.le_trans MWc.size hMw.size) _ D _ _ hD ((KeepsOthers.setCell Wr ⟨W.heap.size + 1, 0, none⟩ (.bool true)).same D _ hK rfl) rfl rfl)⟩
end Go.Proofs.Ytbndcopeaaifdaa
