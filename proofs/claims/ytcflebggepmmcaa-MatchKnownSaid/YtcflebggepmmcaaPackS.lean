/- Written by gen/bundle30.py: PackB, PackC, PackD, PackE, PackF, PackG, PackH, PackL, PackX, PackK in one text. -/
import Derived.Test.YtcflebggepmmcaaExtT
import Derived.Test.YtcflebggepmmcaaExtFO
import Derived.Test.YtcflebggepmmcaaHeadT
import Derived.Test.YtcflebggepmmcaaExtV
import Derived.Test.YtcflebggepmmcaaWideS
import Derived.Test.YtcflebggepmmcaaBlkS
/- horologeref23.Take: what bytes are as a packet, by the document (its plain part; the walk is still to come). -/
namespace Go.Proofs.Ytcflebggepmmcaa
open Go.RowKit

/-- the reference's answer: the limit of fields comes ahead of bytes that are none -/
def refTakeP (bs : List Int) : Pk × Int :=
  if bs.length < 48 then (pk0, 8)
  else if 32 < (parse (bs.drop 48) 0).length then (pk0, 3)
  else if (nextM (tailOf (bs.drop 48))).1 = 3 then (pk0, 8)
  else (⟨hdOf bs, (parse (bs.drop 48) 0).map fldOf, macM (bs.drop 48)⟩, 0)
set_option maxRecDepth 20000 in
theorem refTakeP_eq (bs : List Int) : refTakeP bs = takeP bs := by
  unfold refTakeP takeP
  by_cases c : bs.length < 48
  · rw [if_pos c, if_pos c]
  rw [if_neg c, if_neg c]
  unfold takeM
  simp only [List.length_map]
  by_cases c1 : 32 < (parse (bs.drop 48) 0).length
  · rw [if_pos c1, if_pos c1]
    simp
  rw [if_neg c1, if_neg c1]
  have e : (nextM (tailOf (bs.drop 48))).1 = (nextM ((bs.drop 48).drop (endF (bs.drop 48) 0))).1 := rfl
  rw [e]
  by_cases c2 : (nextM ((bs.drop 48).drop (endF (bs.drop 48) 0))).1 = 3
  · rw [if_pos c2, if_pos c2]
    simp
  · rw [if_neg c2, if_neg c2]
    simp [macM]
end Go.Proofs.Ytcflebggepmmcaa
/- horologeref23.Take: what bytes are as a packet, by the document. -/
namespace Go.Proofs.Ytcflebggepmmcaa
open Go.RowKit

/-- a value that reads as a packet in every world that holds U's blocks, and w's from base on -/
def PkR (U : World) (base : Nat) (w : World) (p : Pk) (v : Value) : Prop := ∃ a1 c1 a2 c2, v = pkV p.h (.slice a1 p.e.length c1) (.slice a2 p.m.length c2) ∧
  ∀ Z : World, (∀ k, k < U.heap.size → Z.heap[k]? = U.heap[k]?) → (∀ k, base ≤ k → k < w.heap.size → Z.heap[k]? = w.heap[k]?) → ExtV Z (.slice a1 p.e.length c1) p.e ∧ ByteV Z (.slice a2 p.m.length c2) p.m
set_option maxRecDepth 20000 in
theorem PkF.r {base : Nat} {w : World} {p : Pk} {v : Value} (h : PkF base w p v) (U : World) : PkR U base w p v := by
  obtain ⟨a1, c1, a2, c2, e, h1, h2⟩ := h
  exact ⟨a1, c1, a2, c2, e, fun Z _ hZ => ⟨h1 Z hZ, h2 Z hZ⟩⟩
set_option maxRecDepth 20000 in
theorem pkR_nil (U : World) (b : Nat) (w : World) : PkR U b w pk0 (pkV ⟨0, 0, 0, 0, 0, 0, 0, 0, 0, 0, 0, 0, 0, 0, 0, 0⟩ (.slice none 0 0) (.slice none 0 0)) := (pkF_nil b w).r U
set_option maxRecDepth 20000 in
theorem PkR.to {U : World} {b b' : Nat} {w w' : World} {p : Pk} {v : Value} (h : PkR U b w p v) (hb : b' ≤ b) (hs : w.heap.size ≤ w'.heap.size) (k : ∀ k, b ≤ k → k < w.heap.size → w'.heap[k]? = w.heap[k]?) : PkR U b' w' p v := by
  obtain ⟨a1, c1, a2, c2, e, h1⟩ := h
  exact ⟨a1, c1, a2, c2, e, fun Z hU hZ => h1 Z hU fun i hi hi2 => (hZ i (by omega) (by omega)).trans (k i hi hi2)⟩
set_option maxRecDepth 20000 in
theorem PkR.mo {U : World} {b : Nat} {w w' : World} {p : Pk} {v : Value} (h : PkR U b w p v) (M : Mo w w') : PkR U b w' p v :=
  h.to (Nat.le_refl _) M.size fun k _ hk => by obtain ⟨J, d, rfl⟩ := M; exact more_get w J d k hk
def RTakeRet (r : Pk × Int) (U W : World) (e : Ending) (w' : World) : Prop := ∃ v, e = .returned (.tuple #[v, .int .i64 r.2]) ∧ PkR U W.heap.size w' r.1 v ∧ Mo W w'
attribute [local go_sem] blk_cell' blk_frozen'
attribute [local go_sem ↓] storeAt_pk
attribute [local go_sem] run_storePk
set_option maxRecDepth 20000 in
set_option maxHeartbeats 8000000 in
theorem rtake_any (n cap : Nat) (A : Option Addr) (bs : List Int) (U W : World) (hU : Mo U W) (hn : bs.length = n) (h : ByteS U A cap bs) (hlt : n ≤ 200000) :
    Calls Try.prog 66 #[.slice A n cap] W (RTakeRet (takeP bs) U W) := by
  have hlim := h.lim
  have hle := h.le
  rw [← refTakeP_eq]
  obtain ⟨r, hr⟩ : ∃ r, refTakeP bs = r := ⟨_, rfl⟩
  rw [hr]
  have HR := Lib.hid hr
  obtain ⟨R, hR⟩ : ∃ R, RTakeRet r U W = R := ⟨_, rfl⟩
  rw [hR]
  have RR := Lib.hid hR
  clear hR hr
  have HN := Lib.hid hn
  rw [hn] at hlim hle
  have HB := Lib.hid h
  have HU := Lib.hid hU
  clear hn h hU
  by_cases cn : n < 48
  · have cn' : ((n : Int) < 48) := by omega
    go_enter Try.func66, Try.ntmps66
    go_wp2_with fail
    refine ret_cell_tmp Try.results66 W.heap.size (pkV ⟨0, 0, 0, 0, 0, 0, 0, 0, 0, 0, 0, 0, 0, 0, 0, 0⟩ (.slice none 0 0) (.slice none 0 0)) rfl rfl (load_pk (inferInstance : Blk _ W.heap.size 66 _) rfl) ?_
    rw [← RR.out, ← HR.out]
    unfold refTakeP
    rw [if_pos (by rw [HN.out]; exact cn)]
    exact ⟨_, rfl, pkR_nil _ _ _, Mor.out⟩
  · obtain ⟨A', hB', hs1, -⟩ := HB.out.drop 48 (by rw [HN.out]; omega)
    rw [HN.out] at hs1
    have hs1 : ∀ w : World, (Instr.slice 39 (.slice A n cap) (some (.int .i64 48)) none none).run Try.prog w = .ok (.slice A' (n - 48) (cap - 48)) w := hs1
    have RD := Lib.hid (fun w (k : Mo W w) => read_own A' (cap - 48) (n - 48) (bs.drop 48) U w (HU.out.trans k) (by rw [List.length_drop, HN.out]) hB' (by omega))
    have TK := Lib.hid (fun w (k : Mo W w) => refTake20_any n cap A bs w HN.out ((HB.out.mo HU.out).mo k) (by omega))
    clear hB'
    go_enter Try.func66, Try.ntmps66
    go_wp2_with fail
    refine (RD.out _ Mor.out).mono ?_
    rintro e w1 ⟨A1, c1, A2, c2, A3, c3, m, rfl, HX, HB3, M1⟩
    have B0 : Blk w1 W.heap.size 66 (pkL hd0 (.slice none 0 0) (.slice none 0 0)).toArray := M1.blk inferInstance
    have S1 := M1.size
    have M1' := (Mor.out : Mo W _).trans M1
    have HMX := Lib.hid HX
    have HMB := Lib.hid HB3
    clear M1 HX HB3
    obtain ⟨ps, hps⟩ : ∃ ps, parse (bs.drop 48) 0 = ps := ⟨_, rfl⟩
    have HP := Lib.hid hps
    rw [hps] at HMX ⊢
    clear hps
    obtain ⟨k, hk⟩ : ∃ k, ps.length = k := ⟨_, rfl⟩
    have HK := Lib.hid hk
    rw [hk] at HMX ⊢
    clear hk
    obtain ⟨am, ham⟩ : ∃ am, decide ((nextM (tailOf (bs.drop 48))).1 = 3) = am := ⟨_, rfl⟩
    have HA := Lib.hid ham
    rw [ham]
    clear ham
    by_cases ck : 32 < k
    · have ck' : ((k : Int) > 32) := by omega
      go_wp2_with fail
      obtain ⟨w2, hw2⟩ : ∃ w2, w1.setRow W.heap.size (pkL ⟨0, 0, 0, 0, 0, 0, 0, 0, 0, 0, 0, 0, 0, 0, 0, 0⟩ (.slice none 0 0) (.slice none 0 0)).toArray = w2 := ⟨_, rfl⟩
      have B2 : Blk w2 W.heap.size 66 (pkL ⟨0, 0, 0, 0, 0, 0, 0, 0, 0, 0, 0, 0, 0, 0, 0, 0⟩ (.slice none 0 0) (.slice none 0 0)).toArray := by rw [← hw2]; exact blk_setRow B0
      have M2 : Mo W w2 := by rw [← hw2]; exact mo_setRow M1' (Nat.le_refl _) _
      rw [hw2]
      clear hw2
      refine ret_cell_tmp Try.results66 W.heap.size (pkV ⟨0, 0, 0, 0, 0, 0, 0, 0, 0, 0, 0, 0, 0, 0, 0, 0⟩ (.slice none 0 0) (.slice none 0 0)) rfl rfl (load_pk ((Mor.out : Mo w2 _).blk B2) rfl) ?_
      rw [← RR.out, ← HR.out]
      unfold refTakeP
      rw [if_neg (by rw [HN.out]; exact cn), if_pos (by rw [HP.out, HK.out]; exact ck)]
      exact ⟨_, rfl, pkR_nil _ _ _, M2.trans Mor.out⟩
    · have ck' : ¬ ((k : Int) > 32) := by omega
      cases am
      case true =>
        go_wp2_with fail
        obtain ⟨w2, hw2⟩ : ∃ w2, w1.setRow W.heap.size (pkL ⟨0, 0, 0, 0, 0, 0, 0, 0, 0, 0, 0, 0, 0, 0, 0, 0⟩ (.slice none 0 0) (.slice none 0 0)).toArray = w2 := ⟨_, rfl⟩
        have B2 : Blk w2 W.heap.size 66 (pkL ⟨0, 0, 0, 0, 0, 0, 0, 0, 0, 0, 0, 0, 0, 0, 0, 0⟩ (.slice none 0 0) (.slice none 0 0)).toArray := by rw [← hw2]; exact blk_setRow B0
        have M2 : Mo W w2 := by rw [← hw2]; exact mo_setRow M1' (Nat.le_refl _) _
        rw [hw2]
        clear hw2
        refine ret_cell_tmp Try.results66 W.heap.size (pkV ⟨0, 0, 0, 0, 0, 0, 0, 0, 0, 0, 0, 0, 0, 0, 0, 0⟩ (.slice none 0 0) (.slice none 0 0)) rfl rfl (load_pk ((Mor.out : Mo w2 _).blk B2) rfl) ?_
        rw [← RR.out, ← HR.out]
        unfold refTakeP
        rw [if_neg (by rw [HN.out]; exact cn), if_neg (by rw [HP.out, HK.out]; exact ck), if_pos (by have := HA.out; simpa using this)]
        exact ⟨_, rfl, pkR_nil _ _ _, M2.trans Mor.out⟩
      case false =>
        obtain ⟨hh, hhh⟩ : ∃ hh, hdOf bs = hh := ⟨_, rfl⟩
        have HHH := Lib.hid hhh
        rw [hhh] at TK
        clear hhh
        go_upto_region 8 with (fail)
        refine wp_region_mo_tail 7 (by kernel_rfl) (by kernel_rfl) ?_
        simp only [List.take_succ_cons, List.take_zero, List.drop_succ_cons, List.drop_zero]
        repeat (go_big_quiet_step (with_reducible exact quiet_mo (TK.out _ (M1'.trans Mor.out))))
        refine wpQuiet_nil ?_
        intro _ hw'
        obtain ⟨⟨J2, d2⟩, hw''⟩ := hw'
        subst hw''
        go_wp2_with fail
        obtain ⟨w2, hw2⟩ : ∃ w2, w1.setRow W.heap.size (pkL hh (.slice A1 k c1) (.slice A3 m c3)).toArray = w2 := ⟨_, rfl⟩
        have B2 : Blk w2 W.heap.size 66 (pkL hh (.slice A1 k c1) (.slice A3 m c3)).toArray := by rw [← hw2]; exact blk_setRow B0
        have M2 : Mo W w2 := by rw [← hw2]; exact mo_setRow M1' (Nat.le_refl _) _
        have K2 : ∀ i, W.heap.size + 1 ≤ i → w2.heap[i]? = w1.heap[i]? := fun i h1 => by
          rw [← hw2]
          exact setRow_get_ne w1 W.heap.size i _ (by omega)
        have K3 : w1.heap.size = w2.heap.size := by rw [← hw2]; exact (setRow_size' _ _ _).symm
        rw [hw2]
        clear hw2
        refine ret_cell_tmp Try.results66 W.heap.size (pkV hh (.slice A1 k c1) (.slice A3 m c3)) rfl rfl (load_pk ((Mor.out : Mo w2 _).blk B2) rfl) ?_
        rw [← RR.out, ← HR.out]
        unfold refTakeP
        rw [if_neg (by rw [HN.out]; exact cn), if_neg (by rw [HP.out, HK.out]; exact ck), if_neg (by have := HA.out; simpa using this), HHH.out, HP.out]
        have HX := HMX.out
        have HB : ByteV U (.slice A3 m c3) (macM (bs.drop 48)) := HMB.out
        obtain ⟨mac, hmac⟩ : ∃ mac, macM (bs.drop 48) = mac := ⟨_, rfl⟩
        rw [hmac] at HB ⊢
        obtain ⟨A3', c3', e3, hb3⟩ := HB
        injection e3 with e3 e4 e5
        subst e3 e5
        have HK' := HK.out
        have S : (W.alloc (Obj.cells (pkL hd0 (.slice none 0 0) (.slice none 0 0)).toArray 66)).heap.size = W.heap.size + 1 := by simp
        refine ⟨_, rfl, ⟨A1, c1, A3, c3, ?_, fun Z hZ1 hZ2 => ⟨?_, ?_⟩⟩, M2.trans Mor.out⟩
        · simp only [List.length_map, HK', e4]
        · simp only [List.length_map, HK']
          refine HX Z hZ1 fun i h1 h2 => ?_
          have h1' : W.heap.size + 1 ≤ i := by rw [← S]; exact h1
          rw [hZ2 i (by omega) (by rw [more_size, World.size_alloc, ← K3]; omega), more_get _ _ _ _ (by rw [World.size_alloc, ← K3]; omega), Below.heap_alloc _ _ _ (by omega), K2 i h1']
        · exact ByteV.held ⟨A3, c3, rfl, hb3⟩ hZ1
end Go.Proofs.Ytcflebggepmmcaa
/- horologeref23.Same: are two packets one? -/
namespace Go.Proofs.Ytcflebggepmmcaa
open Go.RowKit

set_option maxRecDepth 20000 in
theorem fit_int {k : IntKind} {n : Int} (h : k.min ≤ n) (h' : n ≤ k.max) : CK.fits (.i k) (.int k n) := ⟨rfl, by simp [Lit.wf, h, h']⟩
set_option maxRecDepth 20000 in
theorem ks_head : ksOf 63 = [.i .u8, .i .u8, .i .u8, .i .u8, .i .i8, .i .i8, .i .u32, .i .u32, .i .u8, .i .u8, .i .u8, .i .u8, .i .u64, .i .u64, .i .u64, .i .u64] := by kernel_rfl
set_option maxRecDepth 20000 in
theorem fits_head {h : Hd} (k : HdOk h) : Fits (ksOf 63) (hdC h).toList := by
  rw [ks_head]
  exact ⟨fit_int k.l.1 k.l.2, fit_int k.v.1 k.v.2, fit_int k.m.1 k.m.2, fit_int k.s.1 k.s.2, fit_int k.po.1 k.po.2, fit_int k.pr.1 k.pr.2, fit_int k.rd.1 k.rd.2, fit_int k.rp.1 k.rp.2,
    fit_int k.a.1 k.a.2, fit_int k.b.1 k.b.2, fit_int k.c.1 k.c.2, fit_int k.d.1 k.d.2, fit_int k.f.1 k.f.2, fit_int k.o.1 k.o.2, fit_int k.r.1 k.r.2, fit_int k.x.1 k.x.2, trivial⟩
set_option maxRecDepth 20000 in
theorem hdC_inj {h h' : Hd} (e : hdC h = hdC h') : h = h' := by
  have e := congrArg Array.toList e
  simp only [List.cons.injEq, Value.int.injEq, true_and, and_true] at e
  cases h
  cases h'
  simp only [Hd.mk.injEq]
  simpa using e
set_option maxRecDepth 20000 in
theorem eqlF_head (x y : Value) : binOp .eql 63 x y = eqlF 63 x y := rfl
set_option maxRecDepth 20000 in
theorem run_eqlF_head {h h' : Hd} (k : HdOk h) (k' : HdOk h') (w : World) : (eqlF 63 (hdV h) (hdV h')).run Try.prog w = .ok (.bool (decide (h = h'))) w := by
  have e := run_eql_flat (inferInstance : FlatT 63 16) w (fits_head k) (fits_head k')
  have e2 : eqA (hdC h) (hdC h') = decide (h = h') := by
    rw [Bool.eq_iff_iff, eqA_iff, decide_eq_true_eq]
    exact ⟨hdC_inj, fun e => by rw [e]⟩
  rw [← e2]
  exact e
/-- a value reads as a packet -/
def PkV (w : World) (p : Pk) (v : Value) : Prop := ∃ a1 c1 a2 c2, v = pkV p.h (.slice a1 p.e.length c1) (.slice a2 p.m.length c2) ∧ ExtS w a1 c1 p.e ∧ ByteS w a2 c2 p.m
set_option maxRecDepth 20000 in
theorem PkV.mo {W w : World} {p : Pk} {v : Value} (h : PkV W p v) (k : Mo W w) : PkV w p v := by
  obtain ⟨a1, c1, a2, c2, e, h1, h2⟩ := h
  exact ⟨a1, c1, a2, c2, e, h1.mo k, h2.mo k⟩
set_option maxRecDepth 20000 in
theorem PkR.now {U : World} {b : Nat} {w : World} {p : Pk} {v : Value} (h : PkR U b w p v) (Z : World) (hU : ∀ k, k < U.heap.size → Z.heap[k]? = U.heap[k]?) (hZ : ∀ k, b ≤ k → k < w.heap.size → Z.heap[k]? = w.heap[k]?) : PkV Z p v := by
  obtain ⟨a1, c1, a2, c2, e, h⟩ := h
  obtain ⟨⟨A, c, e1, h1⟩, ⟨A', c', e2, h2⟩⟩ := h Z hU hZ
  injection e1 with e1 e3 e4
  injection e2 with e2 e5 e6
  subst e1 e2 e4 e6
  exact ⟨a1, c1, a2, c2, e, h1, h2⟩
set_option maxRecDepth 20000 in
theorem PkR.at {U : World} {b : Nat} {w : World} {p : Pk} {v : Value} (h : PkR U b w p v) (M : Mo U w) : PkV w p v :=
  h.now w (fun k hk => by obtain ⟨J, d, rfl⟩ := M; exact more_get U J d k hk) fun _ _ _ => rfl
set_option maxRecDepth 20000 in
instance (p q : Pk) : Decidable (p = q) :=
  if h : p.h = q.h ∧ p.e = q.e ∧ p.m = q.m then isTrue (by cases p; cases q; simp_all) else isFalse (fun e => h (by rw [e]; exact ⟨rfl, rfl, rfl⟩))
set_option maxRecDepth 20000 in
theorem pk_eq (p q : Pk) : decide (p = q) = (decide (p.h = q.h) && (decide (p.e = q.e) && decide (p.m = q.m))) := by
  rw [Bool.eq_iff_iff]
  cases p; cases q
  simp
attribute [local go_sem] blk_cell' blk_frozen'
attribute [local go_sem ↓] eqlF_head
end Go.Proofs.Ytcflebggepmmcaa
/- packet.Class and the reference's: what a datagram is (printed by gen/genpacke.py). -/
namespace Go.Proofs.Ytcflebggepmmcaa
open Go.RowKit

/-- a datagram: its moment's cells, its ends' cells, its bytes -/
structure Dg where
  at_ : Array Value
  src : Array Value
  dst : Array Value
  bs : List Int
structure DgOk (d : Dg) : Prop where
  at_ : Fits (ksOf 32) d.at_.toList
  src : Fits (ksOf 38) d.src.toList
  dst : Fits (ksOf 38) d.dst.toList
def dgC (a s t : Array Value) (x : Value) : Array Value := a ++ s ++ t ++ #[x]
def DgV (W : World) (d : Dg) (v : Value) : Prop := ∃ A cap, v = .agg (dgC d.at_ d.src d.dst (.slice A d.bs.length cap)) ∧ ByteS W A cap d.bs
set_option maxRecDepth 20000 in
theorem DgV.mo {W w : World} {d : Dg} {v : Value} (h : DgV W d v) (k : Mo W w) : DgV w d v := by
  obtain ⟨A, cap, e, hb⟩ := h
  exact ⟨A, cap, e, hb.mo k⟩
set_option maxRecDepth 20000 in
theorem fits_size {T : TypeId} {n : Nat} (k : FlatT T n) {cs : Array Value} (h : Fits (ksOf T) cs.toList) : cs.size = n := by rw [← k.len, ← h.len, Array.length_toList]
set_option maxRecDepth 20000 in
theorem sz_wide {a : Array Value} (h : Fits (ksOf 32) a.toList) : SzA a 2 := ⟨fits_size fl_wide h⟩
set_option maxRecDepth 20000 in
theorem sz_ends {a : Array Value} (h : Fits (ksOf 38) a.toList) : SzA a 18 := ⟨fits_size fl_ends h⟩
set_option maxRecDepth 20000 in
theorem dg_b (a s t : Array Value) (x : Value) [ha : SzA a 2] [hs : SzA s 18] [ht : SzA t 18] : (dgC a s t x)[38]? = some x := by
  have h1 := ha.out
  have h2 := hs.out
  have h3 := ht.out
  unfold dgC
  rw [Array.getElem?_append_right (by simp [h1, h2, h3])]
  simp [h1, h2, h3]
set_option maxRecDepth 20000 in
theorem dg_at (a s t : Array Value) (x : Value) [ha : SzA a 2] : (dgC a s t x).extract 0 2 = a := by
  have h1 := ha.out
  apply Array.toList_inj.1
  unfold dgC
  simp only [Array.toList_extract, Array.toList_append, List.extract_eq_take_drop]
  rw [List.append_assoc, List.append_assoc, List.drop_zero, List.take_left' (by simp [h1])]
set_option maxRecDepth 20000 in
theorem dg_src (a s t : Array Value) (x : Value) [ha : SzA a 2] [hs : SzA s 18] : (dgC a s t x).extract 2 20 = s := by
  have h1 := ha.out
  have h2 := hs.out
  apply Array.toList_inj.1
  unfold dgC
  simp only [Array.toList_extract, Array.toList_append, List.extract_eq_take_drop]
  rw [List.append_assoc, List.append_assoc, List.drop_left' (by simp [h1])]
  rw [List.take_left' (by simp [h2])]
set_option maxRecDepth 20000 in
theorem dg_dst (a s t : Array Value) (x : Value) [ha : SzA a 2] [hs : SzA s 18] [ht : SzA t 18] : (dgC a s t x).extract 20 38 = t := by
  have h1 := ha.out
  have h2 := hs.out
  have h3 := ht.out
  apply Array.toList_inj.1
  unfold dgC
  simp only [Array.toList_extract, Array.toList_append, List.extract_eq_take_drop]
  rw [List.append_assoc, List.drop_left' (by simp [h1, h2])]
  rw [List.take_left' (by simp [h3])]
set_option maxRecDepth 20000 in
instance (a s t : Array Value) (x : Value) [ha : SzA a 2] [hs : SzA s 18] [ht : SzA t 18] : SzA (dgC a s t x) 39 := ⟨by
  have h1 := ha.out
  have h2 := hs.out
  have h3 := ht.out
  unfold dgC
  simp [h1, h2, h3]⟩
/-- what a packet is -/
def kindP (h : Hd) : Int := if h.m = 3 ∧ h.x = 0 ∨ h.m = 4 ∧ h.o = 0 then 3 else if h.m = 3 then 1 else if h.m = 4 then 4 else 8
def classP (bs : List Int) : Pk × Int := if (takeP bs).2 = 0 then ((takeP bs).1, kindP (takeP bs).1.h) else (pk0, 0)
attribute [local go_sem] blk_cell' blk_frozen' dg_b
attribute [local go_sem ↓] storeAt_pk
attribute [local go_sem] run_storePk
set_option maxRecDepth 20000 in
set_option maxHeartbeats 8000000 in
theorem class_any (d : Dg) (v : Value) (W : World) (hv : DgV W d v) (kd : DgOk d) :
    Calls Try.prog 20 #[v] W fun e w' => ∃ u, e = .returned (.tuple #[u, .int .u8 (classP d.bs).2]) ∧ PkF W.heap.size w' (classP d.bs).1 u ∧ Mo W w' := by
  obtain ⟨A, cap, rfl, hb⟩ := hv
  have za := sz_wide kd.at_
  have zs := sz_ends kd.src
  have zt := sz_ends kd.dst
  obtain ⟨r, hr⟩ : ∃ r, classP d.bs = r := ⟨_, rfl⟩
  rw [hr]
  have HR := Lib.hid hr
  obtain ⟨R, hR⟩ : ∃ R, (fun (e : Ending) (w' : World) => ∃ u, e = .returned (.tuple #[u, .int .u8 r.2]) ∧ PkF W.heap.size w' r.1 u ∧ Mo W w') = R := ⟨_, rfl⟩
  rw [hR]
  have RR := Lib.hid hR
  clear hR hr kd
  obtain ⟨da, ds, dd, bs⟩ := d
  simp only at za zs zt hb HR ⊢
  have TK := Lib.hid (fun w (k : Mo W w) => ptake_any bs.length cap A bs w rfl (hb.mo k))
  clear hb
  generalize bs.length = n at *
  obtain ⟨tp, htp⟩ : ∃ tp, takeP bs = tp := ⟨_, rfl⟩
  have HT := Lib.hid htp
  rw [htp] at TK
  clear htp
  go_enter Try.func20, Try.ntmps20
  go_wp2_with fail
  refine (TK.out _ Mor.out).mono ?_
  rintro e w1 ⟨u, rfl, ⟨a1, c1, a2, c2, rfl, X1, X2⟩, M1⟩
  have B0 : Blk w1 (W.heap.size + 1) 66 (pkL hd0 (.slice none 0 0) (.slice none 0 0)).toArray := M1.blk inferInstance
  have S1 := M1.size
  have M1' := (Mor.out : Mo W _).trans M1
  have HX1 := Lib.hid X1
  have HX2 := Lib.hid X2
  clear X1 X2 M1
  obtain ⟨⟨ph, pe, pm⟩, tc⟩ := tp
  simp only at HX1 HX2 HT ⊢
  generalize hn1 : pe.length = n1 at *
  generalize hn2 : pm.length = n2 at *
  have HN1 := Lib.hid hn1
  have HN2 := Lib.hid hn2
  clear hn1 hn2
  by_cases ct : tc = 0
  · subst ct
    by_cases m3 : ph.m = 3
    · have d1 : (ph.m == 3) = true := by simp [m3]
      have d2 : (ph.m == 4) = false := by simp [m3]
      by_cases x0 : ph.x = 0
      · have d3 : (ph.x == 0) = true := by simp [x0]
        have D3 := Lib.hid m3
        have D4 := Lib.hid x0
        clear m3 x0
        go_wp2_with fail
        obtain ⟨w2, hw2⟩ : ∃ w2, w1.setRow (W.heap.size + 1) (pkL ph (.slice a1 n1 c1) (.slice a2 n2 c2)).toArray = w2 := ⟨_, rfl⟩
        have B2 : Blk w2 (W.heap.size + 1) 66 (pkL ph (.slice a1 n1 c1) (.slice a2 n2 c2)).toArray := by rw [← hw2]; exact blk_setRow B0
        have M2 : Mo W w2 := by rw [← hw2]; exact mo_setRow M1' (by omega) _
        have K2 : ∀ i, W.heap.size + 2 ≤ i → w2.heap[i]? = w1.heap[i]? := fun i h1 => by rw [← hw2]; exact setRow_get_ne w1 (W.heap.size + 1) i _ (by omega)
        have K3 : w1.heap.size = w2.heap.size := by rw [← hw2]; exact (setRow_size' _ _ _).symm
        rw [hw2]
        clear hw2
        refine ret_cell_tmp Try.results20 (W.heap.size + 1) (pkV ph (.slice a1 n1 c1) (.slice a2 n2 c2)) rfl rfl (load_pk ((Mor.out : Mo w2 _).blk B2) rfl) ?_
        rw [← RR.out, ← HR.out]
        unfold classP
        rw [HT.out]
        rw [if_pos rfl]
        simp only
        have HK : kindP ph = 3 := by unfold kindP; simp [D3.out, D4.out]
        rw [HK]
        obtain rfl := HN1.out
        obtain rfl := HN2.out
        have g1 := HX1.out
        have g2 := HX2.out
        simp only [World.size_alloc] at g1 g2
        refine ⟨_, rfl, ⟨a1, c1, a2, c2, rfl, g1.to (by omega) (by rw [World.size_alloc, ← K3]; omega) fun i h1 h2 => ?_, g2.to (by omega) (by rw [World.size_alloc, ← K3]; omega) fun i h1 h2 => ?_⟩, M2.trans Mor.out⟩
        · rw [Below.heap_alloc _ _ _ (by rw [← K3]; exact h2), K2 i h1]
        · rw [Below.heap_alloc _ _ _ (by rw [← K3]; exact h2), K2 i h1]
      · have d3 : (ph.x == 0) = false := by simp [x0]
        have D3 := Lib.hid m3
        have D4 := Lib.hid x0
        clear m3 x0
        go_wp2_with fail
        obtain ⟨w2, hw2⟩ : ∃ w2, w1.setRow (W.heap.size + 1) (pkL ph (.slice a1 n1 c1) (.slice a2 n2 c2)).toArray = w2 := ⟨_, rfl⟩
        have B2 : Blk w2 (W.heap.size + 1) 66 (pkL ph (.slice a1 n1 c1) (.slice a2 n2 c2)).toArray := by rw [← hw2]; exact blk_setRow B0
        have M2 : Mo W w2 := by rw [← hw2]; exact mo_setRow M1' (by omega) _
        have K2 : ∀ i, W.heap.size + 2 ≤ i → w2.heap[i]? = w1.heap[i]? := fun i h1 => by rw [← hw2]; exact setRow_get_ne w1 (W.heap.size + 1) i _ (by omega)
        have K3 : w1.heap.size = w2.heap.size := by rw [← hw2]; exact (setRow_size' _ _ _).symm
        rw [hw2]
        clear hw2
        refine ret_cell_tmp Try.results20 (W.heap.size + 1) (pkV ph (.slice a1 n1 c1) (.slice a2 n2 c2)) rfl rfl (load_pk ((Mor.out : Mo w2 _).blk B2) rfl) ?_
        rw [← RR.out, ← HR.out]
        unfold classP
        rw [HT.out]
        rw [if_pos rfl]
        simp only
        have HK : kindP ph = 1 := by unfold kindP; simp [D3.out, D4.out]
        rw [HK]
        obtain rfl := HN1.out
        obtain rfl := HN2.out
        have g1 := HX1.out
        have g2 := HX2.out
        simp only [World.size_alloc] at g1 g2
        refine ⟨_, rfl, ⟨a1, c1, a2, c2, rfl, g1.to (by omega) (by rw [World.size_alloc, ← K3]; omega) fun i h1 h2 => ?_, g2.to (by omega) (by rw [World.size_alloc, ← K3]; omega) fun i h1 h2 => ?_⟩, M2.trans Mor.out⟩
        · rw [Below.heap_alloc _ _ _ (by rw [← K3]; exact h2), K2 i h1]
        · rw [Below.heap_alloc _ _ _ (by rw [← K3]; exact h2), K2 i h1]
    · have d1 : (ph.m == 3) = false := by simp [m3]
      by_cases m4 : ph.m = 4
      · have d2 : (ph.m == 4) = true := by simp [m4]
        by_cases o0 : ph.o = 0
        · have d3 : (ph.o == 0) = true := by simp [o0]
          have D3 := Lib.hid m4
          have D4 := Lib.hid o0
          clear m3 m4 o0
          go_wp2_with fail
          obtain ⟨w2, hw2⟩ : ∃ w2, w1.setRow (W.heap.size + 1) (pkL ph (.slice a1 n1 c1) (.slice a2 n2 c2)).toArray = w2 := ⟨_, rfl⟩
          have B2 : Blk w2 (W.heap.size + 1) 66 (pkL ph (.slice a1 n1 c1) (.slice a2 n2 c2)).toArray := by rw [← hw2]; exact blk_setRow B0
          have M2 : Mo W w2 := by rw [← hw2]; exact mo_setRow M1' (by omega) _
          have K2 : ∀ i, W.heap.size + 2 ≤ i → w2.heap[i]? = w1.heap[i]? := fun i h1 => by rw [← hw2]; exact setRow_get_ne w1 (W.heap.size + 1) i _ (by omega)
          have K3 : w1.heap.size = w2.heap.size := by rw [← hw2]; exact (setRow_size' _ _ _).symm
          rw [hw2]
          clear hw2
          refine ret_cell_tmp Try.results20 (W.heap.size + 1) (pkV ph (.slice a1 n1 c1) (.slice a2 n2 c2)) rfl rfl (load_pk ((Mor.out : Mo w2 _).blk B2) rfl) ?_
          rw [← RR.out, ← HR.out]
          unfold classP
          rw [HT.out]
          rw [if_pos rfl]
          simp only
          have HK : kindP ph = 3 := by unfold kindP; simp [D3.out, D4.out]
          rw [HK]
          obtain rfl := HN1.out
          obtain rfl := HN2.out
          have g1 := HX1.out
          have g2 := HX2.out
          simp only [World.size_alloc] at g1 g2
          refine ⟨_, rfl, ⟨a1, c1, a2, c2, rfl, g1.to (by omega) (by rw [World.size_alloc, ← K3]; omega) fun i h1 h2 => ?_, g2.to (by omega) (by rw [World.size_alloc, ← K3]; omega) fun i h1 h2 => ?_⟩, M2.trans Mor.out⟩
          · rw [Below.heap_alloc _ _ _ (by rw [← K3]; exact h2), K2 i h1]
          · rw [Below.heap_alloc _ _ _ (by rw [← K3]; exact h2), K2 i h1]
        · have d3 : (ph.o == 0) = false := by simp [o0]
          have D3 := Lib.hid m4
          have D4 := Lib.hid o0
          clear m3 m4 o0
          go_wp2_with fail
          obtain ⟨w2, hw2⟩ : ∃ w2, w1.setRow (W.heap.size + 1) (pkL ph (.slice a1 n1 c1) (.slice a2 n2 c2)).toArray = w2 := ⟨_, rfl⟩
          have B2 : Blk w2 (W.heap.size + 1) 66 (pkL ph (.slice a1 n1 c1) (.slice a2 n2 c2)).toArray := by rw [← hw2]; exact blk_setRow B0
          have M2 : Mo W w2 := by rw [← hw2]; exact mo_setRow M1' (by omega) _
          have K2 : ∀ i, W.heap.size + 2 ≤ i → w2.heap[i]? = w1.heap[i]? := fun i h1 => by rw [← hw2]; exact setRow_get_ne w1 (W.heap.size + 1) i _ (by omega)
          have K3 : w1.heap.size = w2.heap.size := by rw [← hw2]; exact (setRow_size' _ _ _).symm
          rw [hw2]
          clear hw2
          refine ret_cell_tmp Try.results20 (W.heap.size + 1) (pkV ph (.slice a1 n1 c1) (.slice a2 n2 c2)) rfl rfl (load_pk ((Mor.out : Mo w2 _).blk B2) rfl) ?_
          rw [← RR.out, ← HR.out]
          unfold classP
          rw [HT.out]
          rw [if_pos rfl]
          simp only
          have HK : kindP ph = 4 := by unfold kindP; simp [D3.out, D4.out]
          rw [HK]
          obtain rfl := HN1.out
          obtain rfl := HN2.out
          have g1 := HX1.out
          have g2 := HX2.out
          simp only [World.size_alloc] at g1 g2
          refine ⟨_, rfl, ⟨a1, c1, a2, c2, rfl, g1.to (by omega) (by rw [World.size_alloc, ← K3]; omega) fun i h1 h2 => ?_, g2.to (by omega) (by rw [World.size_alloc, ← K3]; omega) fun i h1 h2 => ?_⟩, M2.trans Mor.out⟩
          · rw [Below.heap_alloc _ _ _ (by rw [← K3]; exact h2), K2 i h1]
          · rw [Below.heap_alloc _ _ _ (by rw [← K3]; exact h2), K2 i h1]
      · have d2 : (ph.m == 4) = false := by simp [m4]
        have D3 := Lib.hid m3
        have D4 := Lib.hid m4
        clear m3 m4
        go_wp2_with fail
        obtain ⟨w2, hw2⟩ : ∃ w2, w1.setRow (W.heap.size + 1) (pkL ph (.slice a1 n1 c1) (.slice a2 n2 c2)).toArray = w2 := ⟨_, rfl⟩
        have B2 : Blk w2 (W.heap.size + 1) 66 (pkL ph (.slice a1 n1 c1) (.slice a2 n2 c2)).toArray := by rw [← hw2]; exact blk_setRow B0
        have M2 : Mo W w2 := by rw [← hw2]; exact mo_setRow M1' (by omega) _
        have K2 : ∀ i, W.heap.size + 2 ≤ i → w2.heap[i]? = w1.heap[i]? := fun i h1 => by rw [← hw2]; exact setRow_get_ne w1 (W.heap.size + 1) i _ (by omega)
        have K3 : w1.heap.size = w2.heap.size := by rw [← hw2]; exact (setRow_size' _ _ _).symm
        rw [hw2]
        clear hw2
        refine ret_cell_tmp Try.results20 (W.heap.size + 1) (pkV ph (.slice a1 n1 c1) (.slice a2 n2 c2)) rfl rfl (load_pk ((Mor.out : Mo w2 _).blk B2) rfl) ?_
        rw [← RR.out, ← HR.out]
        unfold classP
        rw [HT.out]
        rw [if_pos rfl]
        simp only
        have HK : kindP ph = 8 := by unfold kindP; simp [D3.out, D4.out]
        rw [HK]
        obtain rfl := HN1.out
        obtain rfl := HN2.out
        have g1 := HX1.out
        have g2 := HX2.out
        simp only [World.size_alloc] at g1 g2
        refine ⟨_, rfl, ⟨a1, c1, a2, c2, rfl, g1.to (by omega) (by rw [World.size_alloc, ← K3]; omega) fun i h1 h2 => ?_, g2.to (by omega) (by rw [World.size_alloc, ← K3]; omega) fun i h1 h2 => ?_⟩, M2.trans Mor.out⟩
        · rw [Below.heap_alloc _ _ _ (by rw [← K3]; exact h2), K2 i h1]
        · rw [Below.heap_alloc _ _ _ (by rw [← K3]; exact h2), K2 i h1]
  · have d0 : (tc != 0) = true := by simp [ct]
    have CT := Lib.hid ct
    clear ct
    go_wp2_with fail
    obtain ⟨w2, hw2⟩ : ∃ w2, w1.setRow (W.heap.size + 1) (pkL ⟨0, 0, 0, 0, 0, 0, 0, 0, 0, 0, 0, 0, 0, 0, 0, 0⟩ (.slice none 0 0) (.slice none 0 0)).toArray = w2 := ⟨_, rfl⟩
    have B2 : Blk w2 (W.heap.size + 1) 66 (pkL ⟨0, 0, 0, 0, 0, 0, 0, 0, 0, 0, 0, 0, 0, 0, 0, 0⟩ (.slice none 0 0) (.slice none 0 0)).toArray := by rw [← hw2]; exact blk_setRow B0
    have M2 : Mo W w2 := by rw [← hw2]; exact mo_setRow M1' (by omega) _
    have K2 : ∀ i, W.heap.size + 2 ≤ i → w2.heap[i]? = w1.heap[i]? := fun i h1 => by rw [← hw2]; exact setRow_get_ne w1 (W.heap.size + 1) i _ (by omega)
    have K3 : w1.heap.size = w2.heap.size := by rw [← hw2]; exact (setRow_size' _ _ _).symm
    rw [hw2]
    clear hw2
    refine ret_cell_tmp Try.results20 (W.heap.size + 1) (pkV ⟨0, 0, 0, 0, 0, 0, 0, 0, 0, 0, 0, 0, 0, 0, 0, 0⟩ (.slice none 0 0) (.slice none 0 0)) rfl rfl (load_pk ((Mor.out : Mo w2 _).blk B2) rfl) ?_
    rw [← RR.out, ← HR.out]
    unfold classP
    rw [HT.out]
    rw [if_neg CT.out]
    exact ⟨_, rfl, pkF_nil _ _, M2.trans Mor.out⟩
end Go.Proofs.Ytcflebggepmmcaa
/- horologeref23.Class: what a datagram is, by the document (printed by gen/genpackf.py). -/
namespace Go.Proofs.Ytcflebggepmmcaa
open Go.RowKit

set_option maxRecDepth 20000 in
theorem hd0_ok : HdOk hd0 := by
  refine ⟨?_, ?_, ?_, ?_, ?_, ?_, ?_, ?_, ?_, ?_, ?_, ?_, ?_, ?_, ?_, ?_⟩ <;> decide
set_option maxRecDepth 20000 in
theorem takeP_ok (bs : List Int) (hb : ∀ c ∈ bs, 0 ≤ c ∧ c ≤ 255) : HdOk (takeP bs).1.h := by
  unfold takeP
  split
  · exact hd0_ok
  · split
    · exact (hdOf_ok bs hb (by omega)).1
    · exact hd0_ok
set_option maxRecDepth 20000 in
theorem rkind (h : Hd) : kindP h = if h.m = 3 then (if h.x = 0 then 3 else 1) else if h.m = 4 then (if h.o = 0 then 3 else 4) else 8 := by
  unfold kindP
  by_cases c : h.m = 3
  · simp [c]
  · by_cases c' : h.m = 4 <;> simp [c, c']
attribute [local go_sem] blk_cell' blk_frozen' dg_b
attribute [local go_sem ↓] storeAt_pk
attribute [local go_sem] run_storePk
set_option maxRecDepth 20000 in
set_option maxHeartbeats 8000000 in
theorem rclass_any (d : Dg) (v : Value) (W : World) (hv : DgV W d v) (kd : DgOk d) (hl : d.bs.length ≤ 200000) :
    Calls Try.prog 68 #[v] W fun e w' => e = .returned (.int .u8 (classP d.bs).2) ∧ Mo W w' := by
  obtain ⟨A, cap, rfl, hb⟩ := hv
  have za := sz_wide kd.at_
  have zs := sz_ends kd.src
  have zt := sz_ends kd.dst
  have ok := takeP_ok d.bs hb.byte
  have hx := ok.x.1
  have ho := ok.o.1
  clear ok
  obtain ⟨r, hr⟩ : ∃ r, (classP d.bs).2 = r := ⟨_, rfl⟩
  rw [hr]
  unfold classP at hr
  clear kd
  obtain ⟨da, ds, dd, bs⟩ := d
  simp only at za zs zt hb hr hx ho hl ⊢
  have TK := Lib.hid (fun w (k : Mo W w) => rtake_any bs.length cap A bs W w k rfl hb hl)
  clear hb hl
  generalize bs.length = n at *
  obtain ⟨tp, htp⟩ : ∃ tp, takeP bs = tp := ⟨_, rfl⟩
  rw [htp] at TK hr hx ho
  clear htp
  go_enter Try.func68, Try.ntmps68
  go_wp2_with fail
  refine (TK.out _ Mor.out).mono ?_
  rintro e w1 ⟨u, rfl, ⟨a1, c1, a2, c2, rfl, -⟩, M1⟩
  have M1' := (Mor.out : Mo W _).trans M1
  clear M1
  obtain ⟨⟨ph, pe, pm⟩, tc⟩ := tp
  simp only at hr hx ho ⊢
  generalize pe.length = n1 at *
  generalize pm.length = n2 at *
  rw [rkind] at hr
  by_cases ct : tc = 0
  · subst ct
    rw [if_pos rfl] at hr
    simp only at hr
    by_cases m3 : ph.m = 3
    · have d1 : (ph.m == 3) = true := by simp [m3]
      have d2 : (ph.m == 4) = false := by simp [m3]
      rw [if_pos m3] at hr
      by_cases x0 : ph.x = 0
      · have d3 : decide (0 < ph.x) = false := by simp [x0]
        rw [if_pos x0] at hr
        clear m3 x0 hx ho
        subst hr
        go_wp2_with fail
        go_ret
        exact ⟨rfl, M1'.trans Mor.out⟩
      · have d3 : decide (0 < ph.x) = true := by simp; omega
        rw [if_neg x0] at hr
        clear m3 x0 hx ho
        subst hr
        go_wp2_with fail
        go_ret
        exact ⟨rfl, M1'.trans Mor.out⟩
    · have d1 : (ph.m == 3) = false := by simp [m3]
      rw [if_neg m3] at hr
      by_cases m4 : ph.m = 4
      · have d2 : (ph.m == 4) = true := by simp [m4]
        rw [if_pos m4] at hr
        by_cases o0 : ph.o = 0
        · have d3 : decide (0 < ph.o) = false := by simp [o0]
          rw [if_pos o0] at hr
          clear m3 m4 o0 hx ho
          subst hr
          go_wp2_with fail
          go_ret
          exact ⟨rfl, M1'.trans Mor.out⟩
        · have d3 : decide (0 < ph.o) = true := by simp; omega
          rw [if_neg o0] at hr
          clear m3 m4 o0 hx ho
          subst hr
          go_wp2_with fail
          go_ret
          exact ⟨rfl, M1'.trans Mor.out⟩
      · have d2 : (ph.m == 4) = false := by simp [m4]
        rw [if_neg m4] at hr
        clear m3 m4 hx ho
        subst hr
        go_wp2_with fail
        go_ret
        exact ⟨rfl, M1'.trans Mor.out⟩
  · have d0 : (tc != 0) = true := by simp [ct]
    rw [if_neg ct] at hr
    simp only at hr
    clear ct hx ho
    subst hr
    go_wp2_with fail
    go_ret
    exact ⟨rfl, M1'.trans Mor.out⟩
end Go.Proofs.Ytcflebggepmmcaa
/- packet.Key: the key of a datagram (printed by gen/genpackg.py). -/
namespace Go.Proofs.Ytcflebggepmmcaa
open Go.RowKit

set_option maxRecDepth 20000 in
theorem arr2 {cs : Array Value} (h : cs.size = 2) : ∃ x0 x1, cs = #[x0, x1] := by
  obtain ⟨l⟩ := cs
  match l, h with
  | [x0, x1], _ => exact ⟨_, _, rfl⟩
set_option maxRecDepth 20000 in
theorem arr18 {cs : Array Value} (h : cs.size = 18) : ∃ x0 x1 x2 x3 x4 x5 x6 x7 x8 x9 x10 x11 x12 x13 x14 x15 x16 x17, cs = #[x0, x1, x2, x3, x4, x5, x6, x7, x8, x9, x10, x11, x12, x13, x14, x15, x16, x17] := by
  obtain ⟨l⟩ := cs
  match l, h with
  | [x0, x1, x2, x3, x4, x5, x6, x7, x8, x9, x10, x11, x12, x13, x14, x15, x16, x17], _ => exact ⟨_, _, _, _, _, _, _, _, _, _, _, _, _, _, _, _, _, _, rfl⟩
/-- a key's cells -/
def kyC (s t : Array Value) (n : Int) : Array Value := s ++ t ++ #[.int .u64 n]
/-- a datagram and a header -/
def snC (a s t : Array Value) (x : Value) (h : Hd) : Array Value := dgC a s t x ++ hdC h
set_option maxRecDepth 20000 in
instance (a s t : Array Value) (x : Value) [ha : OneA a] [hs : OneA s] [ht : OneA t] [hx : One1 x] : OneA (dgC a s t x) := ⟨by
  unfold dgC
  rw [Array.all_append, Array.all_append, Array.all_append, ha.out, hs.out, ht.out]
  simp [hx.out]⟩
set_option maxRecDepth 20000 in
instance (a s t : Array Value) (x : Value) (h : Hd) [ha : OneA a] [hs : OneA s] [ht : OneA t] [hx : One1 x] : OneA (snC a s t x h) := ⟨by
  have := (inferInstance : OneA (dgC a s t x)).out
  unfold snC
  rw [Array.all_append, this, Bool.true_and]
  exact (inferInstance : OneA (hdC h)).out⟩
set_option maxRecDepth 20000 in
instance (s t : Array Value) (n : Int) [hs : OneA s] [ht : OneA t] : OneA (kyC s t n) := ⟨by
  unfold kyC
  rw [Array.all_append, Array.all_append, hs.out, ht.out]
  simp [Value.oneCell']⟩
set_option maxRecDepth 20000 in
instance ky_size (s t : Array Value) (n : Int) [hs : SzA s 18] [ht : SzA t 18] : SzA (kyC s t n) 37 := ⟨by
  have h2 := hs.out
  have h3 := ht.out
  unfold kyC
  simp [h2, h3]⟩
set_option maxRecDepth 20000 in
instance sn_size (a s t : Array Value) (x : Value) (h : Hd) [ha : SzA a 2] [hs : SzA s 18] [ht : SzA t 18] : SzA (snC a s t x h) 55 := ⟨by
  have := (inferInstance : SzA (dgC a s t x) 39).out
  unfold snC
  simp [this]⟩
set_option maxRecDepth 20000 in
theorem sn_m (a s t : Array Value) (x : Value) (h : Hd) [ha : SzA a 2] [hs : SzA s 18] [ht : SzA t 18] : (snC a s t x h)[41]? = some (.int .u8 h.m) := by
  have h1 := (inferInstance : SzA (dgC a s t x) 39).out
  unfold snC
  rw [Array.getElem?_append_right (by omega), h1]
  rfl
set_option maxRecDepth 20000 in
theorem sn_o (a s t : Array Value) (x : Value) (h : Hd) [ha : SzA a 2] [hs : SzA s 18] [ht : SzA t 18] : (snC a s t x h)[52]? = some (.int .u64 h.o) := by
  have h1 := (inferInstance : SzA (dgC a s t x) 39).out
  unfold snC
  rw [Array.getElem?_append_right (by omega), h1]
  rfl
set_option maxRecDepth 20000 in
theorem sn_x (a s t : Array Value) (x : Value) (h : Hd) [ha : SzA a 2] [hs : SzA s 18] [ht : SzA t 18] : (snC a s t x h)[54]? = some (.int .u64 h.x) := by
  have h1 := (inferInstance : SzA (dgC a s t x) 39).out
  unfold snC
  rw [Array.getElem?_append_right (by omega), h1]
  rfl
set_option maxRecDepth 20000 in
theorem sn_src (a s t : Array Value) (x : Value) (h : Hd) [ha : SzA a 2] [hs : SzA s 18] [ht : SzA t 18] : (snC a s t x h).extract 2 20 = s := by
  have h1 := (inferInstance : SzA (dgC a s t x) 39).out
  unfold snC
  have e : (dgC a s t x ++ hdC h).extract 2 20 = (dgC a s t x).extract 2 20 := by
    rw [Array.extract_append]
    simp [h1]
  rw [e, dg_src]
set_option maxRecDepth 20000 in
theorem sn_dst (a s t : Array Value) (x : Value) (h : Hd) [ha : SzA a 2] [hs : SzA s 18] [ht : SzA t 18] : (snC a s t x h).extract 20 38 = t := by
  have h1 := (inferInstance : SzA (dgC a s t x) 39).out
  unfold snC
  have e : (dgC a s t x ++ hdC h).extract 20 38 = (dgC a s t x).extract 20 38 := by
    rw [Array.extract_append]
    simp [h1]
  rw [e, dg_dst]
/-- the ends that are none -/
def en0 : Array Value := #[.bool false, .int .u8 0, .int .u8 0, .int .u8 0, .int .u8 0, .int .u8 0, .int .u8 0, .int .u8 0, .int .u8 0, .int .u8 0, .int .u8 0, .int .u8 0, .int .u8 0, .int .u8 0, .int .u8 0, .int .u8 0, .int .u8 0, .int .u16 0]
set_option maxRecDepth 20000 in
instance : SzA en0 18 := ⟨rfl⟩
set_option maxRecDepth 20000 in
instance : OneA en0 := ⟨by kernel_rfl⟩
set_option maxRecDepth 20000 in
instance fl_flow : FlatT 43 36 := ⟨by kernel_rfl, by kernel_rfl, by kernel_rfl, by kernel_rfl, by kernel_rfl, by kernel_rfl⟩
set_option maxRecDepth 20000 in
instance row_sn : RowT 115 55 := ⟨by kernel_rfl, by kernel_rfl⟩
set_option maxRecDepth 20000 in
theorem loadF_dg (v : Value) : Instr.loadAt 41 v = loadF 41 v := rfl
set_option maxRecDepth 20000 in
theorem loadF_ends (v : Value) : Instr.loadAt 38 v = loadF 38 v := rfl
set_option maxRecDepth 20000 in
theorem storeF_sn (v x : Value) : Instr.storeAt 115 v x = storeF 115 v x := rfl
set_option maxRecDepth 20000 in
theorem storeF_key (v x : Value) : Instr.storeAt 72 v x = storeF 72 v x := rfl
set_option maxRecDepth 20000 in
theorem buildF_sn (l : Array (Nat × Value)) : Instr.build 115 l = buildF 115 l := rfl
set_option maxRecDepth 20000 in
theorem buildF_flow (l : Array (Nat × Value)) : Instr.build 43 l = buildF 43 l := rfl
set_option maxRecDepth 20000 in
theorem buildF_key (l : Array (Nat × Value)) : Instr.build 72 l = buildF 72 l := rfl
set_option maxRecDepth 20000 in
theorem run_build_flow (s t : Array Value) [hs : SzA s 18] [ht : SzA t 18] (w : World) : (buildF 43 #[(0, .agg s), (1, .agg t)]).run Try.prog w = .ok (.agg (s ++ t)) w := by
  obtain ⟨a0, a1, a2, a3, a4, a5, a6, a7, a8, a9, a10, a11, a12, a13, a14, a15, a16, a17, rfl⟩ := arr18 hs.out
  obtain ⟨b0, b1, b2, b3, b4, b5, b6, b7, b8, b9, b10, b11, b12, b13, b14, b15, b16, b17, rfl⟩ := arr18 ht.out
  exact run_build w _ _ _ (by kernel_rfl)
set_option maxRecDepth 20000 in
theorem run_build_key (s t : Array Value) (n : Int) [hs : SzA s 18] [ht : SzA t 18] (w : World) : (buildF 72 #[(0, .agg (s ++ t)), (1, .int .u64 n)]).run Try.prog w = .ok (.agg (kyC s t n)) w := by
  obtain ⟨a0, a1, a2, a3, a4, a5, a6, a7, a8, a9, a10, a11, a12, a13, a14, a15, a16, a17, rfl⟩ := arr18 hs.out
  obtain ⟨b0, b1, b2, b3, b4, b5, b6, b7, b8, b9, b10, b11, b12, b13, b14, b15, b16, b17, rfl⟩ := arr18 ht.out
  exact run_build w _ _ _ (by kernel_rfl)
set_option maxRecDepth 20000 in
theorem run_build_sn (a s t : Array Value) (x : Value) (h : Hd) [ha : SzA a 2] [hs : SzA s 18] [ht : SzA t 18] (w : World) : (buildF 115 #[(0, .agg (dgC a s t x)), (1, .agg #[.int .u8 h.l, .int .u8 h.v, .int .u8 h.m, .int .u8 h.s, .int .i8 h.po, .int .i8 h.pr, .int .u32 h.rd, .int .u32 h.rp, .int .u8 h.a, .int .u8 h.b, .int .u8 h.c, .int .u8 h.d, .int .u64 h.f, .int .u64 h.o, .int .u64 h.r, .int .u64 h.x])]).run Try.prog w = .ok (.agg (snC a s t x h)) w := by
  obtain ⟨c0, c1, rfl⟩ := arr2 ha.out
  obtain ⟨a0, a1, a2, a3, a4, a5, a6, a7, a8, a9, a10, a11, a12, a13, a14, a15, a16, a17, rfl⟩ := arr18 hs.out
  obtain ⟨b0, b1, b2, b3, b4, b5, b6, b7, b8, b9, b10, b11, b12, b13, b14, b15, b16, b17, rfl⟩ := arr18 ht.out
  exact run_build w _ _ _ (by kernel_rfl)
set_option maxRecDepth 20000 in
theorem run_build_key0 (w : World) : (buildF 72 #[]).run Try.prog w = .ok (.agg (kyC en0 en0 0)) w := run_build w _ _ _ (by kernel_rfl)
/-- a datagram's key, and whether there is one -/
def keyC (d : Dg) (h : Hd) : Array Value := if h.m = 3 then kyC d.src d.dst h.x else if h.m = 4 then kyC d.dst d.src h.o else kyC en0 en0 0
def keyB (h : Hd) : Bool := decide (h.m = 3) || decide (h.m = 4)
attribute [local go_sem] blk_cell' blk_frozen' dg_b dg_src dg_dst sn_m sn_o sn_x sn_src sn_dst
attribute [local go_sem ↓] loadF_dg loadF_ends storeF_sn storeF_key buildF_sn buildF_flow buildF_key
attribute [local go_sem] run_loadFo run_loadF0 run_storeF0 run_build_flow run_build_key run_build_sn run_build_key0
set_option maxRecDepth 20000 in
set_option maxHeartbeats 8000000 in
theorem key_any (d : Dg) (p : Pk) (v u : Value) (W : World) (hv : DgV W d v) (kd : DgOk d) (hu : PkV W p u) :
    Calls Try.prog 21 #[v, u] W fun e w' => e = .returned (.tuple #[.agg (keyC d p.h), .bool (keyB p.h)]) ∧ Mo W w' := by
  obtain ⟨A, cap, rfl, -⟩ := hv
  obtain ⟨a1, c1, a2, c2, rfl, -, -⟩ := hu
  have za := sz_wide kd.at_
  have zs := sz_ends kd.src
  have zt := sz_ends kd.dst
  have oa := one_of_fits kd.at_
  have os := one_of_fits kd.src
  have ot := one_of_fits kd.dst
  clear kd
  obtain ⟨da, ds, dd, bs⟩ := d
  obtain ⟨ph, pe, pm⟩ := p
  simp only at za zs zt oa os ot ⊢
  generalize bs.length = n at *
  generalize pe.length = n1 at *
  generalize pm.length = n2 at *
  unfold keyC keyB
  by_cases m3 : ph.m = 3
  · have d1 : (ph.m == 3) = true := by simp [m3]
    rw [if_pos m3, decide_eq_true m3, Bool.true_or]
    clear m3
    go_enter Try.func21, Try.ntmps21
    go_wp2_with fail
    refine ret_cell_tmp Try.results21 (W.heap.size + 2) (.agg (kyC ds dd ph.x)) rfl rfl (loadVar_flat _ (inferInstance : Blk _ (W.heap.size + 2) 72 _) (ky_size _ _ _).out) ?_
    exact ⟨rfl, Mor.out⟩
  · have d1 : (ph.m == 3) = false := by simp [m3]
    rw [if_neg m3, decide_eq_false m3, Bool.false_or]
    clear m3
    by_cases m4 : ph.m = 4
    · have d2 : (ph.m == 4) = true := by simp [m4]
      rw [if_pos m4, decide_eq_true m4]
      clear m4
      go_enter Try.func21, Try.ntmps21
      go_wp2_with fail
      refine ret_cell_tmp Try.results21 (W.heap.size + 2) (.agg (kyC dd ds ph.o)) rfl rfl (loadVar_flat _ (inferInstance : Blk _ (W.heap.size + 2) 72 _) (ky_size _ _ _).out) ?_
      exact ⟨rfl, Mor.out⟩
    · have d2 : (ph.m == 4) = false := by simp [m4]
      rw [if_neg m4, decide_eq_false m4]
      clear m4
      go_enter Try.func21, Try.ntmps21
      go_wp2_with fail
      refine ret_cell_tmp Try.results21 (W.heap.size + 2) (.agg (kyC en0 en0 0)) rfl rfl (loadVar_flat _ (inferInstance : Blk _ (W.heap.size + 2) 72 _) (ky_size _ _ _).out) ?_
      exact ⟨rfl, Mor.out⟩
end Go.Proofs.Ytcflebggepmmcaa
/- horologeref23.Key: the key of a datagram, by the document (printed by gen/genpackh.py). -/
namespace Go.Proofs.Ytcflebggepmmcaa
open Go.RowKit

def spliceA (cs : Array Value) (o : Nat) (v : Array Value) : Array Value := (spliceL cs.toList o v.toList).toArray
set_option maxRecDepth 20000 in
theorem run_storeFA (T : TypeId) (n : Nat) [h : RowT T n] (w : World) (g o : Nat) (t : TypeId) (cs v : Array Value) (k : Nat) [b : Blk w g t cs] [z : SzA cs k] [y : SzA v n] [q : OneA v] (hk : o + n ≤ k) (_hn : n < k) :
    (storeF T (.pointer (some ⟨g, o, none⟩)) (.agg v)).run Try.prog w = .ok () (w.setRow g (spliceA cs o v)) := by
  obtain ⟨cs⟩ := cs
  obtain ⟨v⟩ := v
  exact run_storeF T n w g o t cs v k hk
set_option maxRecDepth 20000 in
theorem ky_splice0 (s t s' : Array Value) (n : Int) [hs : SzA s 18] [hs' : SzA s' 18] : spliceA (kyC s t n) 0 s' = kyC s' t n := by
  have h1 := hs.out
  have h2 := hs'.out
  apply Array.toList_inj.1
  unfold spliceA spliceL kyC
  simp only [Array.toList_append, List.take_zero, List.nil_append, Array.length_toList, Nat.zero_add]
  rw [List.append_assoc, List.drop_left' (by rw [Array.length_toList, h1, h2])]
  simp
set_option maxRecDepth 20000 in
theorem ky_splice18 (s t t' : Array Value) (n : Int) [hs : SzA s 18] [ht : SzA t 18] [ht' : SzA t' 18] : spliceA (kyC s t n) 18 t' = kyC s t' n := by
  have h1 := hs.out
  have h2 := ht.out
  have h3 := ht'.out
  apply Array.toList_inj.1
  unfold spliceA spliceL kyC
  have e1 : (s.toList ++ t.toList ++ [Value.int .u64 n]).take 18 = s.toList := by rw [List.append_assoc, List.take_left' (by rw [Array.length_toList, h1])]
  have e2 : (s.toList ++ t.toList ++ [Value.int .u64 n]).drop (18 + 18) = [Value.int .u64 n] := List.drop_left' (by rw [List.length_append, Array.length_toList, Array.length_toList, h1, h2])
  simp only [Array.toList_append, Array.length_toList, h3]
  rw [e1, e2]
set_option maxRecDepth 20000 in
theorem ky_set (s t : Array Value) (n m : Int) [hs : SzA s 18] [ht : SzA t 18] : (kyC s t n).setIfInBounds 36 (.int .u64 m) = kyC s t m := by
  have h1 := hs.out
  have h2 := ht.out
  apply Array.toList_inj.1
  unfold kyC
  rw [Array.toList_setIfInBounds, Array.toList_append, List.set_append_right _ _ (by rw [Array.length_toList, Array.size_append, h1, h2]; exact Nat.le_refl _), Array.toList_append]
  simp [h1, h2]
set_option maxRecDepth 20000 in
theorem ky_cell (s t : Array Value) (n : Int) [hs : SzA s 18] [ht : SzA t 18] : (kyC s t n)[36]? = some (.int .u64 n) := by
  have h1 := hs.out
  have h2 := ht.out
  unfold kyC
  rw [Array.getElem?_append_right (by rw [Array.size_append, h1, h2]; exact Nat.le_refl _)]
  simp [h1, h2]
set_option maxRecDepth 20000 in
theorem loadF_keyH (v : Value) : Instr.loadAt 72 v = loadF 72 v := rfl
set_option maxRecDepth 20000 in
theorem storeF_ends (v x : Value) : Instr.storeAt 38 v x = storeF 38 v x := rfl
attribute [local go_sem] blk_cell' blk_frozen' dg_b dg_src dg_dst ky_splice0 ky_splice18 ky_set ky_cell
attribute [local go_sem ↓] loadF_dg loadF_ends loadF_keyH storeF_ends storeF_key buildF_flow buildF_key
attribute [local go_sem] run_loadFo run_loadF0 run_storeF0 run_storeFA run_build_flow run_build_key run_build_key0
set_option maxRecDepth 20000 in
set_option maxHeartbeats 8000000 in
theorem rkey_any (d : Dg) (p : Pk) (v u : Value) (W : World) (hv : DgV W d v) (kd : DgOk d) (hu : PkV W p u) :
    Calls Try.prog 67 #[v, u] W fun e w' => e = .returned (.tuple #[.agg (keyC d p.h), .bool (keyB p.h)]) ∧ Mo W w' := by
  obtain ⟨A, cap, rfl, -⟩ := hv
  obtain ⟨a1, c1, a2, c2, rfl, -, -⟩ := hu
  have za := sz_wide kd.at_
  have zs := sz_ends kd.src
  have zt := sz_ends kd.dst
  have oa := one_of_fits kd.at_
  have os := one_of_fits kd.src
  have ot := one_of_fits kd.dst
  clear kd
  obtain ⟨da, ds, dd, bs⟩ := d
  obtain ⟨ph, pe, pm⟩ := p
  simp only at za zs zt oa os ot ⊢
  generalize bs.length = n at *
  generalize pe.length = n1 at *
  generalize pm.length = n2 at *
  unfold keyC keyB
  by_cases m3 : ph.m = 3
  · have d1 : (ph.m == 3) = true := by simp [m3]
    have d2 : (ph.m == 4) = false := by simp [m3]
    rw [if_pos m3, decide_eq_true m3, Bool.true_or]
    clear m3
    go_enter Try.func67, Try.ntmps67
    go_upto_region 10 with (fail)
    go_region
    go_wp2_with fail
    refine ret_cell_tmp Try.results67 (W.heap.size + 2) (.agg (kyC ds dd ph.x)) rfl rfl (loadVar_flat _ (inferInstance : Blk _ (W.heap.size + 2) 72 _) (ky_size _ _ _).out) ?_
    exact ⟨rfl, Mor.out⟩
  · have d1 : (ph.m == 3) = false := by simp [m3]
    rw [if_neg m3, decide_eq_false m3, Bool.false_or]
    clear m3
    by_cases m4 : ph.m = 4
    · have d2 : (ph.m == 4) = true := by simp [m4]
      rw [if_pos m4, decide_eq_true m4]
      clear m4
      go_enter Try.func67, Try.ntmps67
      go_upto_region 10 with (fail)
      go_region
      go_wp2_with fail
      refine ret_cell_tmp Try.results67 (W.heap.size + 2) (.agg (kyC dd ds ph.o)) rfl rfl (loadVar_flat _ (inferInstance : Blk _ (W.heap.size + 2) 72 _) (ky_size _ _ _).out) ?_
      exact ⟨rfl, Mor.out⟩
    · have d2 : (ph.m == 4) = false := by simp [m4]
      rw [if_neg m4, decide_eq_false m4]
      clear m4
      go_enter Try.func67, Try.ntmps67
      go_upto_region 10 with (fail)
      go_region
      go_wp2_with fail
      refine ret_cell_tmp Try.results67 (W.heap.size + 2) (.agg (kyC en0 en0 0)) rfl rfl (loadVar_flat _ (inferInstance : Blk _ (W.heap.size + 2) 72 _) (ky_size _ _ _).out) ?_
      exact ⟨rfl, Mor.out⟩
end Go.Proofs.Ytcflebggepmmcaa
/- packet.Answer: an answer to a request (printed by gen/genpackl.py). -/
namespace Go.Proofs.Ytcflebggepmmcaa
open Go.RowKit

/-- the moment that is none -/
def wd0 : Array Value := #[.int .i64 0, .int .u64 0]
set_option maxRecDepth 20000 in
instance : SzA wd0 2 := ⟨rfl⟩
set_option maxRecDepth 20000 in
instance : OneA wd0 := ⟨by kernel_rfl⟩
set_option maxRecDepth 20000 in
theorem loadF_wide (v : Value) : Instr.loadAt 32 v = loadF 32 v := rfl
set_option maxRecDepth 20000 in
theorem storeF_dg (v x : Value) : Instr.storeAt 41 v x = storeF 41 v x := rfl
set_option maxRecDepth 20000 in
theorem buildF_dg (l : Array (Nat × Value)) : Instr.build 41 l = buildF 41 l := rfl
set_option maxRecDepth 20000 in
theorem run_build_dg (a s t : Array Value) (A : Option Addr) (n c : Nat) [ha : SzA a 2] [hs : SzA s 18] [ht : SzA t 18] (w : World) : (buildF 41 #[(0, .agg a), (1, .agg s), (2, .agg t), (3, .slice A n c)]).run Try.prog w = .ok (.agg (dgC a s t (.slice A n c))) w := by
  obtain ⟨c0, c1, rfl⟩ := arr2 ha.out
  obtain ⟨a0, a1, a2, a3, a4, a5, a6, a7, a8, a9, a10, a11, a12, a13, a14, a15, a16, a17, rfl⟩ := arr18 hs.out
  obtain ⟨b0, b1, b2, b3, b4, b5, b6, b7, b8, b9, b10, b11, b12, b13, b14, b15, b16, b17, rfl⟩ := arr18 ht.out
  exact run_build w _ _ _ (by kernel_rfl)
set_option maxRecDepth 20000 in
theorem run_build_dg0 (w : World) : (buildF 41 #[]).run Try.prog w = .ok (.agg (dgC wd0 en0 en0 (.slice none 0 0))) w := run_build w _ _ _ (by kernel_rfl)
def ansH (h : Hd) (recv xmit : Int) : Hd := ⟨h.l, h.v, 4, 1, h.po, h.pr, h.rd, h.rp, h.a, h.b, h.c, h.d, h.f, h.x, recv, xmit⟩
set_option maxRecDepth 20000 in
theorem ansH_ok {h : Hd} (ok : HdOk h) {recv xmit : Int} (h1 : 0 ≤ recv ∧ recv ≤ 18446744073709551615) (h2 : 0 ≤ xmit ∧ xmit ≤ 18446744073709551615) : HdOk (ansH h recv xmit) :=
  ⟨ok.l, ok.v, (by decide : (0 : Int) ≤ 4 ∧ (4 : Int) ≤ 255), (by decide : (0 : Int) ≤ 1 ∧ (1 : Int) ≤ 255), ok.po, ok.pr, ok.rd, ok.rp, ok.a, ok.b, ok.c, ok.d, ok.f, ok.x, h1, h2⟩
set_option maxRecDepth 20000 in
theorem ansH_may {h : Hd} (m : h.m = 3) (recv xmit : Int) : mayH (ansH h recv xmit) = mayH h := by
  unfold mayH ansH
  simp [m]
def ansD (d : Dg) (h : Hd) (recv xmit : Int) : Dg × Int := if h.m = 3 ∧ mayH h = true then (⟨d.at_, d.dst, d.src, hdB (ansH h recv xmit)⟩, 0) else (⟨wd0, en0, en0, []⟩, 2)
def AnsRet (r : Dg × Int) (W : World) (e : Ending) (w' : World) : Prop := ∃ v, e = .returned (.tuple #[v, .int .i64 r.2]) ∧ DgV w' r.1 v ∧ Mo W w'
attribute [local go_sem] blk_cell' blk_frozen' dg_at dg_src dg_dst dg_b
attribute [local go_sem ↓] loadF_wide loadF_ends storeF_dg buildF_dg
attribute [local go_sem] run_loadFo run_loadFz run_storeF0 run_build_dg run_build_dg0
end Go.Proofs.Ytcflebggepmmcaa
/- horologelaw23.works: the document's examples. -/
namespace Go.Proofs.Ytcflebggepmmcaa
open Go.RowKit

set_option maxRecDepth 20000 in
theorem takeM_4 : takeM (zeros 4) = ([], zeros 4, 0) := by
  have h : ¬ (nextM ((zeros 4).drop 0)).1 = 2 := by decide
  unfold takeM
  rw [parse_nil h, endF_nil h]
  rfl
set_option maxRecDepth 20000 in
theorem takeP_47 : takeP (zeros 47) = (pk0, 8) := by
  unfold takeP
  rw [if_pos (by decide)]
set_option maxRecDepth 20000 in
theorem takeP_52 : takeP (zeros 52) = (⟨hdOf (zeros 52), [], zeros 4⟩, 0) := by
  unfold takeP
  have e : (zeros 52).drop 48 = zeros 4 := by decide
  rw [if_neg (by decide), e, takeM_4, if_pos rfl]
set_option maxRecDepth 20000 in
theorem blk_alloc (w : World) (cs : Array Value) (t : TypeId) : Blk (w.alloc (.cells cs t)) w.heap.size t cs := inferInstance
def b48a : List Int := 35 :: zeros 47
def b48b : List Int := 35 :: (zeros 46 ++ [1])
set_option maxRecDepth 20000 in
theorem classP_a : (classP b48a).2 = 3 := by
  have t : takeP b48a = (⟨hdOf b48a, [], []⟩, 0) := by
    unfold takeP
    have e : b48a.drop 48 = [] := by decide
    rw [if_neg (by decide), e, take_nil, if_pos rfl]
  unfold classP
  rw [t, if_pos rfl]
  decide
set_option maxRecDepth 20000 in
theorem classP_b : (classP b48b).2 = 1 := by
  have t : takeP b48b = (⟨hdOf b48b, [], []⟩, 0) := by
    unfold takeP
    have e : b48b.drop 48 = [] := by decide
    rw [if_neg (by decide), e, take_nil, if_pos rfl]
  unfold classP
  rw [t, if_pos rfl]
  decide
set_option maxRecDepth 20000 in
theorem byteS_byteL {w : World} {g : Nat} (bs : List Int) (h : Blk w g 5 (byteL bs).toArray) (hb : ∀ c ∈ bs, 0 ≤ c ∧ c ≤ 255) (hl : bs.length ≤ 140737488355328) : ByteS w (some ⟨g, 0, none⟩) bs.length bs := byteS_blk h bs rfl hb hl
set_option maxRecDepth 20000 in
theorem zeros_byte (n : Nat) : ∀ c ∈ zeros n, 0 ≤ c ∧ c ≤ 255 := by
  intro c hc
  rw [List.eq_of_mem_replicate hc]
  omega
/-- the datagram that is none but for its bytes -/
def dgZ (bs : List Int) : Dg := ⟨wd0, en0, en0, bs⟩
set_option maxRecDepth 20000 in
theorem fits_wd0 : Fits (ksOf 32) wd0.toList := by
  have e : ksOf 32 = [.i .i64, .i .u64] := by kernel_rfl
  rw [e]
  exact ⟨⟨rfl, rfl⟩, ⟨rfl, rfl⟩, trivial⟩
set_option maxRecDepth 20000 in
theorem fits_en0 : Fits (ksOf 38) en0.toList := by
  have e : ksOf 38 = .b :: (List.replicate 16 (.i .u8) ++ [.i .u16]) := by kernel_rfl
  rw [e]
  exact ⟨trivial, ⟨rfl, rfl⟩, ⟨rfl, rfl⟩, ⟨rfl, rfl⟩, ⟨rfl, rfl⟩, ⟨rfl, rfl⟩, ⟨rfl, rfl⟩, ⟨rfl, rfl⟩, ⟨rfl, rfl⟩, ⟨rfl, rfl⟩, ⟨rfl, rfl⟩, ⟨rfl, rfl⟩, ⟨rfl, rfl⟩, ⟨rfl, rfl⟩, ⟨rfl, rfl⟩, ⟨rfl, rfl⟩, ⟨rfl, rfl⟩, ⟨rfl, rfl⟩, trivial⟩
set_option maxRecDepth 20000 in
theorem dgZ_ok (bs : List Int) : DgOk (dgZ bs) := ⟨fits_wd0, fits_en0, fits_en0⟩
set_option maxRecDepth 20000 in
theorem run_build_dg3 (A : Option Addr) (n c : Nat) (w : World) : (buildF 41 #[(3, .slice A n c)]).run Try.prog w = .ok (.agg (dgC wd0 en0 en0 (.slice A n c))) w := run_build w _ _ _ (by kernel_rfl)
attribute [local go_sem] blk_cell' blk_frozen'
attribute [local go_sem ↓] storeAt_pk buildF_dg
attribute [local go_sem] run_storePk run_build_dg3
end Go.Proofs.Ytcflebggepmmcaa
/- horologelaw23.heavy. -/
namespace Go.Proofs.Ytcflebggepmmcaa
open Go.RowKit

/-- what heavy answers: of at most 32 fields it tells all bytes (more of them may go around) -/
def Heavy23 (p : Pk) (m : Nat) (W : World) (e : Ending) (w' : World) : Prop := ∃ h : Bool, e = .returned (.bool h) ∧ (h = false → p.e.length ≤ 32 → totM p.e + p.m.length + m ≤ 5000) ∧ Mo W w'
attribute [local go_sem] blk_cell' blk_frozen'
end Go.Proofs.Ytcflebggepmmcaa
