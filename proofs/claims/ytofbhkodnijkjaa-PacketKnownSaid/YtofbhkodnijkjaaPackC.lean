/- horologeref23.Take: what bytes are as a packet, by the document. -/
import Derived.Test.YtofbhkodnijkjaaPackB
import Derived.Test.YtofbhkodnijkjaaQTail
namespace Go.Proofs.Ytofbhkodnijkjaa
open Go.RowKit

/-- a value that reads as a packet in every world that holds U's blocks, and w's from base on -/
def PkR (U : World) (base : Nat) (w : World) (p : Pk) (v : Value) : Prop := ∃ a1 c1 a2 c2, v = pkV p.h (.slice a1 p.e.length c1) (.slice a2 p.m.length c2) ∧
  ∀ Z : World, (∀ k, k < U.heap.size → Z.heap[k]? = U.heap[k]?) → (∀ k, base ≤ k → k < w.heap.size → Z.heap[k]? = w.heap[k]?) → ExtV Z (.slice a1 p.e.length c1) p.e ∧ ByteV Z (.slice a2 p.m.length c2) p.m
set_option maxRecDepth 20000 in
theorem PkF.r {base : Nat} {w : World} {p : Pk} {v : Value} (h : PkF base w p v) (U : World) : PkR U base w p v := by
  obtain ⟨a1, c1, a2, c2, e, h1, h2⟩ := h
  exact ⟨a1, c1, a2, c2, e, fun Z _ hZ => ⟨h1 Z hZ, h2 Z hZ⟩⟩
set_option maxRecDepth 20000 in
theorem pkR_nil (U : World) (b : Nat) (w : World) : PkR U b w pk0 (pkV ⟨0, 0, 0, 0, 0, 0, 0, 0, 0, 0, 0, 0, 0, 0, 0, 0⟩ (.slice none 0 0) (.slice none 0 0)) := (pkF_nil b w).r U
set_option maxRecDepth 20000 in
theorem PkR.to {U : World} {b b' : Nat} {w w' : World} {p : Pk} {v : Value} (h : PkR U b w p v) (hb : b' ≤ b) (hs : w.heap.size ≤ w'.heap.size) (k : ∀ k, b ≤ k → k < w.heap.size → w'.heap[k]? = w.heap[k]?) : PkR U b' w' p v := by
  obtain ⟨a1, c1, a2, c2, e, h1⟩ := h
  exact ⟨a1, c1, a2, c2, e, fun Z hU hZ => h1 Z hU fun i hi hi2 => (hZ i (by omega) (by omega)).trans (k i hi hi2)⟩
set_option maxRecDepth 20000 in
theorem PkR.mo {U : World} {b : Nat} {w w' : World} {p : Pk} {v : Value} (h : PkR U b w p v) (M : Mo w w') : PkR U b w' p v :=
  h.to (Nat.le_refl _) M.size fun k _ hk => by obtain ⟨J, d, rfl⟩ := M; exact more_get w J d k hk
def RTakeRet (r : Pk × Int) (U W : World) (e : Ending) (w' : World) : Prop := ∃ v, e = .returned (.tuple #[v, .int .i64 r.2]) ∧ PkR U W.heap.size w' r.1 v ∧ Mo W w'
attribute [local go_sem] blk_cell' blk_frozen'
attribute [local go_sem ↓] storeAt_pk
attribute [local go_sem] run_storePk
set_option maxRecDepth 20000 in
set_option maxHeartbeats 8000000 in
theorem rtake_any (n cap : Nat) (A : Option Addr) (bs : List Int) (U W : World) (hU : Mo U W) (hn : bs.length = n) (h : ByteS U A cap bs) (hlt : n ≤ 200000) :
    Calls Try.prog 11 #[.slice A n cap] W (RTakeRet (takeP bs) U W) := by
  have hlim := h.lim
  have hle := h.le
  rw [← refTakeP_eq]
  obtain ⟨r, hr⟩ : ∃ r, refTakeP bs = r := ⟨_, rfl⟩
  rw [hr]
  have HR := Lib.hid hr
  obtain ⟨R, hR⟩ : ∃ R, RTakeRet r U W = R := ⟨_, rfl⟩
  rw [hR]
  have RR := Lib.hid hR
  clear hR hr
  have HN := Lib.hid hn
  rw [hn] at hlim hle
  have HB := Lib.hid h
  have HU := Lib.hid hU
  clear hn h hU
  by_cases cn : n < 48
  · have cn' : ((n : Int) < 48) := by omega
    go_enter Try.func11, Try.ntmps11
    go_wp2_with fail
    refine ret_cell_tmp Try.results11 W.heap.size (pkV ⟨0, 0, 0, 0, 0, 0, 0, 0, 0, 0, 0, 0, 0, 0, 0, 0⟩ (.slice none 0 0) (.slice none 0 0)) rfl rfl (load_pk (inferInstance : Blk _ W.heap.size 42 _) rfl) ?_
    rw [← RR.out, ← HR.out]
    unfold refTakeP
    rw [if_pos (by rw [HN.out]; exact cn)]
    exact ⟨_, rfl, pkR_nil _ _ _, Mor.out⟩
  · obtain ⟨A', hB', hs1, -⟩ := HB.out.drop 48 (by rw [HN.out]; omega)
    rw [HN.out] at hs1
    have hs1 : ∀ w : World, (Instr.slice 31 (.slice A n cap) (some (.int .i64 48)) none none).run Try.prog w = .ok (.slice A' (n - 48) (cap - 48)) w := hs1
    have RD := Lib.hid (fun w (k : Mo W w) => read_own A' (cap - 48) (n - 48) (bs.drop 48) U w (HU.out.trans k) (by rw [List.length_drop, HN.out]) hB' (by omega))
    have TK := Lib.hid (fun w (k : Mo W w) => refTake20_any n cap A bs w HN.out ((HB.out.mo HU.out).mo k) (by omega))
    clear hB'
    go_enter Try.func11, Try.ntmps11
    go_wp2_with fail
    refine (RD.out _ Mor.out).mono ?_
    rintro e w1 ⟨A1, c1, A2, c2, A3, c3, m, rfl, HX, HB3, M1⟩
    have B0 : Blk w1 W.heap.size 42 (pkL hd0 (.slice none 0 0) (.slice none 0 0)).toArray := M1.blk inferInstance
    have S1 := M1.size
    have M1' := (Mor.out : Mo W _).trans M1
    have HMX := Lib.hid HX
    have HMB := Lib.hid HB3
    clear M1 HX HB3
    obtain ⟨ps, hps⟩ : ∃ ps, parse (bs.drop 48) 0 = ps := ⟨_, rfl⟩
    have HP := Lib.hid hps
    rw [hps] at HMX ⊢
    clear hps
    obtain ⟨k, hk⟩ : ∃ k, ps.length = k := ⟨_, rfl⟩
    have HK := Lib.hid hk
    rw [hk] at HMX ⊢
    clear hk
    obtain ⟨am, ham⟩ : ∃ am, decide ((nextM (tailOf (bs.drop 48))).1 = 3) = am := ⟨_, rfl⟩
    have HA := Lib.hid ham
    rw [ham]
    clear ham
    by_cases ck : 32 < k
    · have ck' : ((k : Int) > 32) := by omega
      go_wp2_with fail
      obtain ⟨w2, hw2⟩ : ∃ w2, w1.setRow W.heap.size (pkL ⟨0, 0, 0, 0, 0, 0, 0, 0, 0, 0, 0, 0, 0, 0, 0, 0⟩ (.slice none 0 0) (.slice none 0 0)).toArray = w2 := ⟨_, rfl⟩
      have B2 : Blk w2 W.heap.size 42 (pkL ⟨0, 0, 0, 0, 0, 0, 0, 0, 0, 0, 0, 0, 0, 0, 0, 0⟩ (.slice none 0 0) (.slice none 0 0)).toArray := by rw [← hw2]; exact blk_setRow B0
      have M2 : Mo W w2 := by rw [← hw2]; exact mo_setRow M1' (Nat.le_refl _) _
      rw [hw2]
      clear hw2
      refine ret_cell_tmp Try.results11 W.heap.size (pkV ⟨0, 0, 0, 0, 0, 0, 0, 0, 0, 0, 0, 0, 0, 0, 0, 0⟩ (.slice none 0 0) (.slice none 0 0)) rfl rfl (load_pk ((Mor.out : Mo w2 _).blk B2) rfl) ?_
      rw [← RR.out, ← HR.out]
      unfold refTakeP
      rw [if_neg (by rw [HN.out]; exact cn), if_pos (by rw [HP.out, HK.out]; exact ck)]
      exact ⟨_, rfl, pkR_nil _ _ _, M2.trans Mor.out⟩
    · have ck' : ¬ ((k : Int) > 32) := by omega
      cases am
      case true =>
        go_wp2_with fail
        obtain ⟨w2, hw2⟩ : ∃ w2, w1.setRow W.heap.size (pkL ⟨0, 0, 0, 0, 0, 0, 0, 0, 0, 0, 0, 0, 0, 0, 0, 0⟩ (.slice none 0 0) (.slice none 0 0)).toArray = w2 := ⟨_, rfl⟩
        have B2 : Blk w2 W.heap.size 42 (pkL ⟨0, 0, 0, 0, 0, 0, 0, 0, 0, 0, 0, 0, 0, 0, 0, 0⟩ (.slice none 0 0) (.slice none 0 0)).toArray := by rw [← hw2]; exact blk_setRow B0
        have M2 : Mo W w2 := by rw [← hw2]; exact mo_setRow M1' (Nat.le_refl _) _
        rw [hw2]
        clear hw2
        refine ret_cell_tmp Try.results11 W.heap.size (pkV ⟨0, 0, 0, 0, 0, 0, 0, 0, 0, 0, 0, 0, 0, 0, 0, 0⟩ (.slice none 0 0) (.slice none 0 0)) rfl rfl (load_pk ((Mor.out : Mo w2 _).blk B2) rfl) ?_
        rw [← RR.out, ← HR.out]
        unfold refTakeP
        rw [if_neg (by rw [HN.out]; exact cn), if_neg (by rw [HP.out, HK.out]; exact ck), if_pos (by have := HA.out; simpa using this)]
        exact ⟨_, rfl, pkR_nil _ _ _, M2.trans Mor.out⟩
      case false =>
        obtain ⟨hh, hhh⟩ : ∃ hh, hdOf bs = hh := ⟨_, rfl⟩
        have HHH := Lib.hid hhh
        rw [hhh] at TK
        clear hhh
        go_upto_region 8 with (fail)
        refine wp_region_mo_tail 7 (by kernel_rfl) (by kernel_rfl) ?_
        simp only [List.take_succ_cons, List.take_zero, List.drop_succ_cons, List.drop_zero]
        repeat (go_big_quiet_step (with_reducible exact quiet_mo (TK.out _ (M1'.trans Mor.out))))
        refine wpQuiet_nil ?_
        intro _ hw'
        obtain ⟨⟨J2, d2⟩, hw''⟩ := hw'
        subst hw''
        go_wp2_with fail
        obtain ⟨w2, hw2⟩ : ∃ w2, w1.setRow W.heap.size (pkL hh (.slice A1 k c1) (.slice A3 m c3)).toArray = w2 := ⟨_, rfl⟩
        have B2 : Blk w2 W.heap.size 42 (pkL hh (.slice A1 k c1) (.slice A3 m c3)).toArray := by rw [← hw2]; exact blk_setRow B0
        have M2 : Mo W w2 := by rw [← hw2]; exact mo_setRow M1' (Nat.le_refl _) _
        have K2 : ∀ i, W.heap.size + 1 ≤ i → w2.heap[i]? = w1.heap[i]? := fun i h1 => by
          rw [← hw2]
          exact setRow_get_ne w1 W.heap.size i _ (by omega)
        have K3 : w1.heap.size = w2.heap.size := by rw [← hw2]; exact (setRow_size' _ _ _).symm
        rw [hw2]
        clear hw2
        refine ret_cell_tmp Try.results11 W.heap.size (pkV hh (.slice A1 k c1) (.slice A3 m c3)) rfl rfl (load_pk ((Mor.out : Mo w2 _).blk B2) rfl) ?_
        rw [← RR.out, ← HR.out]
        unfold refTakeP
        rw [if_neg (by rw [HN.out]; exact cn), if_neg (by rw [HP.out, HK.out]; exact ck), if_neg (by have := HA.out; simpa using this), HHH.out, HP.out]
        have HX := HMX.out
        have HB : ByteV U (.slice A3 m c3) (macM (bs.drop 48)) := HMB.out
        obtain ⟨mac, hmac⟩ : ∃ mac, macM (bs.drop 48) = mac := ⟨_, rfl⟩
        rw [hmac] at HB ⊢
        obtain ⟨A3', c3', e3, hb3⟩ := HB
        injection e3 with e3 e4 e5
        subst e3 e5
        have HK' := HK.out
        have S : (W.alloc (Obj.cells (pkL hd0 (.slice none 0 0) (.slice none 0 0)).toArray 42)).heap.size = W.heap.size + 1 := by simp
        refine ⟨_, rfl, ⟨A1, c1, A3, c3, ?_, fun Z hZ1 hZ2 => ⟨?_, ?_⟩⟩, M2.trans Mor.out⟩
        · simp only [List.length_map, HK', e4]
        · simp only [List.length_map, HK']
          refine HX Z hZ1 fun i h1 h2 => ?_
          have h1' : W.heap.size + 1 ≤ i := by rw [← S]; exact h1
          rw [hZ2 i (by omega) (by rw [more_size, World.size_alloc, ← K3]; omega), more_get _ _ _ _ (by rw [World.size_alloc, ← K3]; omega), Below.heap_alloc _ _ _ (by omega), K2 i h1']
        · exact ByteV.held ⟨A3, c3, rfl, hb3⟩ hZ1
end Go.Proofs.Ytofbhkodnijkjaa
