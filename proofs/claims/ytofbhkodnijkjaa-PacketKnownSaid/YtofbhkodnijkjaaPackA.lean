/- packet.Take: what bytes are as a packet. -/
import Derived.Test.YtofbhkodnijkjaaBigS
import Derived.Test.YtofbhkodnijkjaaExtDO
namespace Go.Proofs.Ytofbhkodnijkjaa
open Go.RowKit

structure Pk where
  h : Hd
  e : List Fld
  m : List Int
def pk0 : Pk := ⟨hd0, [], []⟩
def takeP (bs : List Int) : Pk × Int := if bs.length < 48 then (pk0, 8) else if (takeM (bs.drop 48)).2.2 = 0 then (⟨hdOf bs, (takeM (bs.drop 48)).1, (takeM (bs.drop 48)).2.1⟩, 0) else (pk0, (takeM (bs.drop 48)).2.2)
abbrev pkL (h : Hd) (x m : Value) : List Value := [.int .u8 h.l, .int .u8 h.v, .int .u8 h.m, .int .u8 h.s, .int .i8 h.po, .int .i8 h.pr, .int .u32 h.rd, .int .u32 h.rp, .int .u8 h.a, .int .u8 h.b, .int .u8 h.c, .int .u8 h.d, .int .u64 h.f, .int .u64 h.o, .int .u64 h.r, .int .u64 h.x, x, m]
abbrev pkV (h : Hd) (x m : Value) : Value := .agg (pkL h x m).toArray
/-- a value that reads as a packet, whose parts lie in w's blocks from base on -/
def PkF (base : Nat) (w : World) (p : Pk) (v : Value) : Prop := ∃ a1 c1 a2 c2, v = pkV p.h (.slice a1 p.e.length c1) (.slice a2 p.m.length c2) ∧ FExt base w (.slice a1 p.e.length c1) p.e ∧ FByte base w (.slice a2 p.m.length c2) p.m
def PTakeRet (r : Pk × Int) (W : World) (e : Ending) (w' : World) : Prop := ∃ v, e = .returned (.tuple #[v, .int .i64 r.2]) ∧ PkF W.heap.size w' r.1 v ∧ Mo W w'
set_option maxRecDepth 20000 in
theorem pkF_nil (b : Nat) (w : World) : PkF b w pk0 (pkV ⟨0, 0, 0, 0, 0, 0, 0, 0, 0, 0, 0, 0, 0, 0, 0, 0⟩ (.slice none 0 0) (.slice none 0 0)) := ⟨none, 0, none, 0, rfl, fext_nil _ _, fbyte_nil _ _⟩
set_option maxRecDepth 20000 in
theorem fext_form {b : Nat} {w : World} {v : Value} {l : List Fld} (h : FExt b w v l) : ∃ a c, v = .slice a l.length c := by
  obtain ⟨a, c, e, _⟩ := h.now
  exact ⟨a, c, e⟩
set_option maxRecDepth 20000 in
theorem fbyte_form {b : Nat} {w : World} {v : Value} {l : List Int} (h : FByte b w v l) : ∃ a c, v = .slice a l.length c := by
  obtain ⟨a, c, e, _⟩ := h.now
  exact ⟨a, c, e⟩
set_option maxRecDepth 20000 in
theorem byteS_none (w : World) : ByteS w none 0 [] := ⟨by simp, by simp, by simp, fun _ => rfl, .inl rfl⟩
set_option maxRecDepth 20000 in
theorem extS_none (w : World) : ExtS w none 0 [] := ⟨by simp, by simp, fun _ => rfl, .inl rfl⟩
attribute [local go_sem] blk_cell' blk_frozen'
attribute [local go_sem ↓] storeAt_hd storeAt_pk
attribute [local go_sem] run_storeHdAt run_storePk
set_option maxRecDepth 20000 in
set_option maxHeartbeats 8000000 in
theorem ptake_any (n cap : Nat) (A : Option Addr) (bs : List Int) (W : World) (hn : bs.length = n) (h : ByteS W A cap bs) :
    Calls Try.prog 10 #[.slice A n cap] W (PTakeRet (takeP bs) W) := by
  have hlim := h.lim
  have hle := h.le
  obtain ⟨r, hr⟩ : ∃ r, takeP bs = r := ⟨_, rfl⟩
  rw [hr]
  have HR := Lib.hid hr
  obtain ⟨R, hR⟩ : ∃ R, PTakeRet r W = R := ⟨_, rfl⟩
  rw [hR]
  have RR := Lib.hid hR
  clear hR hr
  have HT := Lib.hid (fun w (k : Mo W w) => htake_any n cap A bs w hn (h.mo k))
  have HN := Lib.hid hn
  rw [hn] at hlim hle
  have HB := Lib.hid h
  clear hn h
  by_cases cn : n < 48
  · go_enter Try.func10, Try.ntmps10
    go_wp2_with fail
    refine (HT.out _ Mor.out).mono ?_
    rintro e w1 ⟨rfl, M1⟩
    rw [HN.out, if_pos cn, if_pos cn]
    have B0 : Blk w1 W.heap.size 42 (pkL hd0 (.slice none 0 0) (.slice none 0 0)).toArray := M1.blk inferInstance
    have M1' := (Mor.out : Mo W _).trans M1
    clear M1
    go_wp2_with fail
    obtain ⟨w2, hw2⟩ : ∃ w2, w1.setRow W.heap.size (pkL ⟨0, 0, 0, 0, 0, 0, 0, 0, 0, 0, 0, 0, 0, 0, 0, 0⟩ (.slice none 0 0) (.slice none 0 0)).toArray = w2 := ⟨_, rfl⟩
    have B2 : Blk w2 W.heap.size 42 (pkL ⟨0, 0, 0, 0, 0, 0, 0, 0, 0, 0, 0, 0, 0, 0, 0, 0⟩ (.slice none 0 0) (.slice none 0 0)).toArray := by rw [← hw2]; exact blk_setRow B0
    have M2 : Mo W w2 := by rw [← hw2]; exact mo_setRow M1' (Nat.le_refl _) _
    have B2' := (Mor.out : Mo w2 (w2.alloc (.cells (hdC hd0) 39))).blk B2
    rw [hw2]
    clear hw2
    refine ret_cell_tmp Try.results10 W.heap.size (pkV ⟨0, 0, 0, 0, 0, 0, 0, 0, 0, 0, 0, 0, 0, 0, 0, 0⟩ (.slice none 0 0) (.slice none 0 0)) rfl rfl (load_pk B2' rfl) ?_
    rw [← RR.out, ← HR.out]
    unfold takeP
    rw [if_pos (by rw [HN.out]; exact cn)]
    exact ⟨_, rfl, pkF_nil _ _, M2.trans Mor.out⟩
  · obtain ⟨A', hB', hs1, -⟩ := HB.out.drop 48 (by rw [HN.out]; omega)
    rw [HN.out] at hs1
    have hs1 : ∀ w : World, (Instr.slice 31 (.slice A n cap) (some (.int .i64 48)) none none).run Try.prog w = .ok (.slice A' (n - 48) (cap - 48)) w := hs1
    have TK := Lib.hid (fun w (k : Mo W w) => take_own A' (cap - 48) (n - 48) (bs.drop 48) w (by rw [List.length_drop, HN.out]) (hB'.mo k))
    clear hB'
    go_enter Try.func10, Try.ntmps10
    go_wp2_with fail
    refine (HT.out _ Mor.out).mono ?_
    rintro e w0 ⟨rfl, M0⟩
    rw [HN.out, if_neg cn, if_neg cn]
    have B00 : Blk w0 W.heap.size 42 (pkL hd0 (.slice none 0 0) (.slice none 0 0)).toArray := M0.blk inferInstance
    have M0' := (Mor.out : Mo W _).trans M0
    clear M0
    obtain ⟨hh, hhh⟩ : ∃ hh, hdOf bs = hh := ⟨_, rfl⟩
    rw [hhh]
    have HHH := Lib.hid hhh
    clear hhh
    go_wp2_with fail
    refine (TK.out _ (M0'.trans Mor.out)).mono ?_
    rintro e w1 ⟨v1, v2, rfl, X1, X2, M1⟩
    obtain ⟨a1, c1, rfl⟩ := fext_form X1
    obtain ⟨a2, c2, rfl⟩ := fbyte_form X2
    have B0 : Blk w1 W.heap.size 42 (pkL hd0 (.slice none 0 0) (.slice none 0 0)).toArray := M1.blk inferInstance
    have Bh : Blk w1 w0.heap.size 39 (hdC hh) := M1.blk inferInstance
    have M1' := (M0'.trans Mor.out).trans M1
    clear M1
    obtain ⟨ts, hts⟩ : ∃ ts, takeM (bs.drop 48) = ts := ⟨_, rfl⟩
    have HT2 := Lib.hid hts
    rw [hts] at X1 X2 ⊢
    clear hts
    obtain ⟨tl, tm, tc⟩ := ts
    simp only at X1 X2
    have HX1 := Lib.hid X1
    have HX2 := Lib.hid X2
    clear X1 X2
    simp only
    generalize hn1 : tl.length = n1 at *
    generalize hn2 : tm.length = n2 at *
    have HN1 := Lib.hid hn1
    have HN2 := Lib.hid hn2
    clear hn1 hn2
    by_cases ct : tc = 0
    · subst ct
      go_wp2_with fail
      obtain ⟨w2, hw2⟩ : ∃ w2, w1.setRow W.heap.size (pkL hh (.slice a1 n1 c1) (.slice a2 n2 c2)).toArray = w2 := ⟨_, rfl⟩
      have B2 : Blk w2 W.heap.size 42 (pkL hh (.slice a1 n1 c1) (.slice a2 n2 c2)).toArray := by rw [← hw2]; exact blk_setRow B0
      have M2 : Mo W w2 := by rw [← hw2]; exact mo_setRow M1' (Nat.le_refl _) _
      have hS := M0'.size
      have K2 : ∀ k, w0.heap.size + 1 ≤ k → k < w1.heap.size → w2.heap[k]? = w1.heap[k]? := fun k h1 _ => by
        have h3 := B00.lt
        rw [← hw2]
        exact setRow_get_ne w1 W.heap.size k _ (by omega)
      have K3 : w1.heap.size ≤ w2.heap.size := by rw [← hw2]; exact Nat.le_of_eq (setRow_size' _ _ _).symm
      rw [hw2]
      clear hw2
      refine ret_cell_tmp Try.results10 W.heap.size (pkV hh (.slice a1 n1 c1) (.slice a2 n2 c2)) rfl rfl (load_pk B2 rfl) ?_
      rw [← RR.out, ← HR.out]
      unfold takeP
      rw [if_neg (by rw [HN.out]; exact cn), HT2.out, if_pos rfl]
      have HH := HHH.out
      obtain rfl := HN1.out
      obtain rfl := HN2.out
      refine ⟨_, rfl, ⟨a1, c1, a2, c2, by rw [HH], ?_, ?_⟩, M2⟩
      · have h1 := HX1.out
        simp only [World.size_alloc] at h1
        exact h1.to (by omega) K3 K2
      · have h1 := HX2.out
        simp only [World.size_alloc] at h1
        exact h1.to (by omega) K3 K2
    · have d0 : (tc != 0) = true := by simp [ct]
      have CT := Lib.hid ct
      clear ct
      go_wp2_with fail
      obtain ⟨w2, hw2⟩ : ∃ w2, w1.setRow W.heap.size (pkL ⟨0, 0, 0, 0, 0, 0, 0, 0, 0, 0, 0, 0, 0, 0, 0, 0⟩ (.slice none 0 0) (.slice none 0 0)).toArray = w2 := ⟨_, rfl⟩
      have B2 : Blk w2 W.heap.size 42 (pkL ⟨0, 0, 0, 0, 0, 0, 0, 0, 0, 0, 0, 0, 0, 0, 0, 0⟩ (.slice none 0 0) (.slice none 0 0)).toArray := by rw [← hw2]; exact blk_setRow B0
      have M2 : Mo W w2 := by rw [← hw2]; exact mo_setRow M1' (Nat.le_refl _) _
      have B2' := B2
      rw [hw2]
      clear hw2
      refine ret_cell_tmp Try.results10 W.heap.size (pkV ⟨0, 0, 0, 0, 0, 0, 0, 0, 0, 0, 0, 0, 0, 0, 0, 0⟩ (.slice none 0 0) (.slice none 0 0)) rfl rfl (load_pk B2' rfl) ?_
      rw [← RR.out, ← HR.out]
      unfold takeP
      rw [if_neg (by rw [HN.out]; exact cn), HT2.out, if_neg CT.out]
      exact ⟨_, rfl, pkF_nil _ _, M2⟩
end Go.Proofs.Ytofbhkodnijkjaa
