/- packet.Class and the reference's: what a datagram is (printed by gen/genpacke.py). -/
import Derived.Test.YtofbhkodnijkjaaPackD
namespace Go.Proofs.Ytofbhkodnijkjaa
open Go.RowKit

/-- a datagram: its moment's cells, its ends' cells, its bytes -/
structure Dg where
  at_ : Array Value
  src : Array Value
  dst : Array Value
  bs : List Int
structure DgOk (d : Dg) : Prop where
  at_ : Fits (ksOf 24) d.at_.toList
  src : Fits (ksOf 30) d.src.toList
  dst : Fits (ksOf 30) d.dst.toList
def dgC (a s t : Array Value) (x : Value) : Array Value := a ++ s ++ t ++ #[x]
def DgV (W : World) (d : Dg) (v : Value) : Prop := ∃ A cap, v = .agg (dgC d.at_ d.src d.dst (.slice A d.bs.length cap)) ∧ ByteS W A cap d.bs
set_option maxRecDepth 20000 in
theorem DgV.mo {W w : World} {d : Dg} {v : Value} (h : DgV W d v) (k : Mo W w) : DgV w d v := by
  obtain ⟨A, cap, e, hb⟩ := h
  exact ⟨A, cap, e, hb.mo k⟩
set_option maxRecDepth 20000 in
theorem fits_size {T : TypeId} {n : Nat} (k : FlatT T n) {cs : Array Value} (h : Fits (ksOf T) cs.toList) : cs.size = n := by rw [← k.len, ← h.len, Array.length_toList]
set_option maxRecDepth 20000 in
theorem sz_wide {a : Array Value} (h : Fits (ksOf 24) a.toList) : SzA a 2 := ⟨fits_size fl_wide h⟩
set_option maxRecDepth 20000 in
theorem sz_ends {a : Array Value} (h : Fits (ksOf 30) a.toList) : SzA a 18 := ⟨fits_size fl_ends h⟩
set_option maxRecDepth 20000 in
theorem dg_b (a s t : Array Value) (x : Value) [ha : SzA a 2] [hs : SzA s 18] [ht : SzA t 18] : (dgC a s t x)[38]? = some x := by
  have h1 := ha.out
  have h2 := hs.out
  have h3 := ht.out
  unfold dgC
  rw [Array.getElem?_append_right (by simp [h1, h2, h3])]
  simp [h1, h2, h3]
set_option maxRecDepth 20000 in
theorem dg_at (a s t : Array Value) (x : Value) [ha : SzA a 2] : (dgC a s t x).extract 0 2 = a := by
  have h1 := ha.out
  apply Array.toList_inj.1
  unfold dgC
  simp only [Array.toList_extract, Array.toList_append, List.extract_eq_take_drop]
  rw [List.append_assoc, List.append_assoc, List.drop_zero, List.take_left' (by simp [h1])]
set_option maxRecDepth 20000 in
theorem dg_src (a s t : Array Value) (x : Value) [ha : SzA a 2] [hs : SzA s 18] : (dgC a s t x).extract 2 20 = s := by
  have h1 := ha.out
  have h2 := hs.out
  apply Array.toList_inj.1
  unfold dgC
  simp only [Array.toList_extract, Array.toList_append, List.extract_eq_take_drop]
  rw [List.append_assoc, List.append_assoc, List.drop_left' (by simp [h1])]
  rw [List.take_left' (by simp [h2])]
set_option maxRecDepth 20000 in
theorem dg_dst (a s t : Array Value) (x : Value) [ha : SzA a 2] [hs : SzA s 18] [ht : SzA t 18] : (dgC a s t x).extract 20 38 = t := by
  have h1 := ha.out
  have h2 := hs.out
  have h3 := ht.out
  apply Array.toList_inj.1
  unfold dgC
  simp only [Array.toList_extract, Array.toList_append, List.extract_eq_take_drop]
  rw [List.append_assoc, List.drop_left' (by simp [h1, h2])]
  rw [List.take_left' (by simp [h3])]
set_option maxRecDepth 20000 in
instance (a s t : Array Value) (x : Value) [ha : SzA a 2] [hs : SzA s 18] [ht : SzA t 18] : SzA (dgC a s t x) 39 := ⟨by
  have h1 := ha.out
  have h2 := hs.out
  have h3 := ht.out
  unfold dgC
  simp [h1, h2, h3]⟩
/-- what a packet is -/
def kindP (h : Hd) : Int := if h.m = 3 ∧ h.x = 0 ∨ h.m = 4 ∧ h.o = 0 then 3 else if h.m = 3 then 1 else if h.m = 4 then 4 else 8
def classP (bs : List Int) : Pk × Int := if (takeP bs).2 = 0 then ((takeP bs).1, kindP (takeP bs).1.h) else (pk0, 0)
attribute [local go_sem] blk_cell' blk_frozen' dg_b
attribute [local go_sem ↓] storeAt_pk
attribute [local go_sem] run_storePk
set_option maxRecDepth 20000 in
set_option maxHeartbeats 8000000 in
theorem class_any (d : Dg) (v : Value) (W : World) (hv : DgV W d v) (kd : DgOk d) :
    Calls Try.prog 13 #[v] W fun e w' => ∃ u, e = .returned (.tuple #[u, .int .u8 (classP d.bs).2]) ∧ PkF W.heap.size w' (classP d.bs).1 u ∧ Mo W w' := by
  obtain ⟨A, cap, rfl, hb⟩ := hv
  have za := sz_wide kd.at_
  have zs := sz_ends kd.src
  have zt := sz_ends kd.dst
  obtain ⟨r, hr⟩ : ∃ r, classP d.bs = r := ⟨_, rfl⟩
  rw [hr]
  have HR := Lib.hid hr
  obtain ⟨R, hR⟩ : ∃ R, (fun (e : Ending) (w' : World) => ∃ u, e = .returned (.tuple #[u, .int .u8 r.2]) ∧ PkF W.heap.size w' r.1 u ∧ Mo W w') = R := ⟨_, rfl⟩
  rw [hR]
  have RR := Lib.hid hR
  clear hR hr kd
  obtain ⟨da, ds, dd, bs⟩ := d
  simp only at za zs zt hb HR ⊢
  have TK := Lib.hid (fun w (k : Mo W w) => ptake_any bs.length cap A bs w rfl (hb.mo k))
  clear hb
  generalize bs.length = n at *
  obtain ⟨tp, htp⟩ : ∃ tp, takeP bs = tp := ⟨_, rfl⟩
  have HT := Lib.hid htp
  rw [htp] at TK
  clear htp
  go_enter Try.func13, Try.ntmps13
  go_wp2_with fail
  refine (TK.out _ Mor.out).mono ?_
  rintro e w1 ⟨u, rfl, ⟨a1, c1, a2, c2, rfl, X1, X2⟩, M1⟩
  have B0 : Blk w1 (W.heap.size + 1) 42 (pkL hd0 (.slice none 0 0) (.slice none 0 0)).toArray := M1.blk inferInstance
  have S1 := M1.size
  have M1' := (Mor.out : Mo W _).trans M1
  have HX1 := Lib.hid X1
  have HX2 := Lib.hid X2
  clear X1 X2 M1
  obtain ⟨⟨ph, pe, pm⟩, tc⟩ := tp
  simp only at HX1 HX2 HT ⊢
  generalize hn1 : pe.length = n1 at *
  generalize hn2 : pm.length = n2 at *
  have HN1 := Lib.hid hn1
  have HN2 := Lib.hid hn2
  clear hn1 hn2
  by_cases ct : tc = 0
  · subst ct
    by_cases m3 : ph.m = 3
    · have d1 : (ph.m == 3) = true := by simp [m3]
      have d2 : (ph.m == 4) = false := by simp [m3]
      by_cases x0 : ph.x = 0
      · have d3 : (ph.x == 0) = true := by simp [x0]
        have D3 := Lib.hid m3
        have D4 := Lib.hid x0
        clear m3 x0
        go_wp2_with fail
        obtain ⟨w2, hw2⟩ : ∃ w2, w1.setRow (W.heap.size + 1) (pkL ph (.slice a1 n1 c1) (.slice a2 n2 c2)).toArray = w2 := ⟨_, rfl⟩
        have B2 : Blk w2 (W.heap.size + 1) 42 (pkL ph (.slice a1 n1 c1) (.slice a2 n2 c2)).toArray := by rw [← hw2]; exact blk_setRow B0
        have M2 : Mo W w2 := by rw [← hw2]; exact mo_setRow M1' (by omega) _
        have K2 : ∀ i, W.heap.size + 2 ≤ i → w2.heap[i]? = w1.heap[i]? := fun i h1 => by rw [← hw2]; exact setRow_get_ne w1 (W.heap.size + 1) i _ (by omega)
        have K3 : w1.heap.size = w2.heap.size := by rw [← hw2]; exact (setRow_size' _ _ _).symm
        rw [hw2]
        clear hw2
        refine ret_cell_tmp Try.results13 (W.heap.size + 1) (pkV ph (.slice a1 n1 c1) (.slice a2 n2 c2)) rfl rfl (load_pk ((Mor.out : Mo w2 _).blk B2) rfl) ?_
        rw [← RR.out, ← HR.out]
        unfold classP
        rw [HT.out]
        rw [if_pos rfl]
        simp only
        have HK : kindP ph = 3 := by unfold kindP; simp [D3.out, D4.out]
        rw [HK]
        obtain rfl := HN1.out
        obtain rfl := HN2.out
        have g1 := HX1.out
        have g2 := HX2.out
        simp only [World.size_alloc] at g1 g2
        refine ⟨_, rfl, ⟨a1, c1, a2, c2, rfl, g1.to (by omega) (by rw [World.size_alloc, ← K3]; omega) fun i h1 h2 => ?_, g2.to (by omega) (by rw [World.size_alloc, ← K3]; omega) fun i h1 h2 => ?_⟩, M2.trans Mor.out⟩
        · rw [Below.heap_alloc _ _ _ (by rw [← K3]; exact h2), K2 i h1]
        · rw [Below.heap_alloc _ _ _ (by rw [← K3]; exact h2), K2 i h1]
      · have d3 : (ph.x == 0) = false := by simp [x0]
        have D3 := Lib.hid m3
        have D4 := Lib.hid x0
        clear m3 x0
        go_wp2_with fail
        obtain ⟨w2, hw2⟩ : ∃ w2, w1.setRow (W.heap.size + 1) (pkL ph (.slice a1 n1 c1) (.slice a2 n2 c2)).toArray = w2 := ⟨_, rfl⟩
        have B2 : Blk w2 (W.heap.size + 1) 42 (pkL ph (.slice a1 n1 c1) (.slice a2 n2 c2)).toArray := by rw [← hw2]; exact blk_setRow B0
        have M2 : Mo W w2 := by rw [← hw2]; exact mo_setRow M1' (by omega) _
        have K2 : ∀ i, W.heap.size + 2 ≤ i → w2.heap[i]? = w1.heap[i]? := fun i h1 => by rw [← hw2]; exact setRow_get_ne w1 (W.heap.size + 1) i _ (by omega)
        have K3 : w1.heap.size = w2.heap.size := by rw [← hw2]; exact (setRow_size' _ _ _).symm
        rw [hw2]
        clear hw2
        refine ret_cell_tmp Try.results13 (W.heap.size + 1) (pkV ph (.slice a1 n1 c1) (.slice a2 n2 c2)) rfl rfl (load_pk ((Mor.out : Mo w2 _).blk B2) rfl) ?_
        rw [← RR.out, ← HR.out]
        unfold classP
        rw [HT.out]
        rw [if_pos rfl]
        simp only
        have HK : kindP ph = 1 := by unfold kindP; simp [D3.out, D4.out]
        rw [HK]
        obtain rfl := HN1.out
        obtain rfl := HN2.out
        have g1 := HX1.out
        have g2 := HX2.out
        simp only [World.size_alloc] at g1 g2
        refine ⟨_, rfl, ⟨a1, c1, a2, c2, rfl, g1.to (by omega) (by rw [World.size_alloc, ← K3]; omega) fun i h1 h2 => ?_, g2.to (by omega) (by rw [World.size_alloc, ← K3]; omega) fun i h1 h2 => ?_⟩, M2.trans Mor.out⟩
        · rw [Below.heap_alloc _ _ _ (by rw [← K3]; exact h2), K2 i h1]
        · rw [Below.heap_alloc _ _ _ (by rw [← K3]; exact h2), K2 i h1]
    · have d1 : (ph.m == 3) = false := by simp [m3]
      by_cases m4 : ph.m = 4
      · have d2 : (ph.m == 4) = true := by simp [m4]
        by_cases o0 : ph.o = 0
        · have d3 : (ph.o == 0) = true := by simp [o0]
          have D3 := Lib.hid m4
          have D4 := Lib.hid o0
          clear m3 m4 o0
          go_wp2_with fail
          obtain ⟨w2, hw2⟩ : ∃ w2, w1.setRow (W.heap.size + 1) (pkL ph (.slice a1 n1 c1) (.slice a2 n2 c2)).toArray = w2 := ⟨_, rfl⟩
          have B2 : Blk w2 (W.heap.size + 1) 42 (pkL ph (.slice a1 n1 c1) (.slice a2 n2 c2)).toArray := by rw [← hw2]; exact blk_setRow B0
          have M2 : Mo W w2 := by rw [← hw2]; exact mo_setRow M1' (by omega) _
          have K2 : ∀ i, W.heap.size + 2 ≤ i → w2.heap[i]? = w1.heap[i]? := fun i h1 => by rw [← hw2]; exact setRow_get_ne w1 (W.heap.size + 1) i _ (by omega)
          have K3 : w1.heap.size = w2.heap.size := by rw [← hw2]; exact (setRow_size' _ _ _).symm
          rw [hw2]
          clear hw2
          refine ret_cell_tmp Try.results13 (W.heap.size + 1) (pkV ph (.slice a1 n1 c1) (.slice a2 n2 c2)) rfl rfl (load_pk ((Mor.out : Mo w2 _).blk B2) rfl) ?_
          rw [← RR.out, ← HR.out]
          unfold classP
          rw [HT.out]
          rw [if_pos rfl]
          simp only
          have HK : kindP ph = 3 := by unfold kindP; simp [D3.out, D4.out]
          rw [HK]
          obtain rfl := HN1.out
          obtain rfl := HN2.out
          have g1 := HX1.out
          have g2 := HX2.out
          simp only [World.size_alloc] at g1 g2
          refine ⟨_, rfl, ⟨a1, c1, a2, c2, rfl, g1.to (by omega) (by rw [World.size_alloc, ← K3]; omega) fun i h1 h2 => ?_, g2.to (by omega) (by rw [World.size_alloc, ← K3]; omega) fun i h1 h2 => ?_⟩, M2.trans Mor.out⟩
          · rw [Below.heap_alloc _ _ _ (by rw [← K3]; exact h2), K2 i h1]
          · rw [Below.heap_alloc _ _ _ (by rw [← K3]; exact h2), K2 i h1]
        · have d3 : (ph.o == 0) = false := by simp [o0]
          have D3 := Lib.hid m4
          have D4 := Lib.hid o0
          clear m3 m4 o0
          go_wp2_with fail
          obtain ⟨w2, hw2⟩ : ∃ w2, w1.setRow (W.heap.size + 1) (pkL ph (.slice a1 n1 c1) (.slice a2 n2 c2)).toArray = w2 := ⟨_, rfl⟩
          have B2 : Blk w2 (W.heap.size + 1) 42 (pkL ph (.slice a1 n1 c1) (.slice a2 n2 c2)).toArray := by rw [← hw2]; exact blk_setRow B0
          have M2 : Mo W w2 := by rw [← hw2]; exact mo_setRow M1' (by omega) _
          have K2 : ∀ i, W.heap.size + 2 ≤ i → w2.heap[i]? = w1.heap[i]? := fun i h1 => by rw [← hw2]; exact setRow_get_ne w1 (W.heap.size + 1) i _ (by omega)
          have K3 : w1.heap.size = w2.heap.size := by rw [← hw2]; exact (setRow_size' _ _ _).symm
          rw [hw2]
          clear hw2
          refine ret_cell_tmp Try.results13 (W.heap.size + 1) (pkV ph (.slice a1 n1 c1) (.slice a2 n2 c2)) rfl rfl (load_pk ((Mor.out : Mo w2 _).blk B2) rfl) ?_
          rw [← RR.out, ← HR.out]
          unfold classP
          rw [HT.out]
          rw [if_pos rfl]
          simp only
          have HK : kindP ph = 4 := by unfold kindP; simp [D3.out, D4.out]
          rw [HK]
          obtain rfl := HN1.out
          obtain rfl := HN2.out
          have g1 := HX1.out
          have g2 := HX2.out
          simp only [World.size_alloc] at g1 g2
          refine ⟨_, rfl, ⟨a1, c1, a2, c2, rfl, g1.to (by omega) (by rw [World.size_alloc, ← K3]; omega) fun i h1 h2 => ?_, g2.to (by omega) (by rw [World.size_alloc, ← K3]; omega) fun i h1 h2 => ?_⟩, M2.trans Mor.out⟩
          · rw [Below.heap_alloc _ _ _ (by rw [← K3]; exact h2), K2 i h1]
          · rw [Below.heap_alloc _ _ _ (by rw [← K3]; exact h2), K2 i h1]
      · have d2 : (ph.m == 4) = false := by simp [m4]
        have D3 := Lib.hid m3
        have D4 := Lib.hid m4
        clear m3 m4
        go_wp2_with fail
        obtain ⟨w2, hw2⟩ : ∃ w2, w1.setRow (W.heap.size + 1) (pkL ph (.slice a1 n1 c1) (.slice a2 n2 c2)).toArray = w2 := ⟨_, rfl⟩
        have B2 : Blk w2 (W.heap.size + 1) 42 (pkL ph (.slice a1 n1 c1) (.slice a2 n2 c2)).toArray := by rw [← hw2]; exact blk_setRow B0
        have M2 : Mo W w2 := by rw [← hw2]; exact mo_setRow M1' (by omega) _
        have K2 : ∀ i, W.heap.size + 2 ≤ i → w2.heap[i]? = w1.heap[i]? := fun i h1 => by rw [← hw2]; exact setRow_get_ne w1 (W.heap.size + 1) i _ (by omega)
        have K3 : w1.heap.size = w2.heap.size := by rw [← hw2]; exact (setRow_size' _ _ _).symm
        rw [hw2]
        clear hw2
        refine ret_cell_tmp Try.results13 (W.heap.size + 1) (pkV ph (.slice a1 n1 c1) (.slice a2 n2 c2)) rfl rfl (load_pk ((Mor.out : Mo w2 _).blk B2) rfl) ?_
        rw [← RR.out, ← HR.out]
        unfold classP
        rw [HT.out]
        rw [if_pos rfl]
        simp only
        have HK : kindP ph = 8 := by unfold kindP; simp [D3.out, D4.out]
        rw [HK]
        obtain rfl := HN1.out
        obtain rfl := HN2.out
        have g1 := HX1.out
        have g2 := HX2.out
        simp only [World.size_alloc] at g1 g2
        refine ⟨_, rfl, ⟨a1, c1, a2, c2, rfl, g1.to (by omega) (by rw [World.size_alloc, ← K3]; omega) fun i h1 h2 => ?_, g2.to (by omega) (by rw [World.size_alloc, ← K3]; omega) fun i h1 h2 => ?_⟩, M2.trans Mor.out⟩
        · rw [Below.heap_alloc _ _ _ (by rw [← K3]; exact h2), K2 i h1]
        · rw [Below.heap_alloc _ _ _ (by rw [← K3]; exact h2), K2 i h1]
  · have d0 : (tc != 0) = true := by simp [ct]
    have CT := Lib.hid ct
    clear ct
    go_wp2_with fail
    obtain ⟨w2, hw2⟩ : ∃ w2, w1.setRow (W.heap.size + 1) (pkL ⟨0, 0, 0, 0, 0, 0, 0, 0, 0, 0, 0, 0, 0, 0, 0, 0⟩ (.slice none 0 0) (.slice none 0 0)).toArray = w2 := ⟨_, rfl⟩
    have B2 : Blk w2 (W.heap.size + 1) 42 (pkL ⟨0, 0, 0, 0, 0, 0, 0, 0, 0, 0, 0, 0, 0, 0, 0, 0⟩ (.slice none 0 0) (.slice none 0 0)).toArray := by rw [← hw2]; exact blk_setRow B0
    have M2 : Mo W w2 := by rw [← hw2]; exact mo_setRow M1' (by omega) _
    have K2 : ∀ i, W.heap.size + 2 ≤ i → w2.heap[i]? = w1.heap[i]? := fun i h1 => by rw [← hw2]; exact setRow_get_ne w1 (W.heap.size + 1) i _ (by omega)
    have K3 : w1.heap.size = w2.heap.size := by rw [← hw2]; exact (setRow_size' _ _ _).symm
    rw [hw2]
    clear hw2
    refine ret_cell_tmp Try.results13 (W.heap.size + 1) (pkV ⟨0, 0, 0, 0, 0, 0, 0, 0, 0, 0, 0, 0, 0, 0, 0, 0⟩ (.slice none 0 0) (.slice none 0 0)) rfl rfl (load_pk ((Mor.out : Mo w2 _).blk B2) rfl) ?_
    rw [← RR.out, ← HR.out]
    unfold classP
    rw [HT.out]
    rw [if_neg CT.out]
    exact ⟨_, rfl, pkF_nil _ _, M2.trans Mor.out⟩
end Go.Proofs.Ytofbhkodnijkjaa
