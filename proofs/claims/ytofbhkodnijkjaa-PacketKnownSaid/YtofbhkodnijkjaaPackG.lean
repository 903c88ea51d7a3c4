/- packet.Key: the key of a datagram (printed by gen/genpackg.py). -/
import Derived.Test.YtofbhkodnijkjaaPackF
import Derived.Test.YtofbhkodnijkjaaFlat3
namespace Go.Proofs.Ytofbhkodnijkjaa
open Go.RowKit

set_option maxRecDepth 20000 in
theorem arr2 {cs : Array Value} (h : cs.size = 2) : ∃ x0 x1, cs = #[x0, x1] := by
  obtain ⟨l⟩ := cs
  match l, h with
  | [x0, x1], _ => exact ⟨_, _, rfl⟩
set_option maxRecDepth 20000 in
theorem arr18 {cs : Array Value} (h : cs.size = 18) : ∃ x0 x1 x2 x3 x4 x5 x6 x7 x8 x9 x10 x11 x12 x13 x14 x15 x16 x17, cs = #[x0, x1, x2, x3, x4, x5, x6, x7, x8, x9, x10, x11, x12, x13, x14, x15, x16, x17] := by
  obtain ⟨l⟩ := cs
  match l, h with
  | [x0, x1, x2, x3, x4, x5, x6, x7, x8, x9, x10, x11, x12, x13, x14, x15, x16, x17], _ => exact ⟨_, _, _, _, _, _, _, _, _, _, _, _, _, _, _, _, _, _, rfl⟩
/-- a key's cells -/
def kyC (s t : Array Value) (n : Int) : Array Value := s ++ t ++ #[.int .u64 n]
/-- a datagram and a header -/
def snC (a s t : Array Value) (x : Value) (h : Hd) : Array Value := dgC a s t x ++ hdC h
set_option maxRecDepth 20000 in
instance (a s t : Array Value) (x : Value) [ha : OneA a] [hs : OneA s] [ht : OneA t] [hx : One1 x] : OneA (dgC a s t x) := ⟨by
  unfold dgC
  rw [Array.all_append, Array.all_append, Array.all_append, ha.out, hs.out, ht.out]
  simp [hx.out]⟩
set_option maxRecDepth 20000 in
instance (a s t : Array Value) (x : Value) (h : Hd) [ha : OneA a] [hs : OneA s] [ht : OneA t] [hx : One1 x] : OneA (snC a s t x h) := ⟨by
  have := (inferInstance : OneA (dgC a s t x)).out
  unfold snC
  rw [Array.all_append, this, Bool.true_and]
  exact (inferInstance : OneA (hdC h)).out⟩
set_option maxRecDepth 20000 in
instance (s t : Array Value) (n : Int) [hs : OneA s] [ht : OneA t] : OneA (kyC s t n) := ⟨by
  unfold kyC
  rw [Array.all_append, Array.all_append, hs.out, ht.out]
  simp [Value.oneCell']⟩
set_option maxRecDepth 20000 in
instance ky_size (s t : Array Value) (n : Int) [hs : SzA s 18] [ht : SzA t 18] : SzA (kyC s t n) 37 := ⟨by
  have h2 := hs.out
  have h3 := ht.out
  unfold kyC
  simp [h2, h3]⟩
set_option maxRecDepth 20000 in
instance sn_size (a s t : Array Value) (x : Value) (h : Hd) [ha : SzA a 2] [hs : SzA s 18] [ht : SzA t 18] : SzA (snC a s t x h) 55 := ⟨by
  have := (inferInstance : SzA (dgC a s t x) 39).out
  unfold snC
  simp [this]⟩
set_option maxRecDepth 20000 in
theorem sn_m (a s t : Array Value) (x : Value) (h : Hd) [ha : SzA a 2] [hs : SzA s 18] [ht : SzA t 18] : (snC a s t x h)[41]? = some (.int .u8 h.m) := by
  have h1 := (inferInstance : SzA (dgC a s t x) 39).out
  unfold snC
  rw [Array.getElem?_append_right (by omega), h1]
  rfl
set_option maxRecDepth 20000 in
theorem sn_o (a s t : Array Value) (x : Value) (h : Hd) [ha : SzA a 2] [hs : SzA s 18] [ht : SzA t 18] : (snC a s t x h)[52]? = some (.int .u64 h.o) := by
  have h1 := (inferInstance : SzA (dgC a s t x) 39).out
  unfold snC
  rw [Array.getElem?_append_right (by omega), h1]
  rfl
set_option maxRecDepth 20000 in
theorem sn_x (a s t : Array Value) (x : Value) (h : Hd) [ha : SzA a 2] [hs : SzA s 18] [ht : SzA t 18] : (snC a s t x h)[54]? = some (.int .u64 h.x) := by
  have h1 := (inferInstance : SzA (dgC a s t x) 39).out
  unfold snC
  rw [Array.getElem?_append_right (by omega), h1]
  rfl
set_option maxRecDepth 20000 in
theorem sn_src (a s t : Array Value) (x : Value) (h : Hd) [ha : SzA a 2] [hs : SzA s 18] [ht : SzA t 18] : (snC a s t x h).extract 2 20 = s := by
  have h1 := (inferInstance : SzA (dgC a s t x) 39).out
  unfold snC
  have e : (dgC a s t x ++ hdC h).extract 2 20 = (dgC a s t x).extract 2 20 := by
    rw [Array.extract_append]
    simp [h1]
  rw [e, dg_src]
set_option maxRecDepth 20000 in
theorem sn_dst (a s t : Array Value) (x : Value) (h : Hd) [ha : SzA a 2] [hs : SzA s 18] [ht : SzA t 18] : (snC a s t x h).extract 20 38 = t := by
  have h1 := (inferInstance : SzA (dgC a s t x) 39).out
  unfold snC
  have e : (dgC a s t x ++ hdC h).extract 20 38 = (dgC a s t x).extract 20 38 := by
    rw [Array.extract_append]
    simp [h1]
  rw [e, dg_dst]
/-- the ends that are none -/
def en0 : Array Value := #[.bool false, .int .u8 0, .int .u8 0, .int .u8 0, .int .u8 0, .int .u8 0, .int .u8 0, .int .u8 0, .int .u8 0, .int .u8 0, .int .u8 0, .int .u8 0, .int .u8 0, .int .u8 0, .int .u8 0, .int .u8 0, .int .u8 0, .int .u16 0]
set_option maxRecDepth 20000 in
instance : SzA en0 18 := ⟨rfl⟩
set_option maxRecDepth 20000 in
instance : OneA en0 := ⟨by kernel_rfl⟩
set_option maxRecDepth 20000 in
instance fl_flow : FlatT 53 36 := ⟨by kernel_rfl, by kernel_rfl, by kernel_rfl, by kernel_rfl, by kernel_rfl, by kernel_rfl⟩
set_option maxRecDepth 20000 in
instance row_sn : RowT 82 55 := ⟨by kernel_rfl, by kernel_rfl⟩
set_option maxRecDepth 20000 in
theorem loadF_dg (v : Value) : Instr.loadAt 33 v = loadF 33 v := rfl
set_option maxRecDepth 20000 in
theorem loadF_ends (v : Value) : Instr.loadAt 30 v = loadF 30 v := rfl
set_option maxRecDepth 20000 in
theorem storeF_sn (v x : Value) : Instr.storeAt 82 v x = storeF 82 v x := rfl
set_option maxRecDepth 20000 in
theorem storeF_key (v x : Value) : Instr.storeAt 55 v x = storeF 55 v x := rfl
set_option maxRecDepth 20000 in
theorem buildF_sn (l : Array (Nat × Value)) : Instr.build 82 l = buildF 82 l := rfl
set_option maxRecDepth 20000 in
theorem buildF_flow (l : Array (Nat × Value)) : Instr.build 53 l = buildF 53 l := rfl
set_option maxRecDepth 20000 in
theorem buildF_key (l : Array (Nat × Value)) : Instr.build 55 l = buildF 55 l := rfl
set_option maxRecDepth 20000 in
theorem run_build_flow (s t : Array Value) [hs : SzA s 18] [ht : SzA t 18] (w : World) : (buildF 53 #[(0, .agg s), (1, .agg t)]).run Try.prog w = .ok (.agg (s ++ t)) w := by
  obtain ⟨a0, a1, a2, a3, a4, a5, a6, a7, a8, a9, a10, a11, a12, a13, a14, a15, a16, a17, rfl⟩ := arr18 hs.out
  obtain ⟨b0, b1, b2, b3, b4, b5, b6, b7, b8, b9, b10, b11, b12, b13, b14, b15, b16, b17, rfl⟩ := arr18 ht.out
  exact run_build w _ _ _ (by kernel_rfl)
set_option maxRecDepth 20000 in
theorem run_build_key (s t : Array Value) (n : Int) [hs : SzA s 18] [ht : SzA t 18] (w : World) : (buildF 55 #[(0, .agg (s ++ t)), (1, .int .u64 n)]).run Try.prog w = .ok (.agg (kyC s t n)) w := by
  obtain ⟨a0, a1, a2, a3, a4, a5, a6, a7, a8, a9, a10, a11, a12, a13, a14, a15, a16, a17, rfl⟩ := arr18 hs.out
  obtain ⟨b0, b1, b2, b3, b4, b5, b6, b7, b8, b9, b10, b11, b12, b13, b14, b15, b16, b17, rfl⟩ := arr18 ht.out
  exact run_build w _ _ _ (by kernel_rfl)
set_option maxRecDepth 20000 in
theorem run_build_sn (a s t : Array Value) (x : Value) (h : Hd) [ha : SzA a 2] [hs : SzA s 18] [ht : SzA t 18] (w : World) : (buildF 82 #[(0, .agg (dgC a s t x)), (1, .agg #[.int .u8 h.l, .int .u8 h.v, .int .u8 h.m, .int .u8 h.s, .int .i8 h.po, .int .i8 h.pr, .int .u32 h.rd, .int .u32 h.rp, .int .u8 h.a, .int .u8 h.b, .int .u8 h.c, .int .u8 h.d, .int .u64 h.f, .int .u64 h.o, .int .u64 h.r, .int .u64 h.x])]).run Try.prog w = .ok (.agg (snC a s t x h)) w := by
  obtain ⟨c0, c1, rfl⟩ := arr2 ha.out
  obtain ⟨a0, a1, a2, a3, a4, a5, a6, a7, a8, a9, a10, a11, a12, a13, a14, a15, a16, a17, rfl⟩ := arr18 hs.out
  obtain ⟨b0, b1, b2, b3, b4, b5, b6, b7, b8, b9, b10, b11, b12, b13, b14, b15, b16, b17, rfl⟩ := arr18 ht.out
  exact run_build w _ _ _ (by kernel_rfl)
set_option maxRecDepth 20000 in
theorem run_build_key0 (w : World) : (buildF 55 #[]).run Try.prog w = .ok (.agg (kyC en0 en0 0)) w := run_build w _ _ _ (by kernel_rfl)
/-- a datagram's key, and whether there is one -/
def keyC (d : Dg) (h : Hd) : Array Value := if h.m = 3 then kyC d.src d.dst h.x else if h.m = 4 then kyC d.dst d.src h.o else kyC en0 en0 0
def keyB (h : Hd) : Bool := decide (h.m = 3) || decide (h.m = 4)
attribute [local go_sem] blk_cell' blk_frozen' dg_b dg_src dg_dst sn_m sn_o sn_x sn_src sn_dst
attribute [local go_sem ↓] loadF_dg loadF_ends storeF_sn storeF_key buildF_sn buildF_flow buildF_key
attribute [local go_sem] run_loadFo run_loadF0 run_storeF0 run_build_flow run_build_key run_build_sn run_build_key0
set_option maxRecDepth 20000 in
set_option maxHeartbeats 8000000 in
theorem key_any (d : Dg) (p : Pk) (v u : Value) (W : World) (hv : DgV W d v) (kd : DgOk d) (hu : PkV W p u) :
    Calls Try.prog 14 #[v, u] W fun e w' => e = .returned (.tuple #[.agg (keyC d p.h), .bool (keyB p.h)]) ∧ Mo W w' := by
  obtain ⟨A, cap, rfl, -⟩ := hv
  obtain ⟨a1, c1, a2, c2, rfl, -, -⟩ := hu
  have za := sz_wide kd.at_
  have zs := sz_ends kd.src
  have zt := sz_ends kd.dst
  have oa := one_of_fits kd.at_
  have os := one_of_fits kd.src
  have ot := one_of_fits kd.dst
  clear kd
  obtain ⟨da, ds, dd, bs⟩ := d
  obtain ⟨ph, pe, pm⟩ := p
  simp only at za zs zt oa os ot ⊢
  generalize bs.length = n at *
  generalize pe.length = n1 at *
  generalize pm.length = n2 at *
  unfold keyC keyB
  by_cases m3 : ph.m = 3
  · have d1 : (ph.m == 3) = true := by simp [m3]
    rw [if_pos m3, decide_eq_true m3, Bool.true_or]
    clear m3
    go_enter Try.func14, Try.ntmps14
    go_wp2_with fail
    refine ret_cell_tmp Try.results14 (W.heap.size + 2) (.agg (kyC ds dd ph.x)) rfl rfl (loadVar_flat _ (inferInstance : Blk _ (W.heap.size + 2) 55 _) (ky_size _ _ _).out) ?_
    exact ⟨rfl, Mor.out⟩
  · have d1 : (ph.m == 3) = false := by simp [m3]
    rw [if_neg m3, decide_eq_false m3, Bool.false_or]
    clear m3
    by_cases m4 : ph.m = 4
    · have d2 : (ph.m == 4) = true := by simp [m4]
      rw [if_pos m4, decide_eq_true m4]
      clear m4
      go_enter Try.func14, Try.ntmps14
      go_wp2_with fail
      refine ret_cell_tmp Try.results14 (W.heap.size + 2) (.agg (kyC dd ds ph.o)) rfl rfl (loadVar_flat _ (inferInstance : Blk _ (W.heap.size + 2) 55 _) (ky_size _ _ _).out) ?_
      exact ⟨rfl, Mor.out⟩
    · have d2 : (ph.m == 4) = false := by simp [m4]
      rw [if_neg m4, decide_eq_false m4]
      clear m4
      go_enter Try.func14, Try.ntmps14
      go_wp2_with fail
      refine ret_cell_tmp Try.results14 (W.heap.size + 2) (.agg (kyC en0 en0 0)) rfl rfl (loadVar_flat _ (inferInstance : Blk _ (W.heap.size + 2) 55 _) (ky_size _ _ _).out) ?_
      exact ⟨rfl, Mor.out⟩
end Go.Proofs.Ytofbhkodnijkjaa
