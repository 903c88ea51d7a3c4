/- packet.Answer: an answer to a request (printed by gen/genpackl.py). -/
import Derived.Test.YtofbhkodnijkjaaPackH
namespace Go.Proofs.Ytofbhkodnijkjaa
open Go.RowKit

/-- the moment that is none -/
def wd0 : Array Value := #[.int .i64 0, .int .u64 0]
set_option maxRecDepth 20000 in
instance : SzA wd0 2 := ⟨rfl⟩
set_option maxRecDepth 20000 in
instance : OneA wd0 := ⟨by kernel_rfl⟩
set_option maxRecDepth 20000 in
theorem loadF_wide (v : Value) : Instr.loadAt 24 v = loadF 24 v := rfl
set_option maxRecDepth 20000 in
theorem storeF_dg (v x : Value) : Instr.storeAt 33 v x = storeF 33 v x := rfl
set_option maxRecDepth 20000 in
theorem buildF_dg (l : Array (Nat × Value)) : Instr.build 33 l = buildF 33 l := rfl
set_option maxRecDepth 20000 in
theorem run_build_dg (a s t : Array Value) (A : Option Addr) (n c : Nat) [ha : SzA a 2] [hs : SzA s 18] [ht : SzA t 18] (w : World) : (buildF 33 #[(0, .agg a), (1, .agg s), (2, .agg t), (3, .slice A n c)]).run Try.prog w = .ok (.agg (dgC a s t (.slice A n c))) w := by
  obtain ⟨c0, c1, rfl⟩ := arr2 ha.out
  obtain ⟨a0, a1, a2, a3, a4, a5, a6, a7, a8, a9, a10, a11, a12, a13, a14, a15, a16, a17, rfl⟩ := arr18 hs.out
  obtain ⟨b0, b1, b2, b3, b4, b5, b6, b7, b8, b9, b10, b11, b12, b13, b14, b15, b16, b17, rfl⟩ := arr18 ht.out
  exact run_build w _ _ _ (by kernel_rfl)
set_option maxRecDepth 20000 in
theorem run_build_dg0 (w : World) : (buildF 33 #[]).run Try.prog w = .ok (.agg (dgC wd0 en0 en0 (.slice none 0 0))) w := run_build w _ _ _ (by kernel_rfl)
set_option maxRecDepth 20000 in
theorem run_loadFz (T : TypeId) (n : Nat) [h : RowT T n] (w : World) (g : Nat) (t : TypeId) (cs : Array Value) (k : Nat) [b : Blk w g t cs] [z : SzA cs k] (hk : n < k) :
    (loadF T (.pointer (some ⟨g, 0, none⟩))).run Try.prog w = .ok (.agg (cs.extract 0 n)) w := by
  have := run_loadF T n w g 0 t cs k (by omega)
  rwa [Nat.zero_add] at this
def ansH (h : Hd) (recv xmit : Int) : Hd := ⟨h.l, h.v, 4, 1, h.po, h.pr, h.rd, h.rp, h.a, h.b, h.c, h.d, h.f, h.x, recv, xmit⟩
set_option maxRecDepth 20000 in
theorem ansH_ok {h : Hd} (ok : HdOk h) {recv xmit : Int} (h1 : 0 ≤ recv ∧ recv ≤ 18446744073709551615) (h2 : 0 ≤ xmit ∧ xmit ≤ 18446744073709551615) : HdOk (ansH h recv xmit) :=
  ⟨ok.l, ok.v, (by decide : (0 : Int) ≤ 4 ∧ (4 : Int) ≤ 255), (by decide : (0 : Int) ≤ 1 ∧ (1 : Int) ≤ 255), ok.po, ok.pr, ok.rd, ok.rp, ok.a, ok.b, ok.c, ok.d, ok.f, ok.x, h1, h2⟩
set_option maxRecDepth 20000 in
theorem ansH_may {h : Hd} (m : h.m = 3) (recv xmit : Int) : mayH (ansH h recv xmit) = mayH h := by
  unfold mayH ansH
  simp [m]
def ansD (d : Dg) (h : Hd) (recv xmit : Int) : Dg × Int := if h.m = 3 ∧ mayH h = true then (⟨d.at_, d.dst, d.src, hdB (ansH h recv xmit)⟩, 0) else (⟨wd0, en0, en0, []⟩, 2)
def AnsRet (r : Dg × Int) (W : World) (e : Ending) (w' : World) : Prop := ∃ v, e = .returned (.tuple #[v, .int .i64 r.2]) ∧ DgV w' r.1 v ∧ Mo W w'
attribute [local go_sem] blk_cell' blk_frozen' dg_at dg_src dg_dst dg_b
attribute [local go_sem ↓] loadF_wide loadF_ends storeF_dg buildF_dg
attribute [local go_sem] run_loadFo run_loadFz run_storeF0 run_build_dg run_build_dg0
set_option maxRecDepth 20000 in
set_option maxHeartbeats 8000000 in
theorem answer_any (d : Dg) (p : Pk) (v u : Value) (recv xmit : Int) (W : World) (hv : DgV W d v) (kd : DgOk d) (hu : PkV W p u) (ok : HdOk p.h) (h1 : 0 ≤ recv ∧ recv ≤ 18446744073709551615) (h2 : 0 ≤ xmit ∧ xmit ≤ 18446744073709551615) :
    Calls Try.prog 17 #[v, u, .int .u64 recv, .int .u64 xmit] W (AnsRet (ansD d p.h recv xmit) W) := by
  obtain ⟨A, cap, rfl, -⟩ := hv
  obtain ⟨a1, c1, a2, c2, rfl, -, -⟩ := hu
  have za := sz_wide kd.at_
  have zs := sz_ends kd.src
  have zt := sz_ends kd.dst
  have oa := one_of_fits kd.at_
  have os := one_of_fits kd.src
  have ot := one_of_fits kd.dst
  clear kd
  obtain ⟨r, hr⟩ : ∃ r, ansD d p.h recv xmit = r := ⟨_, rfl⟩
  rw [hr]
  unfold ansD at hr
  obtain ⟨R, hR⟩ : ∃ R, AnsRet r W = R := ⟨_, rfl⟩
  rw [hR]
  have RR := Lib.hid hR
  clear hR
  obtain ⟨da, ds, dd, bs⟩ := d
  obtain ⟨ph, pe, pm⟩ := p
  simp only at za zs zt oa os ot ok hr ⊢
  generalize bs.length = n at *
  generalize pe.length = n1 at *
  generalize pm.length = n2 at *
  have HP : Hid (∀ W, Calls Try.prog 26 #[.agg #[.int .u8 ph.l, .int .u8 ph.v, .int .u8 4, .int .u8 1, .int .i8 ph.po, .int .i8 ph.pr, .int .u32 ph.rd, .int .u32 ph.rp, .int .u8 ph.a, .int .u8 ph.b, .int .u8 ph.c, .int .u8 ph.d, .int .u64 ph.f, .int .u64 ph.x, .int .u64 recv, .int .u64 xmit]] W (HPutRet (ansH ph recv xmit) W)) := Lib.hid (hput_any (ansH ph recv xmit) (ansH_ok ok h1 h2))
  have OK := Lib.hid (ansH_ok ok h1 h2)
  clear ok h1 h2
  by_cases m3 : ph.m = 3
  · have d1 : (ph.m != 3) = false := by simp [m3]
    have MA := Lib.hid (ansH_may m3 recv xmit)
    have M3 := Lib.hid m3
    clear m3
    go_enter Try.func17, Try.ntmps17
    go_upto_region 4 with (fail)
    go_region
    go_wp2_with fail
    refine (HP.out _).mono ?_
    rintro e w1 ⟨v1, rfl, B1, M1⟩
    rw [MA.out] at B1 ⊢
    have B0 : Blk w1 (W.heap.size + 2) 33 (dgC wd0 en0 en0 (.slice none 0 0)) := M1.blk inferInstance
    have Bd : Blk w1 W.heap.size 33 (dgC da ds dd (.slice A n cap)) := M1.blk inferInstance
    have M1' := (Mor.out : Mo W _).trans M1
    clear M1
    by_cases may : mayH ph = true
    · rw [if_pos may] at B1 ⊢
      rw [if_pos ⟨M3.out, may⟩] at hr
      have HR := Lib.hid hr
      obtain ⟨b1, e1, rfl, s1⟩ := B1
      have S1 := Lib.hid s1
      rw [hdB_len]
      clear s1 may hr
      go_wp2_with fail
      obtain ⟨w2, hw2⟩ : ∃ w2, w1.setRow (W.heap.size + 2) (dgC da dd ds (.slice b1 48 e1)) = w2 := ⟨_, rfl⟩
      have B2 : Blk w2 (W.heap.size + 2) 33 (dgC da dd ds (.slice b1 48 e1)) := by rw [← hw2]; exact blk_setRow B0
      have M2 : Mo W w2 := by rw [← hw2]; exact mo_setRow M1' (by omega) _
      have S2 : Hid (ByteS w2 b1 e1 (hdB (ansH ph recv xmit))) := Lib.hid (by
        have := S1.out
        refine ⟨this.le, this.lim, this.byte, this.nil, ?_⟩
        rcases this.at_ with e | ⟨g, off, rfl, hc⟩
        · exact .inl e
        · by_cases e : g = W.heap.size + 2
          · exfalso
            subst e
            have h47 := hc 47 (by rw [hdB_len]; omega)
            rw [blk_cell B0, Array.getElem?_eq_none (by rw [(inferInstance : SzA (dgC wd0 en0 en0 (.slice none 0 0)) 39).out]; omega)] at h47
            cases h47
          · exact .inr ⟨g, off, rfl, fun i hi => by
              rw [← hc i hi]
              exact World.cell?_of_block (by rw [← hw2]; exact setRow_get_ne _ _ _ _ (Ne.symm e))⟩)
      rw [hw2]
      clear hw2
      refine ret_cell_tmp Try.results17 (W.heap.size + 2) (.agg (dgC da dd ds (.slice b1 48 e1))) rfl rfl (loadVar_flat _ B2 (inferInstance : SzA (dgC da dd ds (.slice b1 48 e1)) 39).out) ?_
      rw [← RR.out, ← HR.out]
      exact ⟨_, rfl, ⟨b1, e1, by rw [hdB_len], S2.out⟩, M2⟩
    · rw [if_neg may] at B1 ⊢
      rw [if_neg (fun h => may h.2)] at hr
      have HR := Lib.hid hr
      clear may hr B1
      go_wp2_with fail
      obtain ⟨w2, hw2⟩ : ∃ w2, w1.setRow (W.heap.size + 2) (dgC wd0 en0 en0 (.slice none 0 0)) = w2 := ⟨_, rfl⟩
      have B2 : Blk w2 (W.heap.size + 2) 33 (dgC wd0 en0 en0 (.slice none 0 0)) := by rw [← hw2]; exact blk_setRow B0
      have M2 : Mo W w2 := by rw [← hw2]; exact mo_setRow M1' (by omega) _
      rw [hw2]
      clear hw2
      refine ret_cell_tmp Try.results17 (W.heap.size + 2) (.agg (dgC wd0 en0 en0 (.slice none 0 0))) rfl rfl (loadVar_flat _ B2 rfl) ?_
      rw [← RR.out, ← HR.out]
      exact ⟨_, rfl, ⟨none, 0, rfl, byteS_none _⟩, M2⟩
  · have d1 : (ph.m != 3) = true := by simp [m3]
    rw [if_neg (fun h => m3 h.1)] at hr
    have HR := Lib.hid hr
    clear hr m3 HP
    go_enter Try.func17, Try.ntmps17
    go_wp2_with fail
    refine ret_cell_tmp Try.results17 (W.heap.size + 2) (.agg (dgC wd0 en0 en0 (.slice none 0 0))) rfl rfl (loadVar_flat _ (inferInstance : Blk _ (W.heap.size + 2) 33 _) rfl) ?_
    rw [← RR.out, ← HR.out]
    exact ⟨_, rfl, ⟨none, 0, rfl, byteS_none _⟩, Mor.out⟩
end Go.Proofs.Ytofbhkodnijkjaa
