/- horologeref23.Class: what a datagram is, by the document (printed by gen/genpackf.py). -/
import Derived.Test.YtofbhkodnijkjaaPackE
namespace Go.Proofs.Ytofbhkodnijkjaa
open Go.RowKit

set_option maxRecDepth 20000 in
theorem hd0_ok : HdOk hd0 := by
  refine ⟨?_, ?_, ?_, ?_, ?_, ?_, ?_, ?_, ?_, ?_, ?_, ?_, ?_, ?_, ?_, ?_⟩ <;> decide
set_option maxRecDepth 20000 in
theorem takeP_ok (bs : List Int) (hb : ∀ c ∈ bs, 0 ≤ c ∧ c ≤ 255) : HdOk (takeP bs).1.h := by
  unfold takeP
  split
  · exact hd0_ok
  · split
    · exact (hdOf_ok bs hb (by omega)).1
    · exact hd0_ok
set_option maxRecDepth 20000 in
theorem rkind (h : Hd) : kindP h = if h.m = 3 then (if h.x = 0 then 3 else 1) else if h.m = 4 then (if h.o = 0 then 3 else 4) else 8 := by
  unfold kindP
  by_cases c : h.m = 3
  · simp [c]
  · by_cases c' : h.m = 4 <;> simp [c, c']
attribute [local go_sem] blk_cell' blk_frozen' dg_b
attribute [local go_sem ↓] storeAt_pk
attribute [local go_sem] run_storePk
set_option maxRecDepth 20000 in
set_option maxHeartbeats 8000000 in
theorem rclass_any (d : Dg) (v : Value) (W : World) (hv : DgV W d v) (kd : DgOk d) (hl : d.bs.length ≤ 200000) :
    Calls Try.prog 16 #[v] W fun e w' => e = .returned (.int .u8 (classP d.bs).2) ∧ Mo W w' := by
  obtain ⟨A, cap, rfl, hb⟩ := hv
  have za := sz_wide kd.at_
  have zs := sz_ends kd.src
  have zt := sz_ends kd.dst
  have ok := takeP_ok d.bs hb.byte
  have hx := ok.x.1
  have ho := ok.o.1
  clear ok
  obtain ⟨r, hr⟩ : ∃ r, (classP d.bs).2 = r := ⟨_, rfl⟩
  rw [hr]
  unfold classP at hr
  clear kd
  obtain ⟨da, ds, dd, bs⟩ := d
  simp only at za zs zt hb hr hx ho hl ⊢
  have TK := Lib.hid (fun w (k : Mo W w) => rtake_any bs.length cap A bs W w k rfl hb hl)
  clear hb hl
  generalize bs.length = n at *
  obtain ⟨tp, htp⟩ : ∃ tp, takeP bs = tp := ⟨_, rfl⟩
  rw [htp] at TK hr hx ho
  clear htp
  go_enter Try.func16, Try.ntmps16
  go_wp2_with fail
  refine (TK.out _ Mor.out).mono ?_
  rintro e w1 ⟨u, rfl, ⟨a1, c1, a2, c2, rfl, -⟩, M1⟩
  have M1' := (Mor.out : Mo W _).trans M1
  clear M1
  obtain ⟨⟨ph, pe, pm⟩, tc⟩ := tp
  simp only at hr hx ho ⊢
  generalize pe.length = n1 at *
  generalize pm.length = n2 at *
  rw [rkind] at hr
  by_cases ct : tc = 0
  · subst ct
    rw [if_pos rfl] at hr
    simp only at hr
    by_cases m3 : ph.m = 3
    · have d1 : (ph.m == 3) = true := by simp [m3]
      have d2 : (ph.m == 4) = false := by simp [m3]
      rw [if_pos m3] at hr
      by_cases x0 : ph.x = 0
      · have d3 : decide (0 < ph.x) = false := by simp [x0]
        rw [if_pos x0] at hr
        clear m3 x0 hx ho
        subst hr
        go_wp2_with fail
        go_ret
        exact ⟨rfl, M1'.trans Mor.out⟩
      · have d3 : decide (0 < ph.x) = true := by simp; omega
        rw [if_neg x0] at hr
        clear m3 x0 hx ho
        subst hr
        go_wp2_with fail
        go_ret
        exact ⟨rfl, M1'.trans Mor.out⟩
    · have d1 : (ph.m == 3) = false := by simp [m3]
      rw [if_neg m3] at hr
      by_cases m4 : ph.m = 4
      · have d2 : (ph.m == 4) = true := by simp [m4]
        rw [if_pos m4] at hr
        by_cases o0 : ph.o = 0
        · have d3 : decide (0 < ph.o) = false := by simp [o0]
          rw [if_pos o0] at hr
          clear m3 m4 o0 hx ho
          subst hr
          go_wp2_with fail
          go_ret
          exact ⟨rfl, M1'.trans Mor.out⟩
        · have d3 : decide (0 < ph.o) = true := by simp; omega
          rw [if_neg o0] at hr
          clear m3 m4 o0 hx ho
          subst hr
          go_wp2_with fail
          go_ret
          exact ⟨rfl, M1'.trans Mor.out⟩
      · have d2 : (ph.m == 4) = false := by simp [m4]
        rw [if_neg m4] at hr
        clear m3 m4 hx ho
        subst hr
        go_wp2_with fail
        go_ret
        exact ⟨rfl, M1'.trans Mor.out⟩
  · have d0 : (tc != 0) = true := by simp [ct]
    rw [if_neg ct] at hr
    simp only at hr
    clear ct hx ho
    subst hr
    go_wp2_with fail
    go_ret
    exact ⟨rfl, M1'.trans Mor.out⟩
end Go.Proofs.Ytofbhkodnijkjaa
