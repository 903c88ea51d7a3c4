/- horologelaw23.PacketPuts: the walk. -/
import Derived.Test.YtofbhkodnijkjaaLaw23
namespace Go.Proofs.Ytofbhkodnijkjaa
open Go.RowKit

attribute [local go_sem] blk_cell' blk_frozen'
attribute [local go_sem ↓] loadF_pk
attribute [local go_sem] run_loadF0
set_option maxRecDepth 20000 in
set_option maxHeartbeats 8000000 in
theorem puts23_any (p : Pk) (v : Value) (W : World) (hv : PkV W p v) (ok : PkOk p) :
    Calls Try.prog 5 #[v] W fun e w' => e = .returned (.bool true) ∧ Mo W w' := by
  have HV := Lib.hid (fun w (k : Mo W w) => heavy23_any p v none 0 0 w (by omega) (hv.mo k))
  have WK := Lib.hid works23_any
  have PL := Lib.hid (fun (hp : p.e.length ≤ 32 → totM p.e + p.m.length + 0 ≤ 5000) w (k : Mo W w) => pput_any p v w (hv.mo k) ok.h (fun c => by have := hp c; omega))
  have RL := Lib.hid (fun (hp : p.e.length ≤ 32 → totM p.e + p.m.length + 0 ≤ 5000) w (k : Mo W w) => rput_any p v w (hv.mo k) ok.h (fun c => by have := hp c; omega))
  obtain ⟨a1, c1, a2, c2, rfl, -, -⟩ := hv
  clear ok
  generalize putP p = r at *
  obtain ⟨rb, rc⟩ := r
  obtain ⟨ph, pe, pm⟩ := p
  simp only at HV PL RL ⊢
  generalize hn1 : pe.length = n1 at *
  generalize hn2 : pm.length = n2 at *
  have HN := Lib.hid hn1
  have HN2 := Lib.hid hn2
  clear hn1 hn2
  go_enter Try.func5, Try.ntmps5
  go_wp2_with fail
  refine (HV.out _ Mor.out).mono ?_
  rintro e w1 ⟨b, rfl, hb, M1⟩
  have M1' := (Mor.out : Mo W _).trans M1
  have B1 : Blk w1 W.heap.size 42 (pkL ph (.slice a1 n1 c1) (.slice a2 n2 c2)).toArray := M1.blk inferInstance
  clear M1
  cases b
  · have HP := Lib.hid (hb rfl)
    simp only [HN.out, HN2.out] at HP
    clear hb
    go_wp2_with fail
    refine (PL.out HP.out _ (M1'.trans Mor.out)).mono ?_
    rintro e w2 ⟨v1, rfl, ⟨A1, d1, rfl, h1⟩, M2⟩
    have N2 := (Mor.out : Mo w1 _).trans M2
    have B2 : Blk w2 W.heap.size 42 (pkL ph (.slice a1 n1 c1) (.slice a2 n2 c2)).toArray := N2.blk B1
    have M2' := M1'.trans N2
    clear M2 N2
    go_wp2_with fail
    refine (RL.out HP.out _ (M2'.trans Mor.out)).mono ?_
    rintro e w3 ⟨v2, rfl, ⟨A2, d2, rfl, h2⟩, M3⟩
    have N3 := (Mor.out : Mo w2 _).trans M3
    have M3' := M2'.trans N3
    have s1 := str_conv (h1.mo N3) rfl
    have s2 := str_conv h2 rfl
    have L1 := h1.lim
    have s3 : ((strOfNums rb).toList == (strOfNums rb).toList) = true := by simp
    simp only at s1 s2 L1 ⊢
    clear h1 h2 PL RL HV M3 N3
    generalize rb.length = q at *
    generalize strOfNums rb = sb at *
    go_wp2_with fail
    refine (WK.out _).mono ?_
    rintro e w4 ⟨rfl, M4⟩
    go_wp2_with fail
    go_ret
    exact ⟨rfl, M3'.trans (Mo.trans Mor.out M4)⟩
  · clear hb PL RL HV
    go_wp2_with fail
    refine (WK.out _).mono ?_
    rintro e w4 ⟨rfl, M4⟩
    go_wp2_with fail
    go_ret
    exact ⟨rfl, M1'.trans (Mo.trans Mor.out M4)⟩
end Go.Proofs.Ytofbhkodnijkjaa
