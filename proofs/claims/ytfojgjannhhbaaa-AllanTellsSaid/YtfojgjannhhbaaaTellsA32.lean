/- horologelaw32.AllanTells returns true. -/
import Derived.Test.YtfojgjannhhbaaaRGrid3
import Derived.Test.YtfojgjannhhbaaaPuts32
namespace Go.Proofs.Ytfojgjannhhbaaa
open Go.RowKit

set_option maxRecDepth 20000 in
theorem owns_k2 {W w : World} {b p r sz n : Nat} {e tp tr : TypeId} {v : Value} {xs : List Value} {cp cr : Array Value} (h : W.ownsRow b e sz v n xs) (k : Kept2 p r W w) (gp : Blk W p tp cp) (gr : Blk W r tr cr) (np : tp ≠ e) (nr : tr ≠ e) : w.ownsRow b e sz v n xs := by
  refine ⟨h.1, ?_⟩
  rcases h.2 with hn | ⟨g, cap, cur, rfl, hb, hg, rest⟩
  · exact .inl hn
  · exact .inr ⟨g, cap, cur, rfl, hb, (k.1 g _ _ (Ne.symm (blk_type_neR gp ⟨hg⟩ np)) (Ne.symm (blk_type_neR gr ⟨hg⟩ nr)) ⟨hg⟩).out, rest⟩
set_option maxRecDepth 20000 in
/-- the reference's grid is kept by what writes into ours, and the other way about -/
theorem RG.ours {W w : World} {P base p r C o : Nat} {x o' y : Int} {M N : List Slot} {vN vO vD : Value} (h : RG W P base x o' M vN vO vD) (g : GAt W p r C o y N) (k : Kept2 p r W w) : RG w P base x o' M vN vO vD := by
  obtain ⟨cur, h1, h2⟩ := g.at_.r.out
  have br : Blk W r 57 cur := ⟨h1⟩
  exact ⟨k.1 P _ _ (blk_type_neR h.g g.at_.g (by decide)) (blk_type_neR h.g br (by decide)) h.g, owns_k2 h.n k g.at_.g br (by decide) (by decide), owns_k2 h.off k g.at_.g br (by decide) (by decide), owns_k2 h.del k g.at_.g br (by decide) (by decide), h.no, h.nd, h.od⟩
set_option maxRecDepth 20000 in
theorem GAt.theirs {W w : World} {P base p r C o : Nat} {x o' y : Int} {M N : List Slot} {vN vO vD : Value} (g : GAt W p r C o y N) (h : RG W P base x o' M vN vO vD) (k : KeptR P base W w) : GAt w p r C o y N := by
  obtain ⟨cur, h1, h2⟩ := g.at_.r.out
  have br : Blk W r 57 cur := ⟨h1⟩
  exact ⟨⟨k.1 p _ _ (blk_type_neR g.at_.g h.g (by decide)) (by decide) g.at_.g, cur, (k.1 r _ _ (blk_type_neR br h.g (by decide)) (by decide) br).out, h2⟩, g.ne, g.o1, g.o2, g.x1, g.x2⟩
/-- the reference's grid, its slices out of sight -/
def RGE (w : World) (P base : Nat) (x o : Int) (M : List Slot) : Prop := ∃ vN vO vD, RG w P base x o M vN vO vD
set_option maxRecDepth 20000 in
theorem RGE.mo {w w' : World} {P base : Nat} {x o : Int} {M : List Slot} (h : RGE w P base x o M) (k : Mo w w') : RGE w' P base x o M := by
  obtain ⟨a, b, c, h⟩ := h
  exact ⟨a, b, c, h.mo k⟩
set_option maxRecDepth 20000 in
theorem RGE.ours {W w : World} {P base p r C o : Nat} {x o' y : Int} {M N : List Slot} (h : RGE W P base x o' M) (g : GAt W p r C o y N) (k : Kept2 p r W w) : RGE w P base x o' M := by
  obtain ⟨a, b, c, h⟩ := h
  exact ⟨a, b, c, h.ours g k⟩
set_option maxRecDepth 20000 in
theorem GAt.theirsE {W w : World} {P base p r C o : Nat} {x o' y : Int} {M N : List Slot} (g : GAt W p r C o y N) (h : RGE W P base x o' M) (k : KeptR P base W w) : GAt w p r C o y N := by
  obtain ⟨a, b, c, h⟩ := h
  exact g.theirs h k
set_option maxRecDepth 20000 in
theorem sep_nil : Sep (.slice none 0 0) (.slice none 0 0) := fun _ h => (by simp [Value.ownBlock] at h)
set_option maxRecDepth 20000 in
theorem RGE.start {w : World} {P base : Nat} {x o : Int} (b : Blk w P 31 #[.int .i64 x, .int .i64 o, .slice none 0 0, .slice none 0 0, .slice none 0 0]) : RGE w P base x o [] :=
  ⟨_, _, _, b, ⟨rfl, .inl ⟨rfl, rfl⟩⟩, ⟨rfl, .inl ⟨rfl, rfl⟩⟩, ⟨rfl, .inl ⟨rfl, rfl⟩⟩, sep_nil, sep_nil, sep_nil⟩
def RPutE (P base : Nat) (x o c : Int) (M : List Slot) (W : World) (e : Ending) (w' : World) : Prop := e = .returned (.int .u8 c) ∧ RGE w' P base x o M ∧ KeptR P base W w'
set_option maxRecDepth 20000 in
theorem rput_E (P base : Nat) (x o : Int) (M : List Slot) (a off del : Int) (W : World) (h : RGE W P base x o M) (hl : M.length ≤ 1000) (ha : InW a) (x1 : 1 ≤ x) (x2 : x ≤ 1152921504606846976) (hb : base ≤ W.heap.size) :
    Calls Try.prog 11 #[.pointer (some ⟨P, 0, none⟩), WV a, .int .i64 off, .int .i64 del] W (RPutE P base x o (putM M (clip (a / x)) off del).2 (putM M (clip (a / x)) off del).1 W) := by
  obtain ⟨vN, vO, vD, h⟩ := h
  exact (rput_any P base x o M vN vO vD a off del W h hl ha x1 x2 hb).mono fun e w' ⟨h1, h2, h3⟩ => ⟨h1, h2, h3⟩
set_option maxRecDepth 20000 in
theorem rlive_E (P base o : Nat) (x : Int) (M : List Slot) (W : World) (h : RGE W P base x o M) (ok : MOk M 1000) (ho : o ≤ 10) :
    Calls Try.prog 13 #[.pointer (some ⟨P, 0, none⟩)] W fun e w' => e = .returned (.int .i64 (liveM M o : Nat)) ∧ Mo W w' := by
  obtain ⟨vN, vO, vD, h⟩ := h
  exact rlive_any P base o x M vN vO vD W h ok.fine ok.rises ok.len ho
set_option maxRecDepth 20000 in
theorem rtold_E (P base o : Nat) (x : Int) (M : List Slot) (W : World) (h : RGE W P base x o M) (ok : MOk M 1000) (ho : o ≤ 10) :
    Calls Try.prog 16 #[.pointer (some ⟨P, 0, none⟩)] W (ToldRet (taus M o) W) := by
  obtain ⟨vN, vO, vD, h⟩ := h
  exact rtold_any P base o x M vN vO vD W h ok.fine ok.rises ok.len ho
set_option maxRecDepth 20000 in
theorem keptR_blk {P base b : Nat} {W w : World} {t : TypeId} {cs : Array Value} (k : KeptR P base W w) (B : Blk W b t cs) (n : b ≠ P) (nt : t ≠ 2) : Blk w b t cs := k.1 b t cs n nt B

set_option maxRecDepth 20000 in
set_option maxHeartbeats 8000000 in
theorem tells32_some (A : Option Addr) (l : List Pt) (cap : Nat) (x : Int) (o : Nat) (W : World) (hl : l.length ≤ 100) (x1 : 1 ≤ x) (x2 : x ≤ 1152921504606846976) (o1 : 1 ≤ o) (o2 : o ≤ 10) (hR : PutRow W A l) :
    Calls Try.prog 3 #[.slice A l.length cap, .int .i64 x, .int .i64 o] W fun e w' => e = .returned (.bool true) ∧ Mo W w' := by
  have OK := Lib.hid (fun k => putF_ok x (l.take k))
  have TK := Lib.hid (putF_take x l)
  have HR := Lib.hid hR
  clear hR
  obtain ⟨n, hn⟩ : ∃ n, l.length = n := ⟨_, rfl⟩
  rw [hn] at hl ⊢
  have HN := Lib.hid hn
  clear hn
  have f1 : decide (x < 1) = false := decide_eq_false (by omega)
  have f2 : decide (1152921504606846976 < x) = false := decide_eq_false (by omega)
  have f3 : decide ((o : Int) < 1) = false := decide_eq_false (by omega)
  have f4 : decide (10 < (o : Int)) = false := decide_eq_false (by omega)
  go_enter Try.func3, Try.ntmps3
  go_wp2_with fail
  refine (new_M x o _ x1 x2 o1 o2).mono ?_
  rintro e w1 ⟨p, r, rfl, G1, hp, hr, M1⟩
  go_upto_region 9 with (fail)
  refine wp_name ?_
  intro w2 hw2
  obtain ⟨P, hP⟩ : ∃ P, w1.heap.size = P := ⟨_, rfl⟩
  rw [hP]
  have B2 : Blk w2 P 31 #[.int .i64 x, .int .i64 o, .slice none 0 0, .slice none 0 0, .slice none 0 0] := by rw [hw2, ← hP]; infer_instance
  have G2 := G1.mo (show Mo w1 w2 by rw [hw2]; exact Mor.out)
  have MW2 := M1.trans (show Mo w1 w2 by rw [hw2]; exact Mor.out)
  have R2 : RGE w2 P P x o [] := RGE.start B2
  have hPW : W.heap.size ≤ P := by rw [← hP]; exact M1.size
  have hb2 := Nat.le_of_lt B2.lt
  clear hw2 hP G1 M1 B2 f1 f2 f3 f4
  go_wp2_with fail
  go_loopw [57] (fun i wr => ∃ j : Nat, j ≤ n ∧ i = .int .i64 j ∧ GAt wr p r (2 ^ o + 1) o x (putF x (l.take j)) ∧ RGE wr P P x o (putF x (l.take j)) ∧ P ≤ wr.heap.size ∧ Mo W wr) (fun i _ => n - (intOf i).toNat)
  case atStart => exact ⟨0, by omega, rfl, by rw [List.take_zero]; exact G2, by rw [List.take_zero]; exact R2, hb2, MW2⟩
  case round =>
    obtain ⟨j, hj, rfl, GA, GB, hbr, hM⟩ := hrel
    clear G2 R2 hb2 MW2
    have OJ := OK.out j
    rw [List.length_take_of_le (by rw [HN.out]; omega)] at OJ
    by_cases cj : j < n
    · have hjl : j < l.length := by rw [HN.out]; omega
      have hRr := HR.out.mo hM
      obtain ⟨g', off', eg, hc⟩ := hRr.2.resolve_left (by intro h; rw [h] at hjl; simp at hjl)
      obtain rfl : A = some ⟨g', off', none⟩ := eg
      have sok := hRr.1 _ (List.getElem_mem hjl)
      obtain ⟨a0, a1, a2, a3⟩ := hc j hjl
      have TJ := TK.out j hjl
      have OJ1 := OK.out (j + 1)
      rw [List.length_take_of_le (by rw [HN.out]; omega)] at OJ1
      generalize l[j] = s at *
      obtain ⟨sa, so, sd⟩ := s
      obtain ⟨t1, t2, t3, t4, t5⟩ := sok
      unfold putS at TJ
      simp only at a0 a1 a2 a3 t1 t2 t3 t4 t5 TJ
      obtain ⟨M', hM'⟩ : ∃ M', putF x (l.take (j + 1)) = M' := ⟨_, rfl⟩
      have TJ' := Lib.hid hM'
      rw [hM'] at TJ OJ1
      clear hM'
      generalize putF x (l.take j) = M at *
      have ok : MOk M 1000 := ⟨OJ.fine, OJ.rises, by have := OJ.len; omega⟩
      have ok' : MOk M' 1000 := ⟨OJ1.fine, OJ1.rises, by have := OJ1.len; omega⟩
      have PA := Lib.hid (fun w (h : GAt w p r (2 ^ o + 1) o x M) => put_M p r _ o x M sa so sd w h ok t1)
      have PB := Lib.hid (fun w (h : RGE w P P x o M) (hb : P ≤ w.heap.size) => rput_E P P x o M sa so sd w h ok.len t1 x1 x2 hb)
      rw [← TJ] at PA PB
      have LA := Lib.hid (fun w (h : GAt w p r (2 ^ o + 1) o x M') => live_M p r _ o x M' w h ok')
      have LB := Lib.hid (fun w (h : RGE w P P x o M') => rlive_E P P o x M' w h ok' o2)
      have TA := Lib.hid (fun w (h : GAt w p r (2 ^ o + 1) o x M') => told_M p r _ o x M' w h ok')
      have TB := Lib.hid (fun w (h : RGE w P P x o M') => rtold_E P P o x M' w h ok' o2)
      have TL := Lib.hid (taus_len M' o)
      generalize (putM M (clip (sa / x)) so sd).2 = code at *
      generalize liveM M' o = lv at *
      have LG : LtW g' wr := LtW.of_cell a0
      have e1 : p < wr.heap.size := GA.at_.g.lt
      have e2 : r < wr.heap.size := GA.at_.r.lt
      have e3 : P < wr.heap.size := by obtain ⟨_, _, _, q⟩ := GB; exact q.g.lt
      have i0 : (0 : Int) ≤ j := by omega
      have i1 : (j : Int) < n := by omega
      clear TJ OJ OJ1 hc hRr ok ok'
      go_upto_region 12 with (fail)
      refine wp_name ?_
      intro V hV
      have BV : Blk V wr.heap.size 36 #[.int .i64 (hiW sa), .int .u64 (loW sa), .int .i64 so, .int .i64 sd] := by rw [hV]; infer_instance
      have GA' := GA.mo (show Mo wr V by rw [hV]; exact Mor.out)
      have GB' := GB.mo (show Mo wr V by rw [hV]; exact Mor.out)
      have MV := hM.trans (show Mo wr V by rw [hV]; exact Mor.out)
      have hPV : P ≤ V.heap.size := by have := (show Mo wr V by rw [hV]; exact Mor.out).size; omega
      clear hV GA GB hM a0 a1 a2 a3 LG hbr
      generalize wr.heap.size = b at *
      have k0 : V.cell? ⟨b, 0, none⟩ = some (.int .i64 (hiW sa)) := by rw [blk_cell BV]; rfl
      have k1 : V.cell? ⟨b, 1, none⟩ = some (.int .u64 (loW sa)) := by rw [blk_cell BV]; rfl
      have k2 : V.cell? ⟨b, 2, none⟩ = some (.int .i64 so) := by rw [blk_cell BV]; rfl
      have k3 : V.cell? ⟨b, 3, none⟩ = some (.int .i64 sd) := by rw [blk_cell BV]; rfl
      have LV : LtW b V := LtW.of_cell k0
      go_region_held3 (fun w' => w'.cell? ⟨b, 0, none⟩ = some (.int .i64 (hiW sa)) ∧ w'.cell? ⟨b, 1, none⟩ = some (.int .u64 (loW sa)) ∧ w'.cell? ⟨b, 2, none⟩ = some (.int .i64 so) ∧ w'.cell? ⟨b, 3, none⟩ = some (.int .i64 sd)) (first | (simp [go_sem, k0, k1, k2, k3]; done) | (simp [go_sem, m0, m1, m2, m3]; done) | (simp [go_sem, n0, n1, n2, n3]; done) | (simp [go_sem, y0, y1, y2, y3]; done) | (simp [go_sem, q0, q1, q2, q3]; done))
        (first
        | ((with_reducible refine (PA.out _ (GA'.mo Mor.out)).mono ?_); rintro e w5 ⟨rfl, GA5, KA5⟩
           have B5 := KA5.1 b _ _ (by omega) (by omega) ((Mor.out : Mo V _).blk BV)
           have m0 : w5.cell? ⟨b, 0, none⟩ = some (.int .i64 (hiW sa)) := by rw [blk_cell B5]; rfl
           have m1 : w5.cell? ⟨b, 1, none⟩ = some (.int .u64 (loW sa)) := by rw [blk_cell B5]; rfl
           have m2 : w5.cell? ⟨b, 2, none⟩ = some (.int .i64 so) := by rw [blk_cell B5]; rfl
           have m3 : w5.cell? ⟨b, 3, none⟩ = some (.int .i64 sd) := by rw [blk_cell B5]; rfl
           have LV5 : LtW b w5 := LtW.of_cell m0
           have GB5 := (GB'.mo (Mor.out : Mo V _)).ours (GA'.mo Mor.out) KA5
           have M5 := kept_mo KA5 (MV.trans Mor.out) hp hr
           have hP5 : P ≤ w5.heap.size := by obtain ⟨_, _, _, q⟩ := GB5; exact Nat.le_of_lt q.g.lt)
        | ((with_reducible refine (PB.out _ (GB5.mo Mor.out) (Nat.le_trans hP5 (Mo.size Mor.out))).mono ?_); rintro e w6 ⟨rfl, GB6, KB6⟩
           have B6 := keptR_blk KB6 ((Mor.out : Mo w5 _).blk B5) (by omega) (by decide)
           have n0 : w6.cell? ⟨b, 0, none⟩ = some (.int .i64 (hiW sa)) := by rw [blk_cell B6]; rfl
           have n1 : w6.cell? ⟨b, 1, none⟩ = some (.int .u64 (loW sa)) := by rw [blk_cell B6]; rfl
           have n2 : w6.cell? ⟨b, 2, none⟩ = some (.int .i64 so) := by rw [blk_cell B6]; rfl
           have n3 : w6.cell? ⟨b, 3, none⟩ = some (.int .i64 sd) := by rw [blk_cell B6]; rfl
           have LV6 : LtW b w6 := LtW.of_cell n0
           have GA6 := (GA5.mo (Mor.out : Mo w5 _)).theirsE (GB5.mo Mor.out) KB6
           have M6 := KB6.2 W hPW hPW (M5.trans Mor.out)
           have hP6 : P ≤ w6.heap.size := by obtain ⟨_, _, _, q⟩ := GB6; exact Nat.le_of_lt q.g.lt)
        | ((with_reducible refine (LA.out _ (GA6.mo Mor.out)).mono ?_); rintro e w7 ⟨rfl, N7⟩
           have K7 := (Mor.out : Mo w6 _).trans N7
           have B7 := K7.blk B6
           have y0 : w7.cell? ⟨b, 0, none⟩ = some (.int .i64 (hiW sa)) := by rw [blk_cell B7]; rfl
           have y1 : w7.cell? ⟨b, 1, none⟩ = some (.int .u64 (loW sa)) := by rw [blk_cell B7]; rfl
           have y2 : w7.cell? ⟨b, 2, none⟩ = some (.int .i64 so) := by rw [blk_cell B7]; rfl
           have y3 : w7.cell? ⟨b, 3, none⟩ = some (.int .i64 sd) := by rw [blk_cell B7]; rfl
           have LV7 : LtW b w7 := LtW.of_cell y0
           have GA7 := GA6.mo K7
           have GB7 := GB6.mo K7
           have M7 := M6.trans K7)
        | ((with_reducible refine (LB.out _ (GB7.mo Mor.out)).mono ?_); rintro e w8 ⟨rfl, N8⟩
           have K8 := (Mor.out : Mo w7 _).trans N8
           have B8 := K8.blk B7
           have q0 : w8.cell? ⟨b, 0, none⟩ = some (.int .i64 (hiW sa)) := by rw [blk_cell B8]; rfl
           have q1 : w8.cell? ⟨b, 1, none⟩ = some (.int .u64 (loW sa)) := by rw [blk_cell B8]; rfl
           have q2 : w8.cell? ⟨b, 2, none⟩ = some (.int .i64 so) := by rw [blk_cell B8]; rfl
           have q3 : w8.cell? ⟨b, 3, none⟩ = some (.int .i64 sd) := by rw [blk_cell B8]; rfl
           have LV8 : LtW b w8 := LtW.of_cell q0
           have GA8 := GA7.mo K8
           have GB8 := GB7.mo K8
           have M8 := M7.trans K8))
      clear PA PB LA LB GA' GB' GA5 GB5 GA6 GB6 GA7 GB7 KA5 KB6 B5 B6 B7 B8 M5 M6 M7 MV BV m0 m1 m2 m3 n0 n1 n2 n3 y0 y1 y2 y3 q0 q1 q2 q3 k0 k1 k2 k3 N7 N8 K7 K8 LV LV5 LV6 LV7 LV8
      by_cases c5 : j % 5 = 0
      · have d5 : ((j : Int) % 5 == 0) = true := by simp; omega
        go_wp2_with fail
        refine (TA.out _ (GA8.mo Mor.out)).mono ?_
        rintro e w9 ⟨va, rfl, OA, N9⟩
        have K9 := (Mor.out : Mo w8 _).trans N9
        have GA9 := GA8.mo K9
        have GB9 := GB8.mo K9
        have M9 := M8.trans K9
        clear GA8 GB8 M8 K9
        go_wp2_with fail
        refine (TB.out _ GB9).mono ?_
        rintro e w10 ⟨vb, rfl, OB, N10⟩
        have GA10 := GA9.mo N10
        have GB10 := GB9.mo N10
        have M10 := M9.trans N10
        have QA := (tauAt_owns OA).mo N10
        have QB := tauAt_owns OB
        clear GA9 GB9 M9 TA TB N9 OA OB N10
        go_wp2_with fail
        refine (same_any va vb _ _ QA QB (by rw [TL.out]; omega)).mono ?_
        rintro e w11 ⟨rfl, N11⟩
        have GA11 := GA10.mo N11
        have GB11 := GB10.mo N11
        have M11 := M10.trans N11
        have hP11 : P ≤ w11.heap.size := by obtain ⟨_, _, _, q⟩ := GB11; exact Nat.le_of_lt q.g.lt
        clear GA10 GB10 M10 QA QB N11
        go_wp2_with fail
        go_roundw
        case rel => exact ⟨j + 1, by omega, by go_num, by rw [TJ'.out]; exact GA11, by rw [TJ'.out]; exact GB11, hP11, M11⟩
        case measure => simp [intOf]; omega
      · have d5 : ((j : Int) % 5 == 0) = false := by simp; omega
        have hP8 : P ≤ w8.heap.size := by obtain ⟨_, _, _, q⟩ := GB8; exact Nat.le_of_lt q.g.lt
        go_wp2_with fail
        go_roundw
        case rel => exact ⟨j + 1, by omega, by go_num, by rw [TJ'.out]; exact GA8.mo Mor.out, by rw [TJ'.out]; exact GB8.mo Mor.out, hP8, M8.trans Mor.out⟩
        case measure => simp [intOf]; omega
    · have ej : j = n := by omega
      subst ej
      clear cj
      have ok : MOk (putF x (l.take j)) 1000 := ⟨OJ.fine, OJ.rises, by have := OJ.len; omega⟩
      have TL := taus_len (putF x (l.take j)) o
      clear OJ
      generalize putF x (l.take j) = M at *
      go_wp2_with fail
      refine (told_M p r _ o x M _ GA ok).mono ?_
      rintro e w9 ⟨va, rfl, OA, N9⟩
      have GB9 := GB.mo N9
      have M9 := hM.trans N9
      clear GA GB hM
      go_wp2_with fail
      refine (rtold_E P P o x M _ GB9 ok o2).mono ?_
      rintro e w10 ⟨vb, rfl, OB, N10⟩
      have M10 := M9.trans N10
      have QA := (tauAt_owns OA).mo N10
      have QB := tauAt_owns OB
      clear GB9 M9 N9 OA OB N10
      go_wp2_with fail
      refine (same_any va vb _ _ QA QB (by rw [TL]; omega)).mono ?_
      rintro e w11 ⟨rfl, N11⟩
      have M11 := M10.trans N11
      clear M10 QA QB N11
      go_wp2_with fail
      refine (works32_any _).mono ?_
      rintro e w12 ⟨rfl, N12⟩
      go_wp2_with fail
      go_ret
      exact ⟨rfl, M11.trans N12⟩
set_option maxRecDepth 20000 in
set_option maxHeartbeats 4000000 in
theorem tells32_any (A : Option Addr) (l : List Pt) (cap : Nat) (x o : Int) (W : World) (x1 : -9223372036854775808 ≤ x) (x2 : x ≤ 9223372036854775807) (o1 : -9223372036854775808 ≤ o) (o2 : o ≤ 9223372036854775807) (hR : PutRow W A l) :
    Calls Try.prog 3 #[.slice A l.length cap, .int .i64 x, .int .i64 o] W fun e w' => e = .returned (.bool true) ∧ Mo W w' := by
  by_cases hl : l.length ≤ 100
  · by_cases h : x < 1 ∨ 1152921504606846976 < x ∨ o < 1 ∨ 10 < o
    · have NB := Lib.hid (fun w => new_bad x o w h)
      generalize l.length = n at *
      clear hR
      have key : ∃ a b c d : Bool, decide (x < 1) = a ∧ decide (1152921504606846976 < x) = b ∧ decide (o < 1) = c ∧ decide (10 < o) = d ∧ (a || b || c || d) = true := by
        refine ⟨_, _, _, _, rfl, rfl, rfl, rfl, ?_⟩
        simp only [Bool.or_eq_true, decide_eq_true_eq]
        omega
      obtain ⟨a, b, c, d, fa, fb, fc, fd, ho⟩ := key
      clear h
      cases a <;> cases b <;> cases c <;> cases d <;> first | (exact absurd ho (by decide)) | skip
      all_goals
        clear ho
        go_enter Try.func3, Try.ntmps3
        go_wp2_with fail
        refine (NB.out _).mono ?_
        rintro e w2 ⟨rfl, M2⟩
        go_wp2_with fail
        refine (works32_any _).mono ?_
        rintro e w12 ⟨rfl, N12⟩
        go_wp2_with fail
        go_ret
        exact ⟨rfl, M2.trans N12⟩
    · obtain ⟨q, rfl⟩ : ∃ q : Nat, o = q := ⟨o.toNat, by omega⟩
      exact tells32_some A l cap x q W hl (by omega) (by omega) (by omega) (by omega) hR
  · clear hR
    generalize l.length = n at *
    go_enter Try.func3, Try.ntmps3
    go_wp2_with fail
    refine (works32_any _).mono ?_
    rintro e w1 ⟨rfl, M1⟩
    go_wp2_with fail
    go_ret
    exact ⟨rfl, M1⟩
end Go.Proofs.Ytfojgjannhhbaaa
