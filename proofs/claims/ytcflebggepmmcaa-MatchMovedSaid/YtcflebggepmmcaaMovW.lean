/- horologelaw30.moved: the walk. -/
import Derived.Test.YtcflebggepmmcaaMovP
import Derived.Test.YtcflebggepmmcaaBet30
import Derived.Test.YtcflebggepmmcaaPackIP
namespace Go.Proofs.Ytcflebggepmmcaa
open Go.RowKit

set_option maxRecDepth 20000 in
theorem storeF_wideM (v x : Value) : Instr.storeAt 32 v x = storeF 32 v x := rfl
set_option maxRecDepth 20000 in
theorem run_storeDgAt (w : World) (g : Nat) (a s u : Array Value) (v x y : Value) [b : Blk w g 41 (dgC a s u v)] [za : SzA a 2] [zs : SzA s 18] [zu : SzA u 18] [q : OneA #[x, y]] :
    (storeF 32 (.pointer (some ⟨g, 0, none⟩)) (.agg #[x, y])).run Try.prog w = .ok () (w.setRow g (dgC #[x, y] s u v)) := by
  have z : SzA (dgC a s u v).toList.toArray 39 := ⟨by rw [Array.toArray_toList]; exact (inferInstance : SzA (dgC a s u v) 39).out⟩
  have b' : Blk w g 41 (dgC a s u v).toList.toArray := by rw [Array.toArray_toList]; exact b
  have y' : SzA [x, y].toArray 2 := ⟨rfl⟩
  have q' : OneA [x, y].toArray := q
  have := run_storeF 32 2 w g 0 41 (dgC a s u v).toList [x, y] 39 (by omega)
  rw [this]
  congr 2
  obtain ⟨a0, a1, rfl⟩ := arr2 za.out
  apply Array.toList_inj.1
  unfold spliceL dgC
  simp
set_option maxRecDepth 20000 in
theorem own_dg {w wf : World} {b : Nat} {A : Option Addr} {cz : Nat} {bs : List Int} (row : w.ownsRow b 5 1 (.slice A bs.length cz) bs.length (byteL bs)) (by_ : bs.length ≤ 140737488355328 ∧ ∀ c ∈ bs, 0 ≤ c ∧ c ≤ 255) (k : ∀ g, b ≤ g → wf.heap[g]? = w.heap[g]?) :
    ByteS wf A cz bs ∧ ∀ g off, A = some ⟨g, off, none⟩ → bs ≠ [] → NoTy 41 wf g := by
  obtain ⟨A5, c5, e5, h5⟩ := owns_byteS row by_.1 by_.2
  injection e5 with e5 _ e6
  subst e5 e6
  have key : ∀ g off, A = some ⟨g, off, none⟩ → b ≤ g ∧ NoTy 41 w g := fun g off e => by
    subst e
    rcases row.2 with ⟨q, _⟩ | ⟨g6, cap6, cur6, q, hb, hb6, _⟩
    · cases q
    · injection q with q
      injection q with q
      injection q with q
      subst q
      refine ⟨hb, fun cs f e8 => ?_⟩
      rw [hb6] at e8
      injection e8 with e8
      injection e8 with _ e8 _
      exact absurd e8 (by decide)
  refine ⟨byteS_same h5 fun g off e _ => k g (key g off e).1, fun g off e _ cs f => ?_⟩
  rw [k g (key g off e).1]
  exact (key g off e).2 cs f
/-- what moved has in memory -/
structure MvSt (W w3 w : World) (g : Nat) (D Y Z Q L : Array Value) : Prop where
  d : Blk w W.heap.size 41 D
  y : Blk w (W.heap.size + 1) 32 Y
  z : Blk w (W.heap.size + 2) 41 Z
  p : Blk w w3.heap.size 66 Q
  l : Blk w g 118 L
  m : Mo w3 w
set_option maxRecDepth 20000 in
theorem MvSt.mo {W w3 w w' : World} {g : Nat} {D Y Z Q L : Array Value} (h : MvSt W w3 w g D Y Z Q L) (M : Mo w w') : MvSt W w3 w' g D Y Z Q L := ⟨M.blk h.d, M.blk h.y, M.blk h.z, M.blk h.p, M.blk h.l, h.m.trans M⟩
set_option maxRecDepth 20000 in
theorem MvSt.set {W w3 w : World} {g : Nat} {D Y Z Q L : Array Value} (h : MvSt W w3 w g D Y Z Q L) (h1 : W.heap.size + 3 ≤ w3.heap.size) (h2 : w3.heap.size < g) (i : Nat) (v : Value) : MvSt W w3 (w.setCell ⟨w3.heap.size, i, none⟩ v) g D Y Z (Q.setIfInBounds i v) L :=
  ⟨blk_setCell_ne h.d (by omega) i v, blk_setCell_ne h.y (by omega) i v, blk_setCell_ne h.z (by omega) i v, blk_setCell h.p i v, blk_setCell_ne h.l (by omega) i v, mo_setCell h.m (by omega) i v⟩
set_option maxRecDepth 20000 in
theorem MvSt.setd {W w3 w : World} {g : Nat} {D Y Z Q L : Array Value} (h : MvSt W w3 w g D Y Z Q L) (h1 : W.heap.size + 3 ≤ w3.heap.size) (h2 : w3.heap.size < g) (i : Nat) (v : Value) : MvSt W w3 (w.setCell ⟨w3.heap.size, i, none⟩ v).drew g D Y Z (Q.setIfInBounds i v) L :=
  (h.set h1 h2 i v).mo Mor.out
attribute [local go_sem] blk_cell' blk_frozen' dg_at dg_b dg_src dg_dst
attribute [local go_sem ↓] loadF_dg storeF_dg' loadF_pk storeAt_pk loadF_wide' storeF_wideM
attribute [local go_sem] run_storeDgAt run_loadF0 run_storePk run_storeF0 run_loadFo run_loadFz
set_option maxRecDepth 20000 in
set_option maxHeartbeats 16000000 in
theorem moved_any (B : Nat) (d : Dg) (C : Array Value) (b : Int) (W : World) (ok : DgOk d) (hd : DgW B W d C) (iw : InW (wI d.at_)) (wat : d.at_ = wdC (wI d.at_)) (ib : InW b) :
    Calls Try.prog 25 #[.agg C, WV b] W fun e w' => ∃ C', e = .returned (.agg C') ∧ DgW B w' (mvD d b) C' ∧ Mo W w' := by
  obtain ⟨A, cap, rfl, hb, hT⟩ := hd
  have za := sz_wide ok.at_
  have zs := sz_ends ok.src
  have zt := sz_ends ok.dst
  have oa := one_of_fits ok.at_
  have os := one_of_fits ok.src
  have ot' := one_of_fits ok.dst
  obtain ⟨r, hr⟩ : ∃ r, mvD d b = r := ⟨_, rfl⟩
  rw [hr]
  unfold mvD at hr
  obtain ⟨da, ds, dd, bs⟩ := d
  simp only at za zs zt oa os ot' hb hT hr iw wat ⊢
  obtain ⟨ta, hta⟩ : ∃ x, wI da = x := ⟨_, rfl⟩
  rw [hta] at iw wat hr
  subst wat
  clear hta
  have TP := takeP_pk hb.byte
  have TT := @takeP_put bs
  have TK := Lib.hid (fun w (k : Mo W w) => ptake_any bs.length cap A bs w rfl (hb.mo k))
  have AD := Lib.hid (fun w => add_any ta b iw ib w)
  obtain ⟨tn, htn⟩ : ∃ x, cl (ta + b) = x := ⟨_, rfl⟩
  rw [htn] at AD hr
  have HB := Lib.hid hb
  have HR := Lib.hid hr
  have HT := Lib.hid hT
  have TPH := Lib.hid TP
  have TTH := Lib.hid (fun q => @TT q hb.byte)
  clear hb hr hT TP TT htn ok iw ib
  generalize hn : bs.length = n at *
  go_enter Try.func25, Try.ntmps25
  go_wp2_with fail
  refine (AD.out _).mono ?_
  rintro e w1 ⟨rfl, M1⟩
  have B1 : Blk w1 W.heap.size 41 (dgC (wdC ta) ds dd (.slice A n cap)) := M1.blk inferInstance
  have Y1 : Blk w1 (W.heap.size + 1) 32 #[.int .i64 (hiW b), .int .u64 (loW b)] := M1.blk inferInstance
  have Z1 : Blk w1 (W.heap.size + 2) 41 (dgC #[.int .i64 0, .int .u64 0] en0 en0 (.slice none 0 0)) := M1.blk inferInstance
  have S1 := M1.size
  have N1 := (Mor.out : Mo W _).trans M1
  clear M1 AD
  go_upto_region 2 with (fail)
  refine wp_name ?_
  intro w2 hw2
  have B2 : Blk w2 W.heap.size 41 (dgC (wdC tn) ds dd (.slice A n cap)) := by rw [hw2]; exact blk_setRow B1
  have Y2 : Blk w2 (W.heap.size + 1) 32 #[.int .i64 (hiW b), .int .u64 (loW b)] := by rw [hw2]; exact blk_setRow_ne Y1 (by omega)
  have Z2 : Blk w2 (W.heap.size + 2) 41 (dgC #[.int .i64 0, .int .u64 0] en0 en0 (.slice none 0 0)) := by rw [hw2]; exact blk_setRow_ne Z1 (by omega)
  have N2 : Mo W w2 := by rw [hw2]; exact mo_setRow N1 (by omega) _
  have S2 : W.heap.size + 3 ≤ w2.heap.size := Z2.lt
  clear hw2 B1 Y1 Z1 S1 N1
  go_wp2_with fail
  refine (TK.out _ (N2.trans Mor.out)).mono ?_
  rintro e w3 ⟨u, rfl, ⟨a1, c1, a2, c2, rfl, X1, X2⟩, M3⟩
  obtain ⟨tp, htp⟩ : ∃ tp, takeP bs = tp := ⟨_, rfl⟩
  rw [htp] at X1 X2 HR TPH TTH ⊢
  clear htp TK
  obtain ⟨⟨ph, pe, pm⟩, tc⟩ := tp
  simp only at X1 X2 HR TPH TTH ⊢
  have HX1 := Lib.hid X1
  have HX2 := Lib.hid X2
  have B3 := M3.blk B2
  have Y3 := M3.blk Y2
  have Z3 := M3.blk Z2
  have S3 := Nat.le_trans S2 M3.size
  have N3 := N2.trans M3
  clear X1 X2
  generalize hn1 : pe.length = n1 at *
  generalize hn2 : pm.length = n2 at *
  have HN := Lib.hid hn
  have HN1 := Lib.hid hn1
  have HN2 := Lib.hid hn2
  clear hn hn1 hn2 Z2 Y2 B2
  by_cases ct : tc = 0
  · subst ct
    have hr := HR.out
    rw [if_pos rfl] at hr
    have HR' := Lib.hid hr
    clear hr HR
    go_upto_region 5 with (fail)
    refine wp_name ?_
    intro w4 hw4
    have P4 : Blk w4 w3.heap.size 66 (pkL ph (.slice a1 n1 c1) (.slice a2 n2 c2)).toArray := by rw [hw4]; infer_instance
    have M4 : Mo w3 w4 := by rw [hw4]; exact Mor.out
    have B4 := M4.blk B3
    have Y4 := M4.blk Y3
    have Z4 := M4.blk Z3
    have S4 : w3.heap.size < w4.heap.size := P4.lt
    have N4 := N3.trans M4
    clear hw4 B3 Y3 Z3
    go_wp2_with fail
    refine wp_loop_rounds 5 ?_
    rw [rounds_succ]
    go_upto_region 8 with (fail)
    refine wp_name ?_
    intro w5 hw5
    have X5 : MvSt W w3 w5 w4.heap.size (dgC (wdC tn) ds dd (.slice A n cap)) #[.int .i64 (hiW b), .int .u64 (loW b)] (dgC #[.int .i64 0, .int .u64 0] en0 en0 (.slice none 0 0)) (pkL ph (.slice a1 n1 c1) (.slice a2 n2 c2)).toArray #[.pointer (some ⟨w3.heap.size, 13, none⟩), .pointer (some ⟨w3.heap.size, 14, none⟩), .pointer (some ⟨w3.heap.size, 15, none⟩), .pointer (some ⟨w3.heap.size, 12, none⟩)] := by
      have M5 : Mo w4 w5 := by rw [hw5]; exact Mor.out
      exact ⟨M5.blk B4, M5.blk Y4, M5.blk Z4, M5.blk P4, by rw [hw5]; infer_instance, M4.trans M5⟩
    clear hw5 B4 Y4 Z4 P4 N4
    obtain ⟨d, y, z, p, l, m⟩ := X5
    have X5 : MvSt W w3 w5 w4.heap.size _ _ _ _ _ := ⟨d, y, z, p, l, m⟩
    go_region
    go_wp2_with fail
    rw [rounds_succ]
    go_upto_region 8 with (fail)
    refine wp_name ?_
    intro w6 hw
    have X6 := X5.setd S3 S4 13 (.int .u64 (IntKind.u64.wrap (ph.o + loW b)))
    rw [← hw] at X6
    clear hw X5 d y z p l m
    obtain ⟨d, y, z, p, l, m⟩ := X6
    have X6 : MvSt W w3 w6 w4.heap.size _ _ _ _ _ := ⟨d, y, z, p, l, m⟩
    go_region
    go_wp2_with fail
    rw [rounds_succ]
    go_upto_region 8 with (fail)
    refine wp_name ?_
    intro w7 hw
    have X7 := X6.setd S3 S4 14 (.int .u64 (IntKind.u64.wrap (ph.r + loW b)))
    rw [← hw] at X7
    clear hw X6 d y z p l m
    obtain ⟨d, y, z, p, l, m⟩ := X7
    have X7 : MvSt W w3 w7 w4.heap.size _ _ _ _ _ := ⟨d, y, z, p, l, m⟩
    go_region
    go_wp2_with fail
    rw [rounds_succ]
    go_upto_region 8 with (fail)
    refine wp_name ?_
    intro w8 hw
    have X8 := X7.setd S3 S4 15 (.int .u64 (IntKind.u64.wrap (ph.x + loW b)))
    rw [← hw] at X8
    clear hw X7 d y z p l m
    obtain ⟨d, y, z, p, l, m⟩ := X8
    have X8 : MvSt W w3 w8 w4.heap.size _ _ _ _ _ := ⟨d, y, z, p, l, m⟩
    go_region
    go_wp2_with fail
    rw [rounds_succ]
    go_upto_region 10 with (fail)
    refine wp_name ?_
    intro w9 hw
    have X9 := X8.setd S3 S4 12 (.int .u64 (IntKind.u64.wrap (ph.f + loW b)))
    rw [← hw] at X9
    clear hw X8 d y z p l m
    obtain ⟨d, y, z, p, l, m⟩ := X9
    have X9 : MvSt W w3 w9 w4.heap.size _ _ _ _ _ := ⟨d, y, z, p, l, m⟩
    have p' : Blk w9 w3.heap.size 66 (pkL (mvH ph (loW b)) (.slice a1 n1 c1) (.slice a2 n2 c2)).toArray := by
      have q := p
      simp only [IntKind.wrap_u64] at q
      exact q
    have PT : Hid (Calls Try.prog 51 #[pkV (mvH ph (loW b)) (.slice a1 n1 c1) (.slice a2 n2 c2)] w9 (PutRowR (putP ⟨mvH ph (loW b), pe, pm⟩) w9)) := Lib.hid (pput_row ⟨mvH ph (loW b), pe, pm⟩ _ w9 (by
      obtain ⟨A1, k1, e1, h1⟩ := HX1.out w9 (fun k _ h => m.below.block k h)
      obtain ⟨A2, k2, e2, h2⟩ := HX2.out w9 (fun k _ h => m.below.block k h)
      exact ⟨A1, k1, A2, k2, by rw [e1, e2], h1, h2⟩) (mvH_ok TPH.out.h) (TTH.out _ rfl).2)
    obtain ⟨P, hP⟩ : ∃ q, putP ⟨mvH ph (loW b), pe, pm⟩ = q := ⟨_, rfl⟩
    rw [hP] at PT HR'
    clear p X9 l hP y TPH TTH HX1 HX2
    go_wp2_with fail
    refine PT.out.mono ?_
    rintro e wa ⟨va, rfl, row, hby, Ma⟩
    obtain ⟨Az, cz, rfl⟩ := row_slS row
    have da := Ma.blk d
    have za' := Ma.blk z
    have Na := (N3.trans m).trans Ma
    have RW := Lib.hid row
    have HY := Lib.hid hby
    have L9 : W.heap.size + 3 ≤ w9.heap.size := Nat.le_trans S3 m.size
    clear row hby d z p' PT
    go_upto_region 11 with (fail)
    refine wp_name ?_
    intro wb hw
    have db : Blk wb W.heap.size 41 (dgC (wdC tn) ds dd (.slice Az P.1.length cz)) := by
      rw [hw]
      have q := blk_setCell da 38 (.slice Az P.1.length cz)
      rwa [dg_setb] at q
    have zb : Blk wb (W.heap.size + 2) 41 (dgC #[.int .i64 0, .int .u64 0] en0 en0 (.slice none 0 0)) := by rw [hw]; exact blk_setCell_ne za' (by omega) _ _
    have Nb : Mo W wb := by rw [hw]; exact mo_setCell Na (by omega) _ _
    have KE : ∀ k, w9.heap.size ≤ k → wb.heap[k]? = wa.heap[k]? := fun k hk => by rw [hw]; exact heap_setCell_other _ ⟨W.heap.size, 38, none⟩ k _ (show k ≠ W.heap.size by omega)
    clear hw
    go_wp2_with fail
    refine ret_c1 rfl (W.heap.size + 2) (dgC (wdC tn) ds dd (.slice Az P.1.length cz)) rfl rfl (z := inferInstance) (blk_setRow zb) ?_
    rw [← HR'.out]
    have OD := own_dg (wf := wb.setRow (W.heap.size + 2) (dgC (wdC tn) ds dd (.slice Az P.1.length cz))) RW.out HY.out (fun g hg => (setRow_get_ne _ _ _ _ (by omega)).trans (KE g hg))
    exact ⟨_, rfl, ⟨Az, cz, rfl, OD.1, fun g off e1 e2 => .inr (OD.2 g off e1 e2)⟩, mo_setRow Nb (by omega) _⟩
  · have d0 : (tc != 0) = true := by simp [ct]
    have hr := HR.out
    rw [if_neg ct] at hr
    have HR' := Lib.hid hr
    clear hr HR ct
    go_upto_region 4 with (fail)
    refine wp_name ?_
    intro w4 hw4
    have M34 : Mo w3 w4 := by rw [hw4]; exact Mor.out
    have B4 := M34.blk B3
    have Z4 := M34.blk Z3
    have N4 := N3.trans M34
    clear hw4
    go_wp2_with fail
    have M4 : Mo W (w4.setRow (W.heap.size + 2) (dgC (wdC tn) ds dd (.slice A n cap))) := mo_setRow N4 (by omega) _
    refine ret_c1 rfl (W.heap.size + 2) (dgC (wdC tn) ds dd (.slice A n cap)) rfl rfl (z := inferInstance) (blk_setRow Z4) ?_
    rw [← HR'.out]
    refine ⟨_, rfl, ⟨A, cap, by rw [HN.out], HB.out.mo M4, fun g off e1 e2 => ?_⟩, M4⟩
    rcases HT.out g off e1 e2 with q | q
    · exact .inl q
    · refine .inr fun cs f => ?_
      rw [M4.below.block g (byteS_lt (e1 ▸ HB.out) e2)]
      exact q cs f
end Go.Proofs.Ytcflebggepmmcaa
