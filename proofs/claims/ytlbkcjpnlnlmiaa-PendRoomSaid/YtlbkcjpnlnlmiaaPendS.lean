/- horologelaw29.same; horologeref29: Place. -/
import Derived.Test.YtlbkcjpnlnlmiaaPendL
namespace Go.Proofs.Ytlbkcjpnlnlmiaa
open Go.RowKit Go.Maps

set_option maxRecDepth 20000 in
instance row_rentry : RowT 67 40 := ⟨by kernel_rfl, by kernel_rfl⟩
set_option maxRecDepth 20000 in
theorem eqlF_wide4 (x y : Value) : binOp .eql 40 x y = eqlF 40 x y := rfl
set_option maxRecDepth 20000 in
theorem eqlF_key4 (x y : Value) : binOp .eql 38 x y = eqlF 38 x y := rfl
set_option maxRecDepth 20000 in
theorem en_key' (k a : Array Value) (d : Bool) [hk : SzA k 37] : (enC k a d).extract 0 37 = k := en_key k a d
set_option maxRecDepth 20000 in
theorem en_at' (k a : Array Value) (d : Bool) [hk : SzA k 37] [ha : SzA a 2] : (enC k a d).extract 37 39 = a := ext_mid k a #[.bool d] 37 39 hk.out (by rw [ha.out])
set_option maxRecDepth 20000 in
theorem en_ans (k a : Array Value) (d : Bool) [hk : SzA k 37] [ha : SzA a 2] : (enC k a d)[39]? = some (.bool d) := by
  unfold enC
  rw [Array.getElem?_append_right (by simp [hk.out, ha.out])]
  simp [hk.out, ha.out]
attribute [local go_sem] blk_cell' blk_frozen' en_key' en_at' en_ans
attribute [local go_sem ↓] loadF_key loadF_entry loadF_wide' eqlF_wide4 eqlF_key4
attribute [local go_sem] run_loadFo run_loadFz run_loadF0
set_option maxRecDepth 20000 in
set_option maxHeartbeats 4000000 in
theorem same29_any (x : En) (hx : EnOk x) (W : World) : Calls Try.prog 18 #[.agg (enC x.k x.a x.d), .agg (enC x.k x.a x.d)] W fun e w' => e = .returned (.bool true) ∧ Mo W w' := by
  obtain ⟨xk, xa, xd⟩ := x
  have z1 := key_sz hx.k
  have z2 := at_sz hx.a
  have y1 := one_of_fits hx.k
  have y2 := one_of_fits hx.a
  simp only at z1 z2 y1 y2
  have ek := run_eqlF_same fl_key hx.k
  have ea := run_eqlF_same fl_wide hx.a
  simp only at ek ea
  have ed : (xd == xd) = true := by simp
  clear hx
  go_enter Try.func18, Try.ntmps18
  go_wp2_with fail
  go_ret
  exact ⟨rfl, Mor.out⟩
/-- where a key stands -/
noncomputable def placeE (E : List En) (k : Array Value) : Int := match E.findIdx? (fun e => eqA e.k k) with
  | some i => i
  | none => -1
set_option maxRecDepth 20000 in
theorem place_none {E : List En} {k : Array Value} (h : ∀ e ∈ E, e.k ≠ k) : placeE E k = -1 := by
  unfold placeE
  have : E.findIdx? (fun e => eqA e.k k) = none := by
    rw [List.findIdx?_eq_none_iff]
    intro e he
    rw [Bool.eq_false_iff]
    exact fun c => h e he (eqA_iff.1 c)
  rw [this]
set_option maxRecDepth 20000 in
theorem place_some {E : List En} {k : Array Value} {i : Nat} (hi : i < E.length) (hk : E[i].k = k) (hb : ∀ j (h : j < i), E[j].k ≠ k) : placeE E k = i := by
  unfold placeE
  have : E.findIdx? (fun e => eqA e.k k) = some i := by
    rw [List.findIdx?_eq_some_iff_getElem]
    refine ⟨hi, eqA_iff.2 hk, fun j hj => ?_⟩
    rw [Bool.not_eq_true]
    rw [Bool.eq_false_iff]
    exact fun c => hb j hj (eqA_iff.1 c)
  rw [this]
/-- the reference's table: its block, and an own row of entries -/
structure RefAt (W : World) (R b : Nat) (room : Int) (E : List En) (v : Value) : Prop where
  t : Blk W R 62 #[.int .i64 room, v]
  row : W.ownsRow b 67 40 v E.length (rowE E)
  ok : ∀ e ∈ E, EnOk e
set_option maxRecDepth 20000 in
theorem RefAt.mo {W w : World} {R b : Nat} {room : Int} {E : List En} {v : Value} (h : RefAt W R b room E v) (k : Mo W w) : RefAt w R b room E v := ⟨k.blk h.t, owns_mo h.row k, h.ok⟩
set_option maxRecDepth 20000 in
theorem own_cells' {w : World} {b : Nat} {t : TypeId} {v : Value} {N : Nat} {E : List En} (h : w.ownsRow b t 40 v N (rowE E)) (ok : ∀ e ∈ E, EnOk e) (hN : 0 < N) :
    ∃ g c2, v = .slice (some ⟨g, 0, none⟩) N c2 ∧ b ≤ g ∧ ∀ (q : Nat) (hq : q < E.length) j v, (enC E[q].k E[q].a E[q].d).toList[j]? = some v → w.cell? ⟨g, q * 40 + j, none⟩ = some v := by
  rcases h.2 with ⟨_, h0⟩ | ⟨g, cap, cur, hv, hb, hg, h3, h4, h5, h6⟩
  · omega
  · refine ⟨g, cap, hv, hb, fun q hq j v hj => ?_⟩
    have hj40 : j < 40 := by
      have := (List.getElem?_eq_some_iff.1 hj).1
      rwa [en_len (ok _ (List.getElem_mem hq))] at this
    have h1 := h.1
    rw [rowE_len ok] at h1
    have e1 := rowE_get ok q hq j hj40
    rw [hj, ← h6] at e1
    rw [blk_cell (⟨hg⟩ : Blk w g _ cur), ← Array.getElem?_toList, ← e1, List.getElem?_take_of_lt (by omega)]
set_option maxRecDepth 20000 in
theorem key_cells {w : World} {g o : Nat} {k a : Array Value} {d : Bool} (h : ∀ j v, (enC k a d).toList[j]? = some v → w.cell? ⟨g, o + j, none⟩ = some v) : ∀ j v, k.toList[j]? = some v → w.cell? ⟨g, o + j, none⟩ = some v := fun j v hv => h j v (by
  unfold enC
  rw [Array.getElem?_toList] at hv ⊢
  have hj := (Array.getElem?_eq_some_iff.1 hv).1
  rw [Array.append_assoc, Array.getElem?_append, if_pos hj]
  exact hv)
set_option maxRecDepth 20000 in
set_option maxHeartbeats 8000000 in
theorem place_any (R b : Nat) (room : Int) (E : List En) (v : Value) (k : Array Value) (W : World) (h : RefAt W R b room E v) (hk : KeyP k) (hl : E.length ≤ 65536) :
    Calls Try.prog 25 #[ptr R, .agg k] W fun e w' => e = .returned (.int .i64 (placeE E k)) ∧ Mo W w' := by
  have zk := key_sz hk
  have ok1 := one_of_fits hk
  have HK := Lib.hid hk
  have HR := Lib.hid h
  obtain ⟨A, c, rfl⟩ : ∃ A c, v = .slice A E.length c := by
    rcases h.row.2 with ⟨h1, h2⟩ | ⟨g, cap, cur, h1, _⟩
    · exact ⟨none, 0, by rw [h1, h2]⟩
    · exact ⟨_, _, h1⟩
  have ht := h.t
  clear h hk
  obtain ⟨N, hN⟩ : ∃ N, E.length = N := ⟨_, rfl⟩
  rw [hN] at ht hl HR
  have HN := Lib.hid hN
  clear hN
  go_enter Try.func25, Try.ntmps25
  go_wp2_with fail
  have kb : Blk (W.alloc (.cells k 38)) W.heap.size 38 k := inferInstance
  go_loopw [5] (fun i wr => ∃ j : Nat, j ≤ N ∧ i = .int .i64 j ∧ (∀ m (hm : m < j) (hE : m < E.length), E[m].k ≠ k) ∧ Mo (W.alloc (.cells k 38)) wr) (fun i _ => N - (intOf i).toNat)
  case atStart => exact ⟨0, by omega, rfl, fun m hm => absurd hm (by omega), Mor.out⟩
  case round =>
    obtain ⟨j, hj, rfl, hne, hM⟩ := hrel
    have HNE := Lib.hid hne
    have tr : Blk wr R 62 #[.int .i64 room, .slice A N c] := hM.blk inferInstance
    have kr : Blk wr W.heap.size 38 k := hM.blk kb
    have MW : Mo W wr := (Mor.out : Mo W (W.alloc (.cells k 38))).trans hM
    clear hne
    by_cases cj : j < N
    · have hjE : j < E.length := by rw [HN.out]; exact cj
      have HR' := HR.out.mo MW
      obtain ⟨g, c2, e2, -, hcell⟩ := own_cells' HR'.row HR'.ok (by omega)
      injection e2 with e2 e3 e4
      have hc := hcell j hjE
      have eok := HR.out.ok _ (List.getElem_mem hjE)
      have z1 := key_sz eok.k
      have ld : (loadF 38 (.pointer (some ⟨g, j * 40, none⟩))).run Try.prog wr.drew = .ok (.agg E[j].k) wr.drew := run_loadC _ 37 wr.drew g (j * 40) _ z1.out (key_cells hc)
      have eq := run_eql_flat fl_key wr.drew eok.k HK.out
      rw [eqlF_key4] at eq
      have HP : Hid (E[j].k = k → placeE E k = j) := Lib.hid fun e => place_some hjE e fun m hm => HNE.out m hm (by omega)
      have HS : Hid (E[j].k ≠ k → ∀ m (hm : m < j + 1) (hE : m < E.length), E[m].k ≠ k) := Lib.hid fun e m hm hE => by
        by_cases q : m = j
        · subst q; exact e
        · exact HNE.out m (by omega) hE
      subst e2 e4
      have i1 : (0 : Int) ≤ j := by omega
      have i2 : (j : Int) < N := by omega
      clear hcell HR' e3 hc eok
      by_cases ck : E[j].k = k
      · have dk : eqA E[j].k k = true := eqA_iff.2 ck
        rw [dk] at eq
        have PJ := Lib.hid (HP.out ck)
        clear ck dk HP HS
        generalize E[j].k = ek at *
        clear hjE
        go_upto_region 4 with (fail)
        go_region
        go_wp2_with fail
        go_ret
        exact ⟨by rw [PJ.out]; rfl, mo_drew MW⟩
      · have dk : eqA E[j].k k = false := by rw [Bool.eq_false_iff]; exact fun c => ck (eqA_iff.1 c)
        rw [dk] at eq
        have HS' := Lib.hid (HS.out ck)
        clear ck dk HP HS
        generalize E[j].k = ek at *
        clear hjE
        go_upto_region 4 with (fail)
        go_region
        go_wp2_with fail
        go_roundw
        case rel => exact ⟨j + 1, by omega, by go_num, HS'.out, mo_drew hM⟩
        case measure => simp [intOf]; omega
    · obtain rfl : j = N := by omega
      have P : Hid (placeE E k = -1) := Lib.hid (place_none fun e he => by
        obtain ⟨m, hm, rfl⟩ := List.getElem_of_mem he
        exact HNE.out m (by rw [← HN.out]; exact hm) hm)
      go_wp2_with fail
      go_ret
      exact ⟨by rw [P.out]; rfl, MW⟩
end Go.Proofs.Ytlbkcjpnlnlmiaa
