/- shift: Clone of samples, Live, Copy, Add. -/
import Derived.Test.YthgkhllkhhnlpaaShfA
namespace Go.Proofs.Ythgkhllkhhnlpaa
open Go.RowKit

set_option maxRecDepth 20000 in
theorem infoOD : (Try.prog.info? 145).map (fun i => (i.zero, i.size, i.bytes)) = some (some (.agg #[.int .i64 0, .int .i64 0]), 2, 16) := by kernel_rfl
attribute [local go_sem] blk_cell' blk_frozen'
set_option maxRecDepth 20000 in
set_option maxHeartbeats 2000000 in
theorem sclone_at (g off n cap : Nat) (l : List OD) (W : World) (h : ODat W g off l) (hn : l.length = n) (hl : n ≤ 1000) :
    Calls Try.prog 56 #[.slice (some ⟨g, off, none⟩) n cap] W fun e w' => ∃ v, e = .returned v ∧ w'.ownsRow W.heap.size 145 2 v n (odL l) ∧ Mo W w' := by
  obtain ⟨i0, hi, hz0, hz1, hz2⟩ := info_parts infoOD
  have he : ∀ w : World, (binOp .eql 129 (.slice (some ⟨g, off, none⟩) n cap) (.slice none 0 0)).run Try.prog w = .ok (.bool false) w := fun _ => rfl
  go_enter Try.func56, Try.ntmps56
  go_wp2_with (at_builtin; refine wpList_append_own _ rfl _ _ 129 rfl W.heap.size 145 i0 (.agg #[.int .i64 0, .int .i64 0]) 2 16 Try.underlying129 hi hz0 hz1 hz2 rfl (by decide) _ _ _ rfl (World.ownsRow_made W #[] 0 (Nat.le_refl _) (Nat.zero_le _) rfl) ⟨g, off, none⟩ n cap (odL l) rfl ?c1 ?c2 ?c3 ?c4 ?c5 ?c6 ?_)
  case c1 => rw [odL_len, hn]
  case c2 =>
    intro j u hj
    have := (h.mo (Mor.out : Mo W (W.alloc (Obj.cells #[] 145)))) j u hj
    rw [Addr.add_mid]
    exact this
  case c3 => exact odL_one l
  case c4 => unfold maxLen; omega
  case c5 => omega
  case c6 => simp
  intro v' w2 hown hgrow _
  have hM : Mo W w2 := mo_grown (Mor.out : Mo W (W.alloc (Obj.cells #[] 145))) hgrow (by intro k hk; simp [Value.ownBlock] at hk; omega)
  clear hgrow
  go_wp2_with fail
  go_ret
  exact ⟨v', rfl, hown, hM⟩
set_option maxRecDepth 20000 in
set_option maxHeartbeats 2000000 in
theorem sclone_nil (W : World) : Calls Try.prog 56 #[.slice none 0 0] W fun e w' => e = .returned (.slice none 0 0) ∧ Mo W w' := by
  have he : ∀ w : World, (binOp .eql 129 (.slice none 0 0) (.slice none 0 0)).run Try.prog w = .ok (.bool true) w := fun _ => rfl
  go_enter Try.func56, Try.ntmps56
  go_wp2_with fail
  go_ret
  exact ⟨rfl, Mor.out⟩
set_option maxRecDepth 20000 in
theorem sclone_own {W : World} {b n : Nat} {v : Value} {l : List OD} (h : W.ownsRow b 145 2 v n (odL l)) (hn : l.length = n) (hl : n ≤ 1000) (w : World) (k : Mo W w) :
    Calls Try.prog 56 #[v] w fun e w' => ∃ v', e = .returned v' ∧ w'.ownsRow w.heap.size 145 2 v' n (odL l) ∧ Mo w w' := by
  rcases h.2 with ⟨rfl, h0⟩ | ⟨g, cap, cur, rfl, _⟩
  · refine (sclone_nil w).mono ?_
    rintro e w' ⟨rfl, m⟩
    exact ⟨_, rfl, ⟨h.1, .inl ⟨rfl, h0⟩⟩, m⟩
  · exact sclone_at g 0 n cap l w ((own_od h).mo k) hn hl
/-! ### Live -/
set_option maxRecDepth 20000 in
set_option maxHeartbeats 2000000 in
theorem slive_any (p b : Nat) (v : Value) (D : Sd) (W : World) (h : ShIs W p b v D) :
    Calls Try.prog 45 #[.pointer (some ⟨p, 0, none⟩)] W fun e w' => e = .returned (.int .i64 (D.l.length : Nat)) ∧ Mo W w' := by
  have bm := h.m
  obtain ⟨A, c, rfl⟩ : ∃ A c, v = .slice A D.l.length c := by
    rcases h.row.2 with ⟨rfl, h0⟩ | ⟨g, cap, _, rfl, _⟩
    · rw [h0]; exact ⟨none, 0, rfl⟩
    · exact ⟨_, cap, rfl⟩
  clear h
  go_enter Try.func45, Try.ntmps45
  go_wp2_with fail
  go_ret
  exact ⟨rfl, Mor.out⟩
set_option maxRecDepth 20000 in
set_option maxHeartbeats 2000000 in
theorem slive_nil (W : World) : Calls Try.prog 45 #[.pointer none] W fun e w' => e = .returned (.int .i64 0) ∧ Mo W w' := by
  go_enter Try.func45, Try.ntmps45
  go_wp2_with fail
  go_ret
  exact ⟨rfl, Mor.out⟩
/-! ### Add -/
abbrev st0c : Array Value := #[.int .u64 0, .int .i64 0, .int .i64 0]
def stC : Option (Nat × Int × Int) → Array Value
  | none => #[.int .u64 0, .int .i64 0, .int .i64 0]
  | some (k, x, y) => #[.int .u64 (k : Nat), .int .i64 x, .int .i64 y]
set_option maxRecDepth 20000 in
instance row_st : RowT 85 3 := ⟨by kernel_rfl, by kernel_rfl⟩
set_option maxRecDepth 20000 in
theorem loadF_st (v : Value) : Instr.loadAt 85 v = loadF 85 v := rfl
set_option maxRecDepth 20000 in
theorem storeF_st (v x : Value) : Instr.storeAt 85 v x = storeF 85 v x := rfl
set_option maxRecDepth 20000 in
theorem buildF_st (l : Array (Nat × Value)) : Instr.build 85 l = buildF 85 l := rfl
set_option maxRecDepth 20000 in
theorem run_build_st0 (w : World) : (buildF 85 #[]).run Try.prog w = .ok (.agg st0c) w := run_build w _ _ _ (by kernel_rfl)
set_option maxRecDepth 20000 in
theorem run_build_st3 (k : Int) (x y : Int) (w : World) : (buildF 85 #[(0, .int .u64 k), (1, .int .i64 x), (2, .int .i64 y)]).run Try.prog w = .ok (.agg #[.int .u64 k, .int .i64 x, .int .i64 y]) w := run_build w _ _ _ (by kernel_rfl)
set_option maxRecDepth 20000 in
theorem best_ne {l : List OD} (g off n cap : Nat) (W : World) (h : ODat W g off l) (hn : l.length = n) (h0 : 1 ≤ n) (hl : n ≤ 200) (hc : n ≤ cap) :
    Calls Try.prog 57 #[.slice (some ⟨g, off, none⟩) n cap] W fun e w' => e = .returned (.int .i64 (bestO l)) ∧ Mo W w' := by
  cases l with
  | nil => simp at hn; omega
  | cons x l =>
    have e : n = l.length + 1 := by rw [← hn]; rfl
    subst e
    exact sbest_any x l g off l.length cap W h rfl (by omega) hc
set_option maxRecDepth 20000 in
theorem news_of_blkS {w : World} {g : Nat} {t : TypeId} {cs : Array Value} (h : Blk w g t cs) (l : List Value) (hl : l = cs.toList) : ∀ j u, l[j]? = some u → w.cell? ((⟨g, 0, none⟩ : Addr).add j) = some u := by
  intro j u hj
  have e : (⟨g, 0, none⟩ : Addr).add j = ⟨g, j, none⟩ := by rw [Addr.add_mid, Nat.zero_add]
  rw [e, blk_cell h, ← Array.getElem?_toList, ← hl]
  exact hj
set_option maxRecDepth 20000 in
theorem own_noTS {w : World} {b T s n : Nat} {v : Value} {xs : List Value} (h : w.ownsRow b T s v n xs) {g : Nat} {t : TypeId} {cs : Array Value} (k : Blk w g t cs) (ne : T ≠ t) : v.ownBlock ≠ some g := fun e => by
  rcases h.2 with ⟨rfl, _⟩ | ⟨g', cap, cur, rfl, hb, hB, _⟩
  · simp [Value.ownBlock] at e
  · have e' : g' = g := by simpa [Value.ownBlock] using e
    subst e'
    have := k.out.symm.trans hB
    simp at this
    exact ne this.2.symm
set_option maxRecDepth 20000 in
theorem kpS_grownS {w w' : World} {row : Option Nat} (hg : w.grownBy w' row) : KpS (fun i => row = some i) w w' := ⟨hg.os, hg.tape, hg.output, hg.size, fun k hk nk => hg.block k hk fun e => nk e.symm⟩
set_option maxRecDepth 20000 in
theorem own_kpS {S : Nat → Prop} {w w' : World} {b T s n : Nat} {v : Value} {xs : List Value} (h : w.ownsRow b T s v n xs) (k : KpS S w w') (q : ∀ g, v.ownBlock = some g → ¬ S g) : w'.ownsRow b T s v n xs := by
  refine ⟨h.1, ?_⟩
  rcases h.2 with e | ⟨g', cap, cur, rfl, hb, hB, rest⟩
  · exact .inl e
  · exact .inr ⟨g', cap, cur, rfl, hb, (k.block g' (Array.getElem?_eq_some_iff.1 hB).1 (q g' rfl)).trans hB, rest⟩
set_option maxRecDepth 20000 in
theorem own_slS {w : World} {b n s : Nat} {T : TypeId} {v : Value} {xs : List Value} (h : w.ownsRow b T s v n xs) : ∃ A c, v = .slice A n c := by
  rcases h.2 with ⟨rfl, rfl⟩ | ⟨g, cap, _, rfl, _⟩
  · exact ⟨none, 0, rfl⟩
  · exact ⟨_, cap, rfl⟩
set_option maxRecDepth 20000 in
theorem own_succS {w : World} {b n s : Nat} {T : TypeId} {v : Value} {xs : List Value} (h : w.ownsRow b T s v (n + 1) xs) : ∃ g c, v = .slice (some ⟨g, 0, none⟩) (n + 1) c := by
  rcases h.2 with ⟨_, e⟩ | ⟨g, cap, _, rfl, _⟩
  · omega
  · exact ⟨g, cap, rfl⟩
set_option maxRecDepth 20000 in
theorem owns_baseS {w : World} {b b' : Nat} {e : TypeId} {size : Nat} {v : Value} {n : Nat} {xs : List Value} (h : w.ownsRow b e size v n xs) (hb : b' ≤ b) : w.ownsRow b' e size v n xs := by
  refine ⟨h.1, ?_⟩
  rcases h.2 with hn | ⟨g, cap, cur, rfl, hg, rest⟩
  · exact .inl hn
  · exact .inr ⟨g, cap, cur, rfl, Nat.le_trans hb hg, rest⟩
set_option maxRecDepth 20000 in
theorem own_capS {w : World} {b n s c : Nat} {T : TypeId} {A : Option Addr} {xs : List Value} (h : w.ownsRow b T s (.slice A n c) n xs) : n ≤ c := by
  rcases h.2 with ⟨_, e⟩ | ⟨g, cap, cur, hv, hb, hg, h3, _⟩
  · omega
  · injection hv with _ _ e
    omega
set_option maxRecDepth 20000 in
theorem bestF_mem (x : OD) (l : List OD) : bestF x l ∈ x :: l := by
  induction l generalizing x with
  | nil => exact List.mem_cons_self
  | cons y l ih =>
    show bestF (if y.2 < x.2 then y else x) l ∈ _
    have := ih (if y.2 < x.2 then y else x)
    rcases List.mem_cons.1 this with h | h
    · rw [h]
      split
      · exact List.mem_cons_of_mem _ List.mem_cons_self
      · exact List.mem_cons_self
    · exact List.mem_cons_of_mem _ (List.mem_cons_of_mem _ h)
set_option maxRecDepth 20000 in
theorem bestO_ok {l : List OD} (h : ∀ x ∈ l, Is64S x.1 ∧ Is64S x.2) : Is64S (bestO l) := by
  cases l with
  | nil => exact ⟨by show (-9223372036854775808 : Int) ≤ 0; omega, by show (0 : Int) ≤ 9223372036854775807; omega⟩
  | cons x l => exact (h _ (bestF_mem x l)).1
def appS (ats : Array TypeId) (ty : TypeId) (args : Array Value) : Sem Value := Builtin.append_ ats ty args
set_option maxRecDepth 20000 in
theorem appS_fold (ats : Array TypeId) (ty : TypeId) (args : Array Value) : Builtin.append_ ats ty args = appS ats ty args := rfl
def AddSRet (p b : Nat) (v : Value) (D : Sd) (x : OD) (W : World) (e : Ending) (w' : World) : Prop :=
  ∃ v', e = .returned (.tuple #[.agg (stC (tellD D x)), .bool (tellD D x).isSome]) ∧ ShIs w' p b v' (addD D x) ∧ KpS (fun i => i = p ∨ v.ownBlock = some i) W w' ∧ (v'.ownBlock = v.ownBlock ∨ ∃ k, v'.ownBlock = some k ∧ W.heap.size ≤ k)
attribute [local go_sem ↓] loadF_od storeF_od loadF_st storeF_st buildF_st appS_fold
attribute [local go_sem] run_loadF0 run_storeF0 run_build_st0 run_build_st3
set_option maxRecDepth 20000 in
set_option maxHeartbeats 8000000 in
theorem sadd_any (p b : Nat) (v : Value) (D : Sd) (x : OD) (W : World) (h : ShIs W p b v D) (hb : b ≤ W.heap.size) (hx : Is64S x.1 ∧ Is64S x.2) (hc : D.c + 1 ≤ 1000000) :
    Calls Try.prog 33 #[.pointer (some ⟨p, 0, none⟩), .int .i64 x.1, .int .i64 x.2] W (AddSRet p b v D x W) := by
  obtain ⟨PO, hPO⟩ : ∃ P, AddSRet p b v D x W = P := ⟨_, rfl⟩
  rw [hPO]
  unfold AddSRet at hPO
  have RR := Lib.hid hPO
  have bm := h.m
  have okD := addD_ok h.ok hx hc
  have HOKD := Lib.hid okD
  have ok := h.ok
  have w0 := ok.w0
  have w1 := ok.w1
  have ll := ok.l
  have lc := ok.c
  have HROW := Lib.hid h.row
  have HB0 := Lib.hid ok.b0
  have HB1 := Lib.hid ok.b1
  have AL := addL_len D x
  obtain ⟨A, cp, ev⟩ := own_slS h.row
  subst ev
  obtain ⟨i0, hi, hz0, hz1, hz2⟩ := info_parts infoOD
  have SNOC := Lib.hid (odL_snoc D.l x)
  obtain ⟨x1, x2⟩ := x
  obtain ⟨dw, db, dl, dc⟩ := D
  simp only at *
  obtain ⟨n, hn⟩ : ∃ n, dl.length = n := ⟨_, rfl⟩
  have HN := Lib.hid hn
  rw [hn] at ll lc AL HROW bm RR
  have d1 : decide ((dw : Int) < 1) = false := decide_eq_false (by omega)
  have d1' : decide (dw < 1) = false := decide_eq_false (by omega)
  have pW : p < W.heap.size := bm.lt
  clear hPO okD ok hn h
  go_enter Try.func33, Try.ntmps33
  --@@ r3
  go_upto_region 3 with (fail)
  refine wp_name ?_
  intro wA hwA
  have b6 : Blk wA W.heap.size 85 st0c := by rw [hwA]; infer_instance
  have MA : Mo W wA := by rw [hwA]; exact Mor.out
  have bA := MA.blk bm
  have RA := Lib.hid (owns_mo HROW.out MA)
  generalize hg6 : W.heap.size = g6 at *
  have szA : g6 ≤ wA.heap.size := by rw [← hg6]; exact MA.size
  clear hwA bm
  have hT := (Mor.out : Mo wA (wA.alloc (.cells #[.int .i64 x1, .int .i64 x2] 145)))
  obtain ⟨v1, w1', hrun, hown1, hgrow1, -, hob1⟩ := run_append_own_at (P := Try.prog) (wA.alloc (.cells #[.int .i64 x1, .int .i64 x2] 145)) b 129 129 145 i0 (.agg #[.int .i64 0, .int .i64 0]) 2 16 Try.underlying129 hi hz0 hz1 hz2 rfl (by decide) _ _ _ (owns_mo RA.out hT) ⟨wA.heap.size, 0, none⟩ 1 1 (odC (x1, x2)) rfl (news_of_blkS (t := 145) (cs := #[.int .i64 x1, .int .i64 x2]) inferInstance _ rfl) (by intro u hu; simp [odC] at hu; rcases hu with rfl | rfl <;> rfl) (by unfold maxLen; omega) (by omega) (by simp; omega)
  replace hrun : (appS #[129, 129] 129 #[.slice A n cp, .slice (some ⟨wA.heap.size, 0, none⟩) 1 1]).run Try.prog _ = .ok v1 w1' := hrun
  obtain ⟨g1, c1, ev1⟩ := own_succS hown1
  subst ev1
  have K1 : KpS (fun i => (Value.slice A n cp).ownBlock = some i) wA w1' := (KpS.of_mo hT).trans (kpS_grownS hgrow1) fun _ _ q => q
  have b1 := K1.blk bA (own_noTS RA.out bA (by decide))
  have b61 := K1.blk b6 (own_noTS RA.out b6 (by decide))
  have sz1 : g6 ≤ w1'.heap.size := Nat.le_trans szA K1.size
  have g1p : g1 ≠ p := fun e => own_noTS hown1 b1 (by decide) (by rw [← e]; rfl)
  have g16 : g1 ≠ g6 := fun e => own_noTS hown1 b61 (by decide) (by rw [← e]; rfl)
  have p6 : p ≠ g6 := by omega
  have wc : IntKind.u64.wrap ((dc : Int) + 1) = dc + 1 := by rw [IntKind.wrap_u64]; omega
  --@@ r5
  go_upto_region 5 with (fail)
  refine wp_name ?_
  intro w2 hw2
  have K2 : KpS (fun i => i = p) w1' w2 := by rw [hw2]; exact ((KpS.refl (fun i => i = p) w1').cell rfl 2 _).cell rfl 3 _
  have b2 : Blk w2 p 131 #[.int .i64 (dw : Nat), .int .i64 db, .slice (some ⟨g1, 0, none⟩) (n + 1) c1, .int .u64 ((dc : Int) + 1)] := by rw [hw2]; exact ⟨(blk_setCell (blk_setCell b1 2 (.slice (some ⟨g1, 0, none⟩) (n + 1) c1)) 3 (.int .u64 ((dc : Int) + 1))).out⟩
  have r2 := own_kpS hown1 K2 (fun g q => by
    have e : g1 = g := by simpa [Value.ownBlock] using q
    rw [← e]; exact g1p)
  have b62 := K2.blk b61 (Ne.symm p6)
  have KW2 : KpS (fun i => i = p ∨ (Value.slice A n cp).ownBlock = some i) W w2 := ((KpS.of_mo MA).trans K1 fun _ _ q => .inr q).trans K2 fun _ _ q => .inl q
  have ob2 : (Value.slice (some ⟨g1, 0, none⟩) (n + 1) c1).ownBlock = (Value.slice A n cp).ownBlock ∨ ∃ k, (Value.slice (some ⟨g1, 0, none⟩) (n + 1) c1).ownBlock = some k ∧ g6 ≤ k := hob1.imp (fun e => e) fun e => ⟨_, e, by simp; omega⟩
  have sz2 : g6 ≤ w2.heap.size := Nat.le_trans sz1 K2.size
  have HR2 := Lib.hid r2
  have HKW2 := Lib.hid KW2
  have HOB2 := Lib.hid ob2
  have ltp : LtW p w2 := ⟨b2.lt⟩
  clear hw2 K1 K2 b1 b61 hown1 hgrow1 hrun hob1 hT bA b6 MA RA r2 KW2 ob2 wc sz1 szA
  have wm : IntKind.i64.wrap (2 * (dw : Int)) = 2 * dw := by rw [IntKind.wrap_i64]; omega
  obtain ⟨E, hE⟩ : ∃ E : Int, (n : Int) + 1 - 2 * dw = E := ⟨_, rfl⟩
  have ws : IntKind.i64.wrap ((n : Int) + 1 - 2 * dw) = E := by rw [hE, IntKind.wrap_i64]; omega
  have HE := Lib.hid hE
  clear hE
  --@@ r5b
  first | (refine wp_region_mo (by kernel_rfl) (by kernel_rfl) ?_) | (refine wp_region_mo' (by kernel_rfl) (by kernel_rfl) ?_)
  repeat (go_big_quiet_step (fail))
  refine wpQuiet_nil ?_
  intro _ hw'
  obtain ⟨⟨J9, d9⟩, hw''⟩ := hw'
  subst hw''
  clear ws
  --@@ if
  go_upto_if 51 with (fail)
  go_cut [8] (fun s8 wx => ∃ g2 c2 n2, n2 = min (n + 1) (2 * dw) ∧ n2 ≤ c2 ∧ Blk wx p 131 #[.int .i64 (dw : Nat), .int .i64 db, .slice (some ⟨g2, 0, none⟩) n2 c2, .int .u64 ((dc : Int) + 1)] ∧ wx.ownsRow b 145 2 (.slice (some ⟨g2, 0, none⟩) n2 c2) n2 (odL (addL ⟨dw, db, dl, dc⟩ (x1, x2))) ∧ Blk wx g6 85 st0c ∧ KpS (fun i => i = p ∨ (Value.slice A n cp).ownBlock = some i) W wx ∧ ((Value.slice (some ⟨g2, 0, none⟩) n2 c2).ownBlock = (Value.slice A n cp).ownBlock ∨ ∃ k, (Value.slice (some ⟨g2, 0, none⟩) n2 c2).ownBlock = some k ∧ g6 ≤ k))
  case first =>
    by_cases c : n + 1 ≤ 2 * dw
    · have d : decide (0 < E) = false := decide_eq_false (by have := HE.out; omega)
      have d' : ¬ (0 < E) := of_decide_eq_false d
      have ea : odL (addL ⟨dw, db, dl, dc⟩ (x1, x2)) = odL dl ++ odC (x1, x2) := by
        rw [← SNOC.out]
        unfold addL
        simp only [HN.out]
        rw [show n + 1 - 2 * dw = 0 by omega, List.drop_zero]
      have em : min (n + 1) (2 * dw) = n + 1 := by omega
      have HEA := Lib.hid ea
      have HEM := Lib.hid em
      have cc := own_capS HR2.out
      clear c ea em
      go_wp2_with fail
      go_meet
      refine ⟨g1, c1, n + 1, HEM.out.symm, cc, inferInstance, by rw [HEA.out]; exact owns_mo HR2.out Mor.out, inferInstance, HKW2.out.trans (KpS.of_mo Mor.out) (fun _ _ q => q), HOB2.out⟩
    · have e1 : E = 1 := by have := HE.out; omega
      have d : decide (0 < E) = true := decide_eq_true (by omega)
      have d' : 0 < E := of_decide_eq_true d
      have cc := own_capS HR2.out
      obtain ⟨A2, hA2, hs⟩ := cut_od (some ⟨g1, 0, none⟩) 1 (n + 1) c1 (by omega) cc
      obtain rfl : A2 = some ⟨g1, 0 + 1 * 2, none⟩ := hA2 g1 0 rfl (by omega)
      rw [show ((1 : Nat) : Int) = E by rw [e1]; rfl, show n + 1 - 1 = n by omega] at hs
      have hs' : ∀ w : World, (Instr.sliceAt 129 (.slice (some ⟨g1, 0, none⟩) (n + 1) c1) (some (.int .i64 E)) none none).run Try.prog w = .ok (.slice (some ⟨g1, 0 + 1 * 2, none⟩) n (c1 - 1)) w := fun w => by
        rw [run_sliceAt_slice w 129 _ _ _ _ Try.underlying129]
        exact hs w
      have OD2 : ODat w2 g1 (0 + 1 * 2) ((dl ++ [(x1, x2)]).drop 1) := (own_od (l := dl ++ [(x1, x2)]) (by rw [SNOC.out]; exact HR2.out)).drop 1
      have hl1 : ((dl ++ [(x1, x2)]).drop 1).length = n := by rw [List.length_drop, List.length_append, HN.out]; rfl
      have CL := Lib.hid (fun w (m : Mo w2 w) => sclone_at g1 (0 + 1 * 2) n (c1 - 1) ((dl ++ [(x1, x2)]).drop 1) w (OD2.mo m) hl1 (by omega))
      have ea : addL ⟨dw, db, dl, dc⟩ (x1, x2) = (dl ++ [(x1, x2)]).drop 1 := by
        unfold addL
        simp only [HN.out]
        rw [show n + 1 - 2 * dw = 1 by omega]
      have HEA := Lib.hid ea
      have HEM : Hid (min (n + 1) (2 * dw) = n) := Lib.hid (by omega)
      have hn1 : Hid (∃ m, n = m + 1) := Lib.hid ⟨n - 1, by omega⟩
      clear e1 hA2 OD2 hl1 ea c
      --@@ r7
      go_wp2_with fail
      refine (CL.out _ Mor.out).mono ?_
      rintro e w3 ⟨v2, rfl, O3, M3⟩
      have M23 : Mo w2 w3 := (Mor.out : Mo w2 _).trans M3
      have O3' : w3.ownsRow w2.heap.size 145 2 v2 n _ := owns_baseS O3 (Mo.size Mor.out)
      obtain ⟨m, hm⟩ := hn1.out
      obtain ⟨g2, c2, rfl⟩ : ∃ g2 c2, v2 = .slice (some ⟨g2, 0, none⟩) n c2 := by
        have q := O3
        rw [hm] at q
        obtain ⟨g2, c2, e⟩ := own_succS q
        exact ⟨g2, c2, by rw [hm]; exact e⟩
      have b3 := M23.blk b2
      have b63 := M23.blk b62
      have g2w : w2.heap.size ≤ g2 := (O3'.lt g2 rfl).1
      have lp2 := b2.lt
      clear O3 M3 hm
      --@@ store
      go_wp2_with fail
      go_meet
      have KF : KpS (fun i => i = p) w3 (w3.setCell ⟨p, 2, none⟩ (.slice (some ⟨g2, 0, none⟩) n c2)) := kpS_setCell w3 p 2 _ rfl
      refine ⟨g2, c2, n, HEM.out.symm, own_capS O3', ⟨(blk_setCell b3 2 (.slice (some ⟨g2, 0, none⟩) n c2)).out⟩, ?_, KF.blk b63 (Ne.symm p6), ((HKW2.out.trans (KpS.of_mo M23) fun _ _ q => q).trans KF fun _ _ q => .inl q), .inr ⟨g2, rfl, by omega⟩⟩
      rw [HEA.out]
      exact own_kpS (owns_baseS O3' (by omega)) KF fun g q e => by
        have e' : g2 = g := by simpa [Value.ownBlock] using q
        omega
  obtain ⟨g2, c2, n2, hn2, hc2, b2', r2, b6', KW, ob⟩ := hcut
  rename World => w3
  have HKW := Lib.hid KW
  have HOB := Lib.hid ob
  have HR3 := Lib.hid r2
  have ltp3 : LtW p w3 := ⟨b2'.lt⟩
  have szw : g6 < w3.heap.size := b6'.lt
  have SHI : Hid (∀ w', Blk w' p 131 #[.int .i64 (dw : Nat), .int .i64 db, .slice (some ⟨g2, 0, none⟩) n2 c2, .int .u64 ((dc : Int) + 1)] → w'.ownsRow b 145 2 (.slice (some ⟨g2, 0, none⟩) n2 c2) n2 (odL (addL ⟨dw, db, dl, dc⟩ (x1, x2))) → ShIs w' p b (.slice (some ⟨g2, 0, none⟩) n2 c2) (addD ⟨dw, db, dl, dc⟩ (x1, x2))) := Lib.hid (fun w' h1 h2 => ⟨h1, by
    have e : (addD ⟨dw, db, dl, dc⟩ (x1, x2)).l.length = n2 := AL.trans hn2.symm
    rw [e]; exact h2, HOKD.out⟩)
  have lenA : (addL ⟨dw, db, dl, dc⟩ (x1, x2)).length = n2 := AL.trans hn2.symm
  have n2d : n2 ≤ 2 * dw := by omega
  have n2n : n2 ≤ n + 1 := by omega
  have AOK := HOKD.out.ok
  have r6 : ∀ g, (Value.slice (some ⟨g2, 0, none⟩) n2 c2).ownBlock = some g → g ≠ g6 := fun g q e => own_noTS r2 b6' (by decide) (by rw [q, e])
  clear b2 b62 HR2 HKW2 HOB2 ltp HE KW ob r2 sz2
  go_upto_region 8 with (fail)
  by_cases cs : n2 < 2 * dw
  · have d8 : decide ((n2 : Int) < 2 * dw) = true := decide_eq_true (by omega)
    have HT : Hid (tellD ⟨dw, db, dl, dc⟩ (x1, x2) = none) := Lib.hid (by unfold tellD stepO; simp only; rw [lenA, if_pos cs])
    clear cs hn2 lenA AL AOK
    --@@ r8s
    first | (refine wp_region_mo (by kernel_rfl) (by kernel_rfl) ?_) | (refine wp_region_mo' (by kernel_rfl) (by kernel_rfl) ?_)
    repeat (go_big_quiet_step (fail))
    refine wpQuiet_nil ?_
    intro _ hw'
    obtain ⟨⟨J9, d9⟩, hw''⟩ := hw'
    subst hw''
    go_wp2_with fail
    have KF : KpS (fun i => i = g6) w3 (more (w3.setRow g6 st0c) J9 d9) := ((KpS.refl (fun i => i = g6) w3).row rfl st0c).trans (KpS.of_mo Mor.out) fun _ _ q => q
    refine ret_cell_tmp rfl g6 (.agg st0c) rfl rfl (loadVar_flat 85 (Mo.blk Mor.out (blk_setRow (cs' := st0c) b6')) rfl) ?_
    rw [← RR.out]
    exact ⟨_, by rw [HT.out]; rfl, SHI.out _ (KF.blk b2' p6) (own_kpS HR3.out KF r6), HKW.out.trans KF (fun i hi e => by rw [hg6] at hi; omega), HOB.out⟩
  · have d8 : decide ((n2 : Int) < 2 * dw) = false := decide_eq_false (by omega)
    obtain ⟨L2, hL2⟩ : ∃ L, addL ⟨dw, db, dl, dc⟩ (x1, x2) = L := ⟨_, rfl⟩
    have OD3 := own_od HR3.out
    rw [hL2] at OD3 lenA
    have AOK' : ∀ x ∈ L2, Is64S x.1 ∧ Is64S x.2 := by rw [← hL2]; exact AOK
    obtain ⟨X, hX⟩ : ∃ X, bestO (L2.take dw) = X := ⟨_, rfl⟩
    obtain ⟨Y, hY⟩ : ∃ Y, bestO (L2.drop dw) = Y := ⟨_, rfl⟩
    have iX : Is64S X := by rw [← hX]; exact bestO_ok fun x hx => AOK' x (List.mem_of_mem_take hx)
    have iY : Is64S Y := by rw [← hY]; exact bestO_ok fun x hx => AOK' x (List.mem_of_mem_drop hx)
    have HT : Hid (tellD ⟨dw, db, dl, dc⟩ (x1, x2) = if db < farI X Y then some (dc + 1 - dw, X, Y) else none) := Lib.hid (by unfold tellD stepO; simp only; rw [hL2, lenA, if_neg cs, hX, hY])
    have n2e : n2 = 2 * dw := by omega
    have C1 : Hid (∀ w, Mo w3 w → Calls Try.prog 57 #[.slice (some ⟨g2, 0, none⟩) dw c2] w fun e w' => e = .returned (.int .i64 X) ∧ Mo w w') := Lib.hid (fun w m => by
      have := best_ne g2 0 dw c2 w ((OD3.take dw).mo m) (by rw [List.length_take, lenA]; omega) w0 (by omega) (by omega)
      rwa [hX] at this)
    have C2 : Hid (∀ w, Mo w3 w → Calls Try.prog 57 #[.slice (some ⟨g2, dw * 2, none⟩) dw (c2 - dw)] w fun e w' => e = .returned (.int .i64 Y) ∧ Mo w w') := Lib.hid (fun w m => by
      have := best_ne g2 (0 + dw * 2) dw (c2 - dw) w ((OD3.drop dw).mo m) (by rw [List.length_drop, lenA]; omega) w0 (by omega) (by omega)
      rwa [hY, Nat.zero_add] at this)
    obtain ⟨A2, hA2, hs2⟩ := cut_od (some ⟨g2, 0, none⟩) dw n2 c2 (by omega) hc2
    obtain rfl : A2 = some ⟨g2, dw * 2, none⟩ := by rw [hA2 g2 0 rfl (by omega), Nat.zero_add]
    rw [show n2 - dw = dw by omega] at hs2
    have hs2' : ∀ w : World, (Instr.sliceAt 129 (.slice (some ⟨g2, 0, none⟩) n2 c2) (some (.int .i64 (dw : Int))) none none).run Try.prog w = .ok (.slice (some ⟨g2, dw * 2, none⟩) dw (c2 - dw)) w := fun w => by
      rw [run_sliceAt_slice w 129 _ _ _ _ Try.underlying129]
      exact hs2 w
    have hsz : ∀ w : World, (sizeOf (Try.prog.elem 129)).run Try.prog w = .ok 2 w := fun w => by kernel_rfl
    have hs1 : ∀ w : World, (Instr.slice 129 (.slice (some ⟨g2, 0, none⟩) n2 c2) none (some (.int .i64 (dw : Int))) none).run Try.prog w = .ok (.slice (some ⟨g2, 0, none⟩) dw c2) w := fun w => by
      rw [run_slice_h w 129 (some ⟨g2, 0, none⟩) n2 c2 Try.underlying129 .i64 dw (by omega) (by omega), hsz]
      show Result.ok (Value.slice (if c2 = 0 then some ⟨g2, 0, none⟩ else some ((⟨g2, 0, none⟩ : Addr).add (0 * 2))) (dw - 0) (c2 - 0)) w = _
      rw [if_neg (by omega), Go.WideShapes.add_plain]
      rfl
    have hs1' : ∀ w : World, (Instr.sliceAt 129 (.slice (some ⟨g2, 0, none⟩) n2 c2) none (some (.int .i64 (dw : Int))) none).run Try.prog w = .ok (.slice (some ⟨g2, 0, none⟩) dw c2) w := fun w => by
      rw [run_sliceAt_slice w 129 _ _ _ _ Try.underlying129]
      exact hs1 w
    have wu : IntKind.u64.wrap (dw : Int) = dw := by rw [IntKind.wrap_u64]; omega
    have wk : IntKind.u64.wrap ((dc : Int) + 1 - dw) = ((dc + 1 - dw : Nat) : Int) := by rw [IntKind.wrap_u64]; omega
    have AP := Lib.hid (fun w => apart_any X Y db w iX iY HB0.out HB1.out)
    obtain ⟨kk, hkk⟩ : ∃ k, dc + 1 - dw = k := ⟨_, rfl⟩
    rw [hkk] at wk HT
    clear cs hn2 lenA AL AOK AOK' OD3 hX hY iX iY hA2 hsz hkk n2e hL2
    --@@ r8f
    first | (refine wp_region_mo (by kernel_rfl) (by kernel_rfl) ?_) | (refine wp_region_mo' (by kernel_rfl) (by kernel_rfl) ?_)
    repeat (go_big_quiet_step (fail))
    refine wpQuiet_nil ?_
    intro _ hw'
    obtain ⟨⟨J9, d9⟩, hw''⟩ := hw'
    subst hw''
    --@@ r10
    go_upto_region 10 with (fail)
    refine wp_name ?_
    intro wq hwq
    have Mq : Mo w3 wq := by rw [hwq]; exact Mor.out
    have bq := Mq.blk b2'
    have HMQ := Lib.hid Mq
    have C1' := Lib.hid (fun w (m : Mo wq w) => C1.out w (Mq.trans m))
    have C2' := Lib.hid (fun w (m : Mo wq w) => C2.out w (Mq.trans m))
    have ltq : LtW p wq := ⟨bq.lt⟩
    clear hwq Mq C1 C2
    go_cut [9] (fun s9 wx => ∃ g, s9 = .pointer (some ⟨g, 0, none⟩) ∧ wq.heap.size ≤ g ∧ Mo wq wx ∧ Blk wx g 85 #[.int .u64 (kk : Nat), .int .i64 X, .int .i64 Y])
    case first =>
      go_region_held3 (fun w' => MoC wq w') (first | exact ⟨Mor.out⟩ | exact ⟨mo_setRow Mor.out (Mo.size Mor.out) _⟩)
        (first
          | ((with_reducible refine (C1'.out _ Mor.out).mono ?_)
             rintro e wa ⟨rfl, Ma⟩
             have iMa : MoC _ wa := ⟨Ma⟩
             have iRa : Mor wq wa := ⟨(Mor.out : Mo wq _).trans Ma⟩)
          | ((with_reducible refine (C2'.out _ Mor.out).mono ?_)
             rintro e wb ⟨rfl, Mb⟩
             have iMb : MoC _ wb := ⟨Mb⟩
             have iRb : Mor wq wb := ⟨(Mor.out : Mo wq _).trans Mb⟩))
      all_goals (
        go_wp2_with fail
        go_meet
        first
        | exact ⟨_, rfl, Mo.size Mor.out, Mor.out, inferInstance⟩
        | exact ⟨_, rfl, Mo.size Mor.out, mo_setRow Mor.out (Mo.size Mor.out) _, blk_setRow (inferInstance : Blk _ _ 85 st0c)⟩)
    obtain ⟨g9, rfl, hg9, M4', b9⟩ := hcut
    rename World => w4
    have M4 := HMQ.out.trans M4'
    have b24 := M4.blk b2'
    have b64 := M4.blk b6'
    have R4 := Lib.hid (owns_mo HR3.out M4)
    have K4 := Lib.hid (HKW.out.trans (KpS.of_mo M4) fun _ _ q => q)
    have lt9 : g6 < g9 := Nat.lt_of_lt_of_le szw (Nat.le_trans HMQ.out.size hg9)
    clear M4 M4' hg9 bq b2' b6' HKW C1' C2' hs1 hs1' hs2 hs2' HMQ
    go_upto_region 11 with (fail)
    by_cases ca : db < farI X Y
    · have da : decide (db < farI X Y) = true := decide_eq_true ca
      rw [if_pos ca] at HT
      rw [da] at AP
      clear ca da
      first | (refine wp_region_mo (by kernel_rfl) (by kernel_rfl) ?_) | (refine wp_region_mo' (by kernel_rfl) (by kernel_rfl) ?_)
      repeat (go_big_quiet_step (first | (with_reducible exact quiet_mo (AP.out _))))
      refine wpQuiet_nil ?_
      intro _ hw'
      obtain ⟨⟨J7, d7⟩, hw''⟩ := hw'
      subst hw''
      go_wp2_with fail
      have KF : KpS (fun i => i = g6) w4 (more (w4.setRow g6 #[.int .u64 (kk : Nat), .int .i64 X, .int .i64 Y]) J7 d7) := ((KpS.refl (fun i => i = g6) w4).row rfl #[.int .u64 (kk : Nat), .int .i64 X, .int .i64 Y]).trans (KpS.of_mo Mor.out) fun _ _ q => q
      refine ret_cell_tmp rfl g6 (.agg #[.int .u64 (kk : Nat), .int .i64 X, .int .i64 Y]) rfl rfl (loadVar_flat 85 (Mo.blk Mor.out (blk_setRow (cs' := #[.int .u64 (kk : Nat), .int .i64 X, .int .i64 Y]) b64)) rfl) ?_
      rw [← RR.out]
      exact ⟨_, by rw [HT.out]; rfl, SHI.out _ (KF.blk b24 p6) (own_kpS R4.out KF r6), K4.out.trans KF (fun i hi e => by rw [hg6] at hi; omega), HOB.out⟩
    · have da : decide (db < farI X Y) = false := decide_eq_false ca
      rw [if_neg ca] at HT
      rw [da] at AP
      clear ca da
      first | (refine wp_region_mo (by kernel_rfl) (by kernel_rfl) ?_) | (refine wp_region_mo' (by kernel_rfl) (by kernel_rfl) ?_)
      repeat (go_big_quiet_step (first | (with_reducible exact quiet_mo (AP.out _))))
      refine wpQuiet_nil ?_
      intro _ hw'
      obtain ⟨⟨J7, d7⟩, hw''⟩ := hw'
      subst hw''
      go_wp2_with fail
      have KF : KpS (fun i => i = g6) w4 (more (w4.setRow g6 st0c) J7 d7) := ((KpS.refl (fun i => i = g6) w4).row rfl st0c).trans (KpS.of_mo Mor.out) fun _ _ q => q
      refine ret_cell_tmp rfl g6 (.agg st0c) rfl rfl (loadVar_flat 85 (Mo.blk Mor.out (blk_setRow (cs' := st0c) b64)) rfl) ?_
      rw [← RR.out]
      exact ⟨_, by rw [HT.out]; rfl, SHI.out _ (KF.blk b24 p6) (own_kpS R4.out KF r6), K4.out.trans KF (fun i hi e => by rw [hg6] at hi; omega), HOB.out⟩
end Go.Proofs.Ythgkhllkhhnlpaa
