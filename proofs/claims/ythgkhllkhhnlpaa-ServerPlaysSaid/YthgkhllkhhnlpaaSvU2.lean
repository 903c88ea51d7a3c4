/- Written by gen/bundle36.py: SvU, SvV, Op36 in one text. -/
import Derived.Test.YthgkhllkhhnlpaaSvT
import Derived.Test.YthgkhllkhhnlpaaBlkS
/- horologelaw36: deeds in memory; the arguments, opened; whose, does, Great. -/
namespace Go.Proofs.Ythgkhllkhhnlpaa
open Go.RowKit Go.Maps

/-! ### a deed's cells -/
def ddC (d : Deed) : Array Value := #[.bool d.put] ++ d.a ++ #[.int .u8 (d.k : Nat)] ++ smpC d.S
section
variable {d : Deed} (h : DeedOk d)
include h
set_option maxRecDepth 20000 in
theorem dd_size : (ddC d).size = 67 := by
  have h1 := h.a.z
  have h2 := h.S.f
  unfold ddC
  simp [h1, h2]
set_option maxRecDepth 20000 in
theorem dd_0 : (ddC d)[0]? = some (.bool d.put) := by
  have h1 := h.a.z
  unfold ddC
  rw [Array.getElem?_append, if_pos (by simp; omega), Array.getElem?_append, if_pos (by simp; omega), Array.getElem?_append, if_pos (by simp)]
  rfl
set_option maxRecDepth 20000 in
theorem dd_k : (ddC d)[18]? = some (.int .u8 (d.k : Nat)) := by
  have h1 := h.a.z
  unfold ddC
  rw [Array.getElem?_append, if_pos (by simp [h1]), Array.getElem?_append, if_neg (by simp [h1])]
  simp [h1]
set_option maxRecDepth 20000 in
theorem dd_hi (k : Nat) : (ddC d)[19 + k]? = (smpC d.S)[k]? := by
  have h1 := h.a.z
  unfold ddC
  rw [Array.getElem?_append, if_neg (by simp [h1]; try omega)]
  congr 1
  simp [h1]
  try omega
set_option maxRecDepth 20000 in
theorem dd_lo (k : Nat) (hk : k < 17) : (ddC d)[1 + k]? = d.a[k]? := by
  have h1 := h.a.z
  unfold ddC
  rw [Array.getElem?_append, if_pos (by simp [h1]; omega), Array.getElem?_append, if_pos (by simp [h1]; omega), Array.getElem?_append, if_neg (by simp)]
  congr 1
  try simp
set_option maxRecDepth 20000 in
theorem dd_a : (ddC d).extract 1 18 = d.a := by
  have h1 := h.a.z
  have hz := dd_size h
  refine Array.ext_getElem? fun k => ?_
  rw [Array.getElem?_extract]
  by_cases c : k < 17
  · rw [if_pos (by omega), dd_lo h k c]
  · rw [if_neg (by omega), Array.getElem?_eq_none (by omega)]
set_option maxRecDepth 20000 in
theorem dd_S : (ddC d).extract 19 67 = smpC d.S := by
  have h2 := smpC_size h.S.f
  have hz := dd_size h
  refine Array.ext_getElem? fun k => ?_
  rw [Array.getElem?_extract]
  by_cases c : k < 48
  · rw [if_pos (by omega), dd_hi h k]
  · rw [if_neg (by omega), Array.getElem?_eq_none (by omega)]
set_option maxRecDepth 20000 in
theorem dd_w : (ddC d).extract 37 54 = smpA d.S := by
  have h2 := smpC_size h.S.f
  have hz := dd_size h
  unfold smpA
  refine Array.ext_getElem? fun k => ?_
  rw [Array.getElem?_extract, Array.getElem?_extract]
  by_cases c : k < 17
  · rw [if_pos (by omega), if_pos (by omega), show 37 + k = 19 + (18 + k) by omega, dd_hi h]
  · rw [if_neg (by omega), if_neg (by omega)]
end
set_option maxRecDepth 20000 in
instance row_do : RowT 47 67 := ⟨by kernel_rfl, by kernel_rfl⟩
set_option maxRecDepth 20000 in
instance fl_do : FlatT 47 67 := ⟨by kernel_rfl, by kernel_rfl, by kernel_rfl, by kernel_rfl, by kernel_rfl, by kernel_rfl⟩
set_option maxRecDepth 20000 in
instance fl_cfg : FlatT 26 12 := ⟨by kernel_rfl, by kernel_rfl, by kernel_rfl, by kernel_rfl, by kernel_rfl, by kernel_rfl⟩
set_option maxRecDepth 20000 in
theorem loadF_do (v : Value) : Instr.loadAt 47 v = loadF 47 v := rfl
set_option maxRecDepth 20000 in
theorem storeF_do (v x : Value) : Instr.storeAt 47 v x = storeF 47 v x := rfl
set_option maxRecDepth 20000 in
theorem loadF_smp (v : Value) : Instr.loadAt 45 v = loadF 45 v := rfl
set_option maxRecDepth 20000 in
theorem storeF_smp (v x : Value) : Instr.storeAt 45 v x = storeF 45 v x := rfl
/-- deeds in memory -/
structure DdsS (W : World) (A : Option Addr) (cap : Nat) (l : List Deed) : Prop where
  le : l.length ≤ cap
  ok : ∀ d ∈ l, DeedOk d ∧ OneA (ddC d)
  nil : A = none → cap = 0
  at_ : l = [] ∨ ∃ g off, A = some ⟨g, off, none⟩ ∧ ∀ i, (h : i < l.length) → ∀ j v, (ddC l[i]).toList[j]? = some v → W.cell? ⟨g, off + i * 67 + j, none⟩ = some v
set_option maxRecDepth 20000 in
theorem DdsS.mo {W w : World} {A : Option Addr} {cap : Nat} {l : List Deed} (h : DdsS W A cap l) (k : Mo W w) : DdsS w A cap l := by
  refine ⟨h.le, h.ok, h.nil, ?_⟩
  rcases h.at_ with e | ⟨g, off, e, hc⟩
  · exact .inl e
  · refine .inr ⟨g, off, e, fun i hi j v hv => ?_⟩
    have y := hc i hi j v hv
    have : LtW g W := LtW.of_cell y
    rw [k.cell, y]
set_option maxRecDepth 20000 in
theorem DdsS.get {W : World} {A : Option Addr} {cap : Nat} {l : List Deed} (h : DdsS W A cap l) (i : Nat) (hi : i < l.length) : ∃ g off, A = some ⟨g, off, none⟩ ∧ LtW g W ∧ (loadF 47 (.pointer (some ⟨g, off + i * 67, none⟩))).run Try.prog W = .ok (.agg (ddC l[i])) W := by
  rcases h.at_ with e | ⟨g, off, e, hc⟩
  · rw [e] at hi; cases hi
  · have hz := dd_size (h.ok l[i] (List.getElem_mem hi)).1
    have h0 : (ddC l[i]).toList[0]? = some (.bool l[i].put) := by
      rw [Array.getElem?_toList]
      exact dd_0 (h.ok l[i] (List.getElem_mem hi)).1
    exact ⟨g, off, e, LtW.of_cell (hc i hi 0 _ h0), run_loadMid 47 67 W g (off + i * 67) (ddC l[i]) hz fun j u hu => hc i hi j u hu⟩
set_option maxRecDepth 20000 in
theorem results_cS {fn : Func} {p : Tmp} {ty : TypeId} (h : fn.results = #[.cell p ty]) (tmps : Array Value) (P : Program) (w : World) :
    (results fn tmps).run P w = ((asAddr (tmps.getD p undef)).run P w).andThen fun a w₁ => (loadVar ty a).run P w₁ := by
  simp only [results, h]
  simp [Sem.run_bind, Result.andThen]
set_option maxRecDepth 20000 in
theorem ret_cS {fn : Func} {p : Tmp} {T : TypeId} {R : Ending → World → Prop} {a : Act} {w : World} (hr : fn.results = #[.cell p T]) (g : Nat) (cs : Array Value) (hp : a.tmps.getD p undef = .pointer (some ⟨g, 0, none⟩)) (hd : a.defers = []) {n : Nat} [h : RowT T n] [z : SzA cs n] (b : Blk w g T cs)
    (hR : R (.returned (.agg cs)) w) : bodyPost Try.prog fn R .ret a w :=
  bodyPost_ret (v := .agg cs) (by
    rw [results_cS hr, hp]
    have e : (asAddr (.pointer (some ⟨g, 0, none⟩))).run Try.prog w = .ok (⟨g, 0, none⟩ : Addr) w := rfl
    rw [e, Result.andThen_ok, loadVar_flat T b z.out]) hd hR
/-! ### whose, does, Great -/
attribute [local go_sem] blk_cell' blk_frozen'
attribute [local go_sem ↓] loadF_addr storeF_addr loadF_do storeF_do loadF_smp storeF_smp
attribute [local go_sem] run_loadF0 run_storeF0
set_option maxRecDepth 20000 in
set_option maxHeartbeats 8000000 in
theorem whose_any (d : Deed) (ok : DeedOk d) (W : World) :
    Calls Try.prog 20 #[.agg (ddC d)] W fun e w' => e = .returned (.agg (whoD d)) ∧ Mo W w' := by
  have iz : SzA (ddC d) 67 := ⟨dd_size ok⟩
  have y0 := dd_0 ok
  have l1 : ∀ (w : World) (g : Nat) [Blk w g 47 (ddC d)], (loadF 35 (.pointer (some ⟨g, 1, none⟩))).run Try.prog w = .ok (.agg d.a) w := fun w g _ => by
    have := run_loadFo 35 17 w g 1 47 (ddC d) 67 (by omega) (by omega)
    rwa [dd_a ok] at this
  have l2 : ∀ (w : World) (g : Nat) [Blk w g 47 (ddC d)], (loadF 35 (.pointer (some ⟨g, 37, none⟩))).run Try.prog w = .ok (.agg (smpA d.S)) w := fun w g _ => by
    have := run_loadFo 35 17 w g 37 47 (ddC d) 67 (by omega) (by omega)
    rwa [dd_w ok] at this
  have aok := whoD_ok ok
  have i1 : SzA (whoD d) 17 := ⟨aok.z⟩
  have i2 : OneA (whoD d) := one_of_fits aok.p
  have HW : Hid ((d.put = true → whoD d = smpA d.S) ∧ (d.put = false → whoD d = d.a)) := Lib.hid ⟨fun c => by unfold whoD; rw [if_pos c], fun c => by unfold whoD; rw [if_neg (by simp [c])]⟩
  obtain ⟨a, ha⟩ : ∃ a, whoD d = a := ⟨_, rfl⟩
  rw [ha] at HW i1 i2 ⊢
  obtain ⟨pb, hpb⟩ : ∃ b, d.put = b := ⟨_, rfl⟩
  rw [hpb] at y0 HW
  cases pb with
  | true =>
    rw [← HW.out.1 rfl] at l2
    clear ok aok HW ha hpb l1
    generalize ddC d = X at *
    go_enter Try.func20, Try.ntmps20
    go_upto_region 1 with (fail)
    refine wp_name ?_
    intro w1 hw1
    have b1 : Blk w1 W.heap.size 47 X := by rw [hw1]; infer_instance
    have b2 : Blk w1 (W.heap.size + 1) 35 adr0 := by
      rw [hw1]
      have : Blk ((W.alloc (.cells X 47)).alloc (.cells adr0 35)) (W.alloc (.cells X 47)).heap.size 35 adr0 := inferInstance
      simpa using this
    have M1 : Mo W w1 := by rw [hw1]; exact Mor.out
    have HG := Lib.hid (Nat.le_refl W.heap.size)
    generalize hg : W.heap.size = g1 at *
    have l2' := l2 w1 g1
    clear hw1 l2
    go_wp2_with fail
    refine ret_cS rfl (g1 + 1) a rfl rfl (blk_setRow (cs' := a) b2) ?_
    exact ⟨rfl, mo_setRow M1 (by omega) _⟩
  | false =>
    rw [← HW.out.2 rfl] at l1
    clear ok aok HW ha hpb l2
    generalize ddC d = X at *
    go_enter Try.func20, Try.ntmps20
    go_upto_region 1 with (fail)
    refine wp_name ?_
    intro w1 hw1
    have b1 : Blk w1 W.heap.size 47 X := by rw [hw1]; infer_instance
    have b2 : Blk w1 (W.heap.size + 1) 35 adr0 := by
      rw [hw1]
      have : Blk ((W.alloc (.cells X 47)).alloc (.cells adr0 35)) (W.alloc (.cells X 47)).heap.size 35 adr0 := inferInstance
      simpa using this
    have M1 : Mo W w1 := by rw [hw1]; exact Mor.out
    generalize hg : W.heap.size = g1 at *
    have l1' := l1 w1 g1
    clear hw1 l1
    go_wp2_with fail
    refine ret_cS rfl (g1 + 1) a rfl rfl (blk_setRow (cs' := a) b2) ?_
    exact ⟨rfl, mo_setRow M1 (by omega) _⟩
set_option maxRecDepth 20000 in
set_option maxHeartbeats 8000000 in
theorem does_any {W : World} {T b : Nat} {S : Nat → Prop} {C : CfgS} {o wd : Nat} {es : List Ent} {ot : Ent} {n : Nat} (h : TabW W T b S C o wd es ot n) (d : Deed) (ok : DeedOk d) (hn : n ≤ 900) :
    Calls Try.prog 21 #[ptrS T, .agg (ddC d)] W (DoneT T b S C o wd es ot n (whoD d) (actQ C.sl d) W) := by
  obtain ⟨PO, hPO⟩ : ∃ P, DoneT T b S C o wd es ot n (whoD d) (actQ C.sl d) W = P := ⟨_, rfl⟩
  rw [hPO]
  have RR := Lib.hid hPO
  have widen : Hid (∀ {w w' : World} {e : Ending}, Mo W w → DoneT T b S C o wd es ot n (whoD d) (actQ C.sl d) w e w' → DoneT T b S C o wd es ot n (whoD d) (actQ C.sl d) W e w') := Lib.hid fun M ⟨es1, q, S1, e, P, t, K, fr⟩ => ⟨es1, q, S1, e, P, t, (KpS.of_mo (S := S) M).trans K fun _ _ e => e, fun k hk => (fr k hk).imp id (Nat.le_trans M.size)⟩
  have iz : SzA (ddC d) 67 := ⟨dd_size ok⟩
  have y0 := dd_0 ok
  have yk := dd_k ok
  have l1 : ∀ (w : World) (g : Nat) [Blk w g 47 (ddC d)], (loadF 35 (.pointer (some ⟨g, 1, none⟩))).run Try.prog w = .ok (.agg d.a) w := fun w g _ => by
    have := run_loadFo 35 17 w g 1 47 (ddC d) 67 (by omega) (by omega)
    rwa [dd_a ok] at this
  have l2 : ∀ (w : World) (g : Nat) [Blk w g 47 (ddC d)], (loadF 45 (.pointer (some ⟨g, 19, none⟩))).run Try.prog w = .ok (.agg (smpC d.S)) w := fun w g _ => by
    have := run_loadFo 45 48 w g 19 47 (ddC d) 67 (by omega) (by omega)
    rwa [dd_S ok] at this
  obtain ⟨pb, hpb⟩ : ∃ b, d.put = b := ⟨_, rfl⟩
  rw [hpb] at y0
  cases pb with
  | true =>
    have ew : whoD d = smpA d.S := by unfold whoD; rw [if_pos hpb]
    have HP := Lib.hid (fun w (m : Mo W w) => tput_any (h.mo m) d.S ok.S hn)
    have HE : Hid ((fun q E => if q.isSome then putE C.sl E d.S else sumE E d.S) = actQ C.sl d) := Lib.hid (actQ_put hpb).symm
    rw [HE.out, ← ew] at HP
    clear ok hpb l1 h ew yk HE
    generalize ddC d = X at *
    generalize smpC d.S = Y at *
    go_enter Try.func21, Try.ntmps21
    go_upto_region 1 with (fail)
    refine wp_name ?_
    intro w1 hw1
    have b1 : Blk w1 W.heap.size 47 X := by rw [hw1]; infer_instance
    have M1 : Mo W w1 := by rw [hw1]; exact Mor.out
    generalize hg : W.heap.size = g1 at *
    have l2' := l2 w1 g1
    clear hw1 l2
    go_wp2_with fail
    refine (HP.out _ (M1.trans Mor.out)).mono ?_
    rintro e w2 D
    have D2 := widen.out (M1.trans Mor.out) D
    obtain ⟨es1, q, S1, rfl, P, t, K, fr⟩ := D2
    have HD : Hid (TabW w2 T b S1 C o wd (chg (actQ C.sl d q) es1 ot q).1 (chg (actQ C.sl d q) es1 ot q).2 (n + 1)) := Lib.hid t
    clear t D b1
    go_wp2_with fail
    first | go_ret | skip
    rw [← RR.out]
    exact ⟨es1, q, S1, rfl, P, HD.out.mo Mor.out, K.trans (KpS.of_mo (S := S) Mor.out) fun _ _ e => e, fr⟩
  | false =>
    have ew : whoD d = d.a := by unfold whoD; rw [if_neg (by simp [hpb])]
    have HP := Lib.hid (fun w (m : Mo W w) => tcount_w (h.mo m) d.a ok.a d.k hn)
    have HE : Hid ((fun _ E => if d.k < 9 then incE E d.k else E) = actQ C.sl d) := Lib.hid (actQ_cnt hpb).symm
    rw [HE.out, ← ew] at HP
    rw [← ew] at l1
    clear ok hpb l2 h ew HE
    generalize ddC d = X at *
    go_enter Try.func21, Try.ntmps21
    go_upto_region 1 with (fail)
    refine wp_name ?_
    intro w1 hw1
    have b1 : Blk w1 W.heap.size 47 X := by rw [hw1]; infer_instance
    have M1 : Mo W w1 := by rw [hw1]; exact Mor.out
    generalize hg : W.heap.size = g1 at *
    have l1' := l1 w1 g1
    clear hw1 l1
    go_wp2_with fail
    refine (HP.out _ (M1.trans Mor.out)).mono ?_
    rintro e w2 D
    have D2 := widen.out (M1.trans Mor.out) D
    obtain ⟨es1, q, S1, rfl, P, t, K, fr⟩ := D2
    have HD : Hid (TabW w2 T b S1 C o wd (chg (actQ C.sl d q) es1 ot q).1 (chg (actQ C.sl d q) es1 ot q).2 (n + 1)) := Lib.hid t
    clear t D b1
    go_wp2_with fail
    first | go_ret | skip
    rw [← RR.out]
    exact ⟨es1, q, S1, rfl, P, HD.out.mo Mor.out, K.trans (KpS.of_mo (S := S) Mor.out) fun _ _ e => e, fr⟩
def greatB (n : Nat) (C : CfgS) : Bool := decide (80 < n) || (decide (6 < C.sv) && decide (C.sv ≤ 256))
attribute [local go_sem ↓] loadF_cfg
set_option maxRecDepth 20000 in
set_option maxHeartbeats 8000000 in
theorem great_any (A : Option Addr) (n cap : Nat) (C : CfgS) (W : World) :
    Calls Try.prog 7 #[.slice A n cap, .agg (cfC C)] W fun e w' => e = .returned (.bool (greatB n C)) ∧ Mo W w' := by
  obtain ⟨b1, h1⟩ : ∃ b, decide (80 < n) = b := ⟨_, rfl⟩
  have h1' : decide ((80 : Int) < n) = b1 := by rw [← h1]; by_cases c : 80 < n <;> simp [c] <;> omega
  obtain ⟨b2, h2⟩ : ∃ b, decide (6 < C.sv) = b := ⟨_, rfl⟩
  obtain ⟨b3, h3⟩ : ∃ b, decide (C.sv ≤ 256) = b := ⟨_, rfl⟩
  have HG : Hid (greatB n C = (b1 || (b2 && b3))) := Lib.hid (by unfold greatB; rw [h1, h2, h3])
  obtain ⟨cw, ck, csv, csl, coc, cep, csh, cst, cln, cbl, cfr, cfb⟩ := C
  simp only at h2 h3
  cases b1 <;> cases b2 <;> cases b3 <;> (
    go_enter Try.func7, Try.ntmps7
    go_wp2_with fail
    go_ret
    exact ⟨by rw [HG.out]; rfl, Mor.out⟩)
end Go.Proofs.Ythgkhllkhhnlpaa
/- horologelaw36: the arguments, opened: deeds, a configuration. -/
namespace Go.Proofs.Ythgkhllkhhnlpaa
open Go.RowKit Go.ChangeShapes Go.WideShapes Go.Deep

section
variable {H : Type} {enc : TypeId × Value → H} {w : World} {base : Nat} {spare : Nat → Bool} {held : Bool}
set_option maxRecDepth 20000 in
theorem flat_trodS {T : TypeId} {n : Nat} (k : FlatT T n) {fuel : Nat} {cs : List Value} {x : DataW H × List MemPlace} (h : DataW.trod enc Try.prog w base spare held fuel T cs = some x) : Fits (ksOf T) cs := kinds_trod _ fuel T _ k.ks cs x h
set_option maxRecDepth 20000 in
theorem fits_parts : ∀ {a b : List CK} {v : List Value}, Fits (a ++ b) v → ∃ u w, v = u ++ w ∧ Fits a u ∧ Fits b w
  | [], _, v, h => ⟨[], v, rfl, trivial, h⟩
  | _ :: a, b, [], h => h.elim
  | k :: a, b, x :: v, h => by
    obtain ⟨u, w, e, h1, h2⟩ := fits_parts (a := a) (b := b) h.2
    exact ⟨x :: u, w, by rw [e]; rfl, ⟨h.1, h1⟩, h2⟩
set_option maxRecDepth 20000 in
theorem fit_i {k : IntKind} {v : Value} (h : (CK.i k).fits v) : ∃ n, v = .int k n ∧ (Lit.int k n).wf = true := by
  cases v with
  | int q n =>
    obtain ⟨h1, h2⟩ : q = k ∧ (Lit.int k n).wf = true := h
    exact ⟨n, by rw [h1], h2⟩
  | _ => exact (h : False).elim
set_option maxRecDepth 20000 in
theorem fit_b {v : Value} (h : CK.b.fits v) : ∃ n, v = .bool n := by
  cases v with
  | bool n => exact ⟨n, rfl⟩
  | _ => exact (h : False).elim
set_option maxRecDepth 20000 in
theorem fit_nil {v : List Value} (h : Fits [] v) : v = [] := by
  cases v with
  | nil => rfl
  | cons => cases h
set_option maxRecDepth 20000 in
theorem fit_cons {k : CK} {ks : List CK} {v : List Value} (h : Fits (k :: ks) v) : ∃ x u, v = x :: u ∧ k.fits x ∧ Fits ks u := by
  cases v with
  | nil => cases h
  | cons x u => exact ⟨x, u, rfl, h.1, h.2⟩
set_option maxRecDepth 20000 in
theorem wf_i64 {n : Int} (h : (Lit.int .i64 n).wf = true) : -9223372036854775808 ≤ n ∧ n ≤ 9223372036854775807 := by
  simp [Lit.wf, IntKind.min, IntKind.max, IntKind.signed, IntKind.bits] at h
  omega
set_option maxRecDepth 20000 in
theorem wf_u64 {n : Int} (h : (Lit.int .u64 n).wf = true) : 0 ≤ n ∧ n ≤ 18446744073709551615 := by
  simp [Lit.wf, IntKind.min, IntKind.max, IntKind.signed, IntKind.bits] at h
  omega
set_option maxRecDepth 20000 in
theorem wf_u8 {n : Int} (h : (Lit.int .u8 n).wf = true) : 0 ≤ n ∧ n ≤ 255 := by
  simp [Lit.wf, IntKind.min, IntKind.max, IntKind.signed, IntKind.bits] at h
  omega
set_option maxRecDepth 20000 in
theorem wide_of2 {a b : Int} (h1 : -9223372036854775808 ≤ a ∧ a ≤ 9223372036854775807) (h2 : 0 ≤ b ∧ b ≤ 18446744073709551615) : hiW (a * 18446744073709551616 + b) = a ∧ loW (a * 18446744073709551616 + b) = b ∧ InW (a * 18446744073709551616 + b) := by
  unfold hiW loW InW
  omega
set_option maxRecDepth 20000 in
/-- a sample's kinds: the flow's, with the server's address in it, and the rest -/
theorem ks_smp : ksOf 45 = (ksOf 45).take 18 ++ ksOf 35 ++ ((ksOf 45).drop 35).take 1 ++ [.i .i64, .i .u64, .i .i64, .i .u64, .i .i64, .i .u64, .i .i64, .i .u64, .i .i64, .i .i64, .i .i64, .i .u8] := by kernel_rfl
set_option maxRecDepth 20000 in
theorem ks_do : ksOf 47 = [.b] ++ ksOf 35 ++ [.i .u8] ++ ksOf 45 := by kernel_rfl
set_option maxRecDepth 20000 in
theorem ks_addr_len : (ksOf 35).length = 17 := by kernel_rfl
set_option maxRecDepth 20000 in
theorem open_smp {v : List Value} (h : Fits (ksOf 45) v) : ∃ S : Smp, v = (smpC S).toList ∧ SmpOk S := by
  rw [ks_smp] at h
  obtain ⟨f, t, rfl, hf, ht⟩ := fits_parts h
  obtain ⟨f12, f3, rfl, h12, h3⟩ := fits_parts hf
  obtain ⟨f1, f2, rfl, h1, h2⟩ := fits_parts h12
  have l1 : f1.length = 18 := h1.len.trans (by kernel_rfl)
  have l2 : f2.length = 17 := h2.len.trans ks_addr_len
  have l3 : f3.length = 1 := h3.len.trans (by kernel_rfl)
  obtain ⟨x1, t, rfl, q1, ht⟩ := fit_cons ht
  obtain ⟨x2, t, rfl, q2, ht⟩ := fit_cons ht
  obtain ⟨x3, t, rfl, q3, ht⟩ := fit_cons ht
  obtain ⟨x4, t, rfl, q4, ht⟩ := fit_cons ht
  obtain ⟨x5, t, rfl, q5, ht⟩ := fit_cons ht
  obtain ⟨x6, t, rfl, q6, ht⟩ := fit_cons ht
  obtain ⟨x7, t, rfl, q7, ht⟩ := fit_cons ht
  obtain ⟨x8, t, rfl, q8, ht⟩ := fit_cons ht
  obtain ⟨x9, t, rfl, q9, ht⟩ := fit_cons ht
  obtain ⟨xa, t, rfl, qa, ht⟩ := fit_cons ht
  obtain ⟨xb, t, rfl, qb, ht⟩ := fit_cons ht
  obtain ⟨xc, t, rfl, qc, ht⟩ := fit_cons ht
  obtain rfl := fit_nil ht
  obtain ⟨n1, rfl, w1⟩ := fit_i q1
  obtain ⟨n2, rfl, w2⟩ := fit_i q2
  obtain ⟨n3, rfl, w3⟩ := fit_i q3
  obtain ⟨n4, rfl, w4⟩ := fit_i q4
  obtain ⟨n5, rfl, w5⟩ := fit_i q5
  obtain ⟨n6, rfl, w6⟩ := fit_i q6
  obtain ⟨n7, rfl, w7⟩ := fit_i q7
  obtain ⟨n8, rfl, w8⟩ := fit_i q8
  obtain ⟨n9, rfl, w9⟩ := fit_i q9
  obtain ⟨na, rfl, wa⟩ := fit_i qa
  obtain ⟨nb, rfl, wb⟩ := fit_i qb
  obtain ⟨nc, rfl, wc⟩ := fit_i qc
  obtain ⟨a1, b1, c1⟩ := wide_of2 (wf_i64 w1) (wf_u64 w2)
  obtain ⟨a2, b2, c2⟩ := wide_of2 (wf_i64 w3) (wf_u64 w4)
  obtain ⟨a3, b3, c3⟩ := wide_of2 (wf_i64 w5) (wf_u64 w6)
  obtain ⟨a4, b4, c4⟩ := wide_of2 (wf_i64 w7) (wf_u64 w8)
  let S : Smp := ⟨(f1 ++ f2 ++ f3).toArray, n1 * 18446744073709551616 + n2, n3 * 18446744073709551616 + n4, n5 * 18446744073709551616 + n6, n7 * 18446744073709551616 + n8, n9, na, nb, nc⟩
  have hS : S.f.size = 36 := by show (f1 ++ f2 ++ f3).toArray.size = 36; simp [l1, l2, l3]
  have eA : smpA S = f2.toArray := by
    unfold smpA
    refine Array.ext_getElem? fun k => ?_
    rw [Array.getElem?_extract]
    have hz : (smpC S).size = 48 := smpC_size hS
    by_cases c : k < 17
    · rw [if_pos (by omega), Array.getElem?_append, if_pos (by rw [hS]; omega)]
      show (f1 ++ f2 ++ f3).toArray[18 + k]? = _
      rw [List.getElem?_toArray, List.getElem?_append_left (by rw [List.length_append]; omega), List.getElem?_append_right (by omega), l1, Nat.add_sub_cancel_left, List.getElem?_toArray]
    · rw [if_neg (by omega), Array.getElem?_eq_none (by simp [l2]; omega)]
  refine ⟨S, ?_, ⟨hS, ⟨?_, ?_⟩, c4, wf_i64 w9, wf_i64 wa, wf_i64 wb⟩⟩
  · show f1 ++ f2 ++ f3 ++ _ = (S.f ++ _).toList
    rw [Array.toList_append]
    show _ = f1 ++ f2 ++ f3 ++ _
    congr 1
    show _ = [Value.int .i64 (hiW (n1 * 18446744073709551616 + n2)), .int .u64 (loW (n1 * 18446744073709551616 + n2)), .int .i64 (hiW (n3 * 18446744073709551616 + n4)), .int .u64 (loW (n3 * 18446744073709551616 + n4)), .int .i64 (hiW (n5 * 18446744073709551616 + n6)), .int .u64 (loW (n5 * 18446744073709551616 + n6)), .int .i64 (hiW (n7 * 18446744073709551616 + n8)), .int .u64 (loW (n7 * 18446744073709551616 + n8)), .int .i64 n9, .int .i64 na, .int .i64 nb, .int .u8 nc]
    rw [a1, b1, a2, b2, a3, b3, a4, b4]
  · rw [eA]; exact h2
  · rw [eA]; simpa using l2
set_option maxRecDepth 20000 in
theorem open_do {v : List Value} (h : Fits (ksOf 47) v) : ∃ d : Deed, v = (ddC d).toList ∧ DeedOk d := by
  rw [ks_do] at h
  obtain ⟨t, s, rfl, ht, hs⟩ := fits_parts h
  obtain ⟨t, kk, rfl, ht, hk⟩ := fits_parts ht
  obtain ⟨p, a, rfl, hp, ha⟩ := fits_parts ht
  obtain ⟨S, rfl, ok⟩ := open_smp hs
  obtain ⟨x, p, rfl, q1, hp⟩ := fit_cons hp
  obtain rfl := fit_nil hp
  obtain ⟨b, rfl⟩ := fit_b q1
  obtain ⟨y, kk, rfl, q2, hk⟩ := fit_cons hk
  obtain rfl := fit_nil hk
  obtain ⟨n, rfl, wn⟩ := fit_i q2
  have bn := wf_u8 wn
  have la : a.length = 17 := ha.len.trans ks_addr_len
  refine ⟨⟨b, a.toArray, n.toNat, S⟩, ?_, ⟨⟨ha, by simpa using la⟩, by show n.toNat < 256; omega, ok⟩⟩
  unfold ddC
  simp only [Array.toList_append]
  rw [show ((n.toNat : Nat) : Int) = n by omega]
set_option maxRecDepth 20000 in
theorem cellsDoS : Try.prog.cellsOf 47 = 67 := by kernel_rfl
set_option maxRecDepth 20000 in
theorem open_deeds {fuel : Nat} {v : Value} {x : DataW H × List MemPlace} (h : DataW.trod enc Try.prog w base spare held fuel 22 [v] = some x) (hz : ∀ k ∈ x.1.weights Try.prog 22, k ≤ reachBytes) :
    ∃ A l cap, v = .slice A l.length cap ∧ DdsS w A cap l := by
  rcases open_rowsW Try.underlying22 cellsDoS (by decide) h hz with rfl | ⟨a, len, cap, rfl, hl, hb, hs, hi⟩
  · exact ⟨none, [], 0, rfl, ⟨by simp, fun d hd => (by cases hd), fun _ => rfl, .inl rfl⟩⟩
  · have hex : ∀ i, ∃ d : Deed, i < len → (DeedOk d ∧ OneA (ddC d)) ∧ ∀ j v, (ddC d).toList[j]? = some v → w.cell? ⟨a.block, a.off + i * 67 + j, none⟩ = some v := fun i => by
      by_cases h : i < len
      · obtain ⟨cs, m, y, hl, hc, ht, hw⟩ := hi i h
        have k0 := flat_trodS fl_do ht
        obtain ⟨d, e2, ok⟩ := open_do k0
        have one : OneA (ddC d) := ⟨by
          rw [Array.all_eq_true_iff_forall_mem]
          intro v hv
          exact k0.one v (by rw [e2]; exact Array.mem_toList_iff.2 hv)⟩
        refine ⟨d, fun _ => ⟨⟨ok, one⟩, fun j v hv => ?_⟩⟩
        rw [← e2] at hv
        have hj : j < 67 := by rw [← hl]; exact (List.getElem?_eq_some_iff.1 hv).1
        rw [hc j hj, hv]
      · exact ⟨⟨false, #[], 0, ⟨#[], 0, 0, 0, 0, 0, 0, 0, 0⟩⟩, fun k => absurd k h⟩
    obtain ⟨F, hF⟩ := Classical.axiomOfChoice hex
    have hlen : ((List.range len).map F).length = len := by simp
    refine ⟨some a, (List.range len).map F, cap, by rw [hlen], ⟨by rw [hlen]; exact hl, fun c hc => ?_, fun e => (by cases e), ?_⟩⟩
    · obtain ⟨i, hi', rfl⟩ := List.mem_map.1 hc
      exact (hF i (List.mem_range.1 hi')).1
    · by_cases z : len = 0
      · subst z; exact .inl rfl
      · have hsp := hs (by omega)
        obtain ⟨b, off, spot⟩ := a
        simp only at hsp
        subst hsp
        refine .inr ⟨b, off, rfl, fun i hi' j v hv => ?_⟩
        have hj' : i < len := by rw [hlen] at hi'; exact hi'
        have e : ((List.range len).map F)[i] = F i := by simp
        rw [e] at hv
        exact (hF i hj').2 j v hv
def CfgI (C : CfgS) : Prop := Is64S C.sv ∧ Is64S C.sl ∧ Is64S C.oc ∧ Is64S C.sh ∧ Is64S C.st
set_option maxRecDepth 20000 in
theorem ks_cfg : ksOf 26 = [.i .i64, .i .i64, .i .i64, .i .i64, .i .i64, .i .i64, .i .i64, .i .i64, .i .i64, .i .i64, .i .i64, .i .i64] := by kernel_rfl
set_option maxRecDepth 20000 in
theorem open_cfgL {v : List Value} (h : Fits (ksOf 26) v) : ∃ C : CfgS, v = (cfC C).toList ∧ CfgI C := by
  rw [ks_cfg] at h
  obtain ⟨x1, t, rfl, q1, ht⟩ := fit_cons h
  obtain ⟨x2, t, rfl, q2, ht⟩ := fit_cons ht
  obtain ⟨x3, t, rfl, q3, ht⟩ := fit_cons ht
  obtain ⟨x4, t, rfl, q4, ht⟩ := fit_cons ht
  obtain ⟨x5, t, rfl, q5, ht⟩ := fit_cons ht
  obtain ⟨x6, t, rfl, q6, ht⟩ := fit_cons ht
  obtain ⟨x7, t, rfl, q7, ht⟩ := fit_cons ht
  obtain ⟨x8, t, rfl, q8, ht⟩ := fit_cons ht
  obtain ⟨x9, t, rfl, q9, ht⟩ := fit_cons ht
  obtain ⟨xa, t, rfl, qa, ht⟩ := fit_cons ht
  obtain ⟨xb, t, rfl, qb, ht⟩ := fit_cons ht
  obtain ⟨xc, t, rfl, qc, ht⟩ := fit_cons ht
  obtain rfl := fit_nil ht
  obtain ⟨n1, rfl, w1⟩ := fit_i q1
  obtain ⟨n2, rfl, w2⟩ := fit_i q2
  obtain ⟨n3, rfl, w3⟩ := fit_i q3
  obtain ⟨n4, rfl, w4⟩ := fit_i q4
  obtain ⟨n5, rfl, w5⟩ := fit_i q5
  obtain ⟨n6, rfl, w6⟩ := fit_i q6
  obtain ⟨n7, rfl, w7⟩ := fit_i q7
  obtain ⟨n8, rfl, w8⟩ := fit_i q8
  obtain ⟨n9, rfl, w9⟩ := fit_i q9
  obtain ⟨na, rfl, wa⟩ := fit_i qa
  obtain ⟨nb, rfl, wb⟩ := fit_i qb
  obtain ⟨nc, rfl, wc⟩ := fit_i qc
  exact ⟨⟨n1, n2, n3, n4, n5, n6, n7, n8, n9, na, nb, nc⟩, rfl, wf_i64 w3, wf_i64 w4, wf_i64 w5, wf_i64 w7, wf_i64 w8⟩
set_option maxRecDepth 20000 in
theorem open_cfg {r : Reach} {b0 : Nat} {v : Value} {d : DataW H} {p : List MemPlace} (hv : Value.okWide Try.prog w r b0 26 v) (h : DataW.Trod enc Try.prog w base spare held 26 v d p) : ∃ q : CfgS, v = .agg (cfC q) ∧ CfgI q := by
  obtain ⟨cs, rfl, hsz⟩ := okWide_struct Try.underlying26 hv
  obtain ⟨fuel, hf⟩ := h
  have k0 : Fits (ksOf 26) cs.toList := flat_trodS fl_cfg hf
  obtain ⟨C, e, hC⟩ := open_cfgL k0
  refine ⟨C, ?_, hC⟩
  rw [← Array.toArray_toList (xs := cs), e]
end
end Go.Proofs.Ythgkhllkhhnlpaa
/- horologelaw36: a configuration, opened, as the frames ask for it. -/
namespace Go.Proofs.Ythgkhllkhhnlpaa
open Go.RowKit Go.ChangeShapes Go.WideShapes Go.Deep
set_option maxRecDepth 20000 in
theorem open_cfgZ {H : Type} {enc : TypeId × Value → H} {w : World} {base : Nat} {spare : Nat → Bool} {held : Bool} {r : Reach} {b0 : Nat} {v : Value} {d : DataW H} {p : List MemPlace} (hv : Value.okWide Try.prog w r b0 26 v) (h : DataW.Trod enc Try.prog w base spare held 26 v d p) (_ : ∀ k ∈ d.weights Try.prog 26, k ≤ reachBytes) : ∃ q : CfgS, v = .agg (cfC q) ∧ CfgI q := open_cfg hv h
end Go.Proofs.Ythgkhllkhhnlpaa
