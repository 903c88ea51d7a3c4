/- horologeref36: Servers, best. -/
import Derived.Test.YthgkhllkhhnlpaaPlR
import Derived.Great.BuildSlice
namespace Go.Proofs.Ythgkhllkhhnlpaa
open Go.RowKit Go.Maps

set_option maxRecDepth 20000 in
theorem foldl_spliceP (off : Nat) : ∀ (v : List Value) (k : Nat) (cs : Array Value), off + k + v.length ≤ cs.size → ((v.zipIdx k).foldl (fun (cs : Array Value) (p : Value × Nat) => cs.setIfInBounds (off + p.2) p.1) cs).toList = spliceL cs.toList (off + k) v
  | [], k, cs, _ => by unfold spliceL; simp
  | x :: v, k, cs, h => by
    rw [List.length_cons] at h
    rw [List.zipIdx_cons, List.foldl_cons, foldl_spliceP off v (k + 1) _ (by simp; omega), Array.toList_setIfInBounds, show off + (k + 1) = off + k + 1 by omega, spliceL_cons _ _ _ _ (by simp; omega)]
set_option maxRecDepth 20000 in
theorem infoAD : (Try.prog.info? 35).map (fun i => (i.zero, i.size, i.bytes)) = some (some (.agg adr0), 17, 17) := by kernel_rfl
def buildAD (n : Nat) (l : Array (Nat × Value)) : Sem Value := Instr.buildSlice 50 n l
set_option maxRecDepth 20000 in
theorem buildAD_fold (n : Nat) (l : Array (Nat × Value)) : Instr.buildSlice 50 n l = buildAD n l := rfl
set_option maxRecDepth 20000 in
theorem run_buildAD (c : Array Value) [hc : SzA c 17] (w : World) : (buildAD 1 #[(0, .agg c)]).run Try.prog w = .ok (.slice (some ⟨w.heap.size, 0, none⟩) 1 1) (w.alloc (.cells c 35)) := by
  obtain ⟨i0, hi, hz0, hz1, hz2⟩ := info_parts infoAD
  have h0 := hc.out
  refine run_buildSlice w _ _ 1 _ _ i0 (.agg adr0) Try.underlying50 hi hz0 (by rw [hz1]; decide) (by rw [hz1]; decide) ?_
  rw [hz1]
  show Instr.fill (fun i => some (i * 17, 17)) _ [(0, .agg c)] = _
  unfold Instr.fill
  have e1 : (Value.agg c).cells = c := rfl
  simp only [e1]
  rw [if_neg (by simp [h0])]
  unfold Instr.fill
  congr 1
  apply Array.toList_inj.1
  rw [← Array.foldl_toList, Array.toList_zipIdx, foldl_spliceP (0 * 17) c.toList 0 _ (by simp [h0])]
  unfold spliceL
  simp [h0]
set_option maxRecDepth 20000 in
theorem app_adr (w : World) (base n : Nat) (v : Value) (xs : List Value) (c : Array Value) [hc : SzA c 17] [oc : OneA c] (h : w.ownsRow base 35 17 v n xs) (hx : xs.length = n * 17) (hn : n ≤ 100000) (hb : base ≤ w.heap.size) :
    ∃ g cp w', (appS #[50, 50] 50 #[v, .slice (some ⟨w.heap.size, 0, none⟩) 1 1]).run Try.prog (w.alloc (.cells c 35)) = .ok (.slice (some ⟨g, 0, none⟩) (n + 1) cp) w' ∧
      w'.ownsRow base 35 17 (.slice (some ⟨g, 0, none⟩) (n + 1) cp) (n + 1) (xs ++ c.toList) ∧ KpS (fun i => v.ownBlock = some i) w w' := by
  obtain ⟨i0, hi0, hz0, hz1, hz2⟩ := info_parts infoAD
  have hT := (Mor.out : Mo w (w.alloc (.cells c 35)))
  obtain ⟨v6, w6, hrun, hown, hgrow, -, -⟩ := run_append_own_at (P := Try.prog) (w.alloc (.cells c 35)) base 50 50 35 i0 (.agg adr0) 17 17 Try.underlying50 hi0 hz0 hz1 hz2 rfl (by decide) _ _ _ (owns_mo h hT) ⟨w.heap.size, 0, none⟩ 1 1 c.toList (by rw [Array.length_toList, hc.out]) (news_of_blkS (t := 35) (cs := c) inferInstance _ rfl) (fun u hu => by have := oc.out; simp at this; obtain ⟨i, hi, rfl⟩ := List.mem_iff_getElem.1 hu; exact this i (by simpa using hi)) (by unfold maxLen; omega) (by omega) (by simp; omega)
  obtain ⟨g6, c6, ev6⟩ := own_succS hown
  subst ev6
  exact ⟨g6, c6, w6, hrun, hown, (KpS.of_mo hT).trans (kpS_grownS hgrow) fun _ _ q => q⟩
set_option maxRecDepth 20000 in
theorem DdsS.getM {W : World} {A : Option Addr} {cap : Nat} {l : List Deed} (h : DdsS W A cap l) (i : Nat) (hi : i < l.length) : ∃ g off, A = some ⟨g, off, none⟩ ∧ LtW g W ∧ ∀ w, Mo W w → (loadF 47 (.pointer (some ⟨g, off + i * 67, none⟩))).run Try.prog w = .ok (.agg (ddC l[i])) w := by
  obtain ⟨g, off, e, z, _⟩ := h.get i hi
  refine ⟨g, off, e, z, fun w m => ?_⟩
  obtain ⟨g', off', e', _, r⟩ := (h.mo m).get i hi
  rw [e] at e'
  injection e' with e'
  injection e' with e1 e2
  subst e1 e2
  exact r
set_option maxRecDepth 20000 in
theorem ads_nil (b : Nat) (w : World) : AdsIs b w (.slice none 0 0) [] := ⟨⟨rfl, .inl ⟨rfl, rfl⟩⟩, fun a h => by cases h⟩
set_option maxRecDepth 20000 in
theorem nm_take (sv : Int) (l : List Deed) (j : Nat) (hj : j < l.length) : nmS sv (l.take (j + 1)) = nmS sv (l.take j ++ [l[j]]) := by
  rw [List.take_add_one, List.getElem?_eq_getElem hj]
  rfl
set_option maxRecDepth 20000 in
theorem nm_len (sv : Int) (l : List Deed) : (nmS sv l).length ≤ l.length := by
  refine snoc_indD (p := fun l => (nmS sv l).length ≤ l.length) (by rw [nm_nil]; exact Nat.le_refl _) (fun l d ih => ?_) l
  rw [List.length_append, List.length_singleton]
  by_cases c : whoD d ∈ nmS sv l ∨ sv ≤ (nmS sv l).length
  · rw [nm_old c]; omega
  · rw [nm_new (fun h => c (.inl h)) (Int.not_le.1 fun h => c (.inr h)), List.length_append, List.length_singleton]
    omega
attribute [local go_sem] blk_cell' blk_frozen'
attribute [local go_sem ↓] loadF_addr storeF_addr loadF_do storeF_do loadF_smp storeF_smp buildAD_fold appS_fold
attribute [local go_sem] run_loadF0 run_storeF0 run_buildAD
set_option maxRecDepth 20000 in
set_option maxHeartbeats 8000000 in
theorem rservers36_any (A : Option Addr) (cap n : Nat) (l : List Deed) (sv : Int) (W : World) (h : DdsS W A cap l) (hn : l.length = n) (hl : n ≤ 1000) :
    Calls Try.prog 12 #[.slice A n cap, .int .i64 sv] W fun e w' => ∃ v, e = .returned v ∧ AdsIs W.heap.size w' v (nmS sv l) ∧ Mo W w' := by
  have HD := Lib.hid h
  have HL := Lib.hid hn
  clear h hn
  go_enter Try.func12, Try.ntmps12
  --@@ loop
  go_wp2_with fail
  go_loopw [5, 6] (fun s5 s6 wr => ∃ (j : Nat) (v : Value), j ≤ n ∧ s5 = v ∧ s6 = .int .i64 j ∧ AdsIs W.heap.size wr v (nmS sv (l.take j)) ∧ Mo W wr) (fun _ s6 _ => n - (intOf s6).toNat)
  case atStart => exact ⟨0, _, by omega, rfl, rfl, by rw [List.take_zero, nm_nil]; exact ads_nil _ _, Mor.out⟩
  case round =>
    obtain ⟨j, v, hj, rfl, rfl, hV, hM⟩ := hrel
    have nl : (nmS sv (l.take j)).length ≤ j := Nat.le_trans (nm_len sv _) (by rw [List.length_take]; omega)
    obtain ⟨ns, hns⟩ : ∃ ns, nmS sv (l.take j) = ns := ⟨_, rfl⟩
    have HNS := Lib.hid hns
    rw [hns] at hV nl
    obtain ⟨k, hk⟩ : ∃ k, ns.length = k := ⟨_, rfl⟩
    have HK := Lib.hid hk
    obtain ⟨A', c', ev⟩ := hV.len
    rw [hk] at nl ev
    subst ev
    clear hns hk
    by_cases cj : j < n
    · have hjl : j < l.length := by rw [HL.out]; exact cj
      obtain ⟨g, off, rfl, zg, ldm⟩ := (HD.out.mo hM).getM j hjl
      have HLD := Lib.hid ldm
      have ld := ldm wr (Mo.refl wr)
      have i0 : (0 : Int) ≤ j := by omega
      have i2 : (j : Int) < n := by omega
      have hw : IntKind.i64.wrap ((j : Int) + 1) = j + 1 := by rw [IntKind.wrap_i64]; omega
      obtain ⟨okd, oned⟩ := HD.out.ok _ (List.getElem_mem hjl)
      have HS := Lib.hid (nm_take sv l j hjl)
      have iz : SzA (ddC l[j]) 67 := ⟨dd_size okd⟩
      generalize l[j] = d at *
      have OF := Lib.hid (fun w => rof36_any d okd w)
      have wok := whoD_ok okd
      have iw : SzA (whoD d) 17 := ⟨wok.z⟩
      have io : OneA (whoD d) := one_of_fits wok.p
      have HV := Lib.hid hV
      have HM := Lib.hid hM
      have NU := Lib.hid (fun w (m : Mo wr w) => rnumber36_any (HV.out.mo m) wok (by rw [HK.out]; omega))
      have WOK := Lib.hid wok
      have HOLD := Lib.hid (fun (q : whoD d ∈ ns ∨ sv ≤ k) => show nmS sv (l.take (j + 1)) = ns by rw [HS.out, nm_old (by rw [HNS.out, HK.out]; exact q), HNS.out])
      have HNEW := Lib.hid (fun (q : whoD d ∉ ns) (q' : (k : Int) < sv) => show nmS sv (l.take (j + 1)) = ns ++ [whoD d] by rw [HS.out, nm_new (by rw [HNS.out]; exact q) (by rw [HNS.out, HK.out]; exact q'), HNS.out])
      clear hV hM ldm hjl okd wok oned HS
      generalize ddC d = X at *
      by_cases c1 : (k : Int) < sv
      · have d1 : decide ((k : Int) < sv) = true := decide_eq_true c1
        --@@ of
        go_wp2_with fail
        refine (OF.out _).mono ?_
        rintro e w1 ⟨rfl, M1⟩
        have N1 : Mo wr w1 := (Mor.out : Mo wr _).trans M1
        clear M1
        --@@ number
        go_wp2_with fail
        refine (NU.out _ (N1.trans Mor.out)).mono ?_
        rintro e w2 ⟨rfl, M2⟩
        have N2 : Mo wr w2 := N1.trans ((Mor.out : Mo w1 _).trans M2)
        clear M2 N1 NU
        by_cases c2 : whoD d ∈ ns
        · obtain ⟨z, hz⟩ : ∃ z, numI ns (whoD d) = z := ⟨_, rfl⟩
          have hz0 : decide (z < 0) = false := decide_eq_false (by rw [← hz]; exact fun q => (numI_neg.1 q) c2)
          rw [hz]
          have V2 := Lib.hid (HV.out.mo N2)
          have M2 := Lib.hid (HM.out.trans N2)
          have E := Lib.hid (HOLD.out (.inl c2))
          clear c2 hz N2 HV HM HLD ld OF HOLD HNEW
          go_wp2_with fail
          go_roundw
          case rel => exact ⟨j + 1, _, by omega, rfl, by go_num, by rw [E.out]; exact V2.out.mo Mor.out, M2.out.trans Mor.out⟩
          case measure => simp [intOf]; omega
        · obtain ⟨z, hz⟩ : ∃ z, numI ns (whoD d) = z := ⟨_, rfl⟩
          have hz0 : decide (z < 0) = true := decide_eq_true (by rw [← hz]; exact numI_neg.2 c2)
          rw [hz]
          have V2 := HV.out.mo N2
          have M2 := HM.out.trans N2
          have E := Lib.hid (HNEW.out c2 c1)
          have ld2 := HLD.out w2 N2
          have zg2 : LtW g w2 := ⟨Nat.lt_of_lt_of_le zg.out N2.size⟩
          clear c2 hz N2 HV HM HLD ld HOLD HNEW zg
          --@@ of2
          go_wp2_with fail
          refine (OF.out _).mono ?_
          rintro e w3 ⟨rfl, M3⟩
          have V3 := V2.mo ((Mor.out : Mo w2 _).trans M3)
          have N3 := M2.trans ((Mor.out : Mo w2 _).trans M3)
          clear M3 V2 M2 ld2 zg2 OF
          generalize whoD d = a at *
          have row3 := V3.row
          rw [HK.out] at row3
          obtain ⟨g6, c6, w6, hrun, hown, K6⟩ := app_adr w3 W.heap.size k _ _ a row3 (by rw [flat_lenP (fun a => a) 17 ns (fun x hx => (V3.ok x hx).z), HK.out]) (by omega) N3.size
          have V6 : Hid (AdsIs W.heap.size w6 (.slice (some ⟨g6, 0, none⟩) (k + 1) c6) (ns ++ [a])) := Lib.hid ⟨by rw [List.length_append, List.length_singleton, HK.out, List.flatMap_append]; simpa using hown, fun x hx => by
            rcases List.mem_append.1 hx with q | q
            · exact V3.ok x q
            · rw [List.mem_singleton] at q
              subst q
              exact WOK.out⟩
          have M6 : Hid (Mo W w6) := Lib.hid (K6.mo N3 fun i _ e => by
            rcases row3.2 with ⟨e0, _⟩ | ⟨g', _, _, e0, hb, _⟩
            · rw [e0] at e; simp [Value.ownBlock] at e
            · rw [e0] at e
              have : g' = i := by simpa [Value.ownBlock] using e
              omega)
          clear hown K6 V3 N3 row3
          --@@ append
          go_wp2_with fail
          go_roundw
          case rel => exact ⟨j + 1, _, by omega, rfl, by go_num, by rw [E.out]; exact V6.out.mo Mor.out, M6.out.trans Mor.out⟩
          case measure => simp [intOf]; omega
      · have d1 : decide ((k : Int) < sv) = false := decide_eq_false c1
        have E := Lib.hid (HOLD.out (.inr (by omega)))
        clear HLD ld OF HOLD HNEW NU c1
        --@@ full
        go_wp2_with fail
        go_roundw
        case rel => exact ⟨j + 1, _, by omega, rfl, by go_num, by rw [E.out]; exact HV.out.mo Mor.out, HM.out.trans Mor.out⟩
        case measure => simp [intOf]; omega
    · obtain rfl : j = n := by omega
      have e : l.take j = l := List.take_of_length_le (by rw [HL.out]; exact Nat.le_refl _)
      have HV : Hid (AdsIs W.heap.size wr (.slice A' k c') (nmS sv l)) := Lib.hid (by rw [← e, HNS.out]; exact hV)
      clear hV e HNS HK
      --@@ end
      go_wp2_with fail
      first | go_ret | skip
      exact ⟨_, rfl, HV.out.mo Mor.out, hM.trans Mor.out⟩
/-! ### samples in a row of their own -/
structure SmpsIs (b : Nat) (w : World) (v : Value) (l : List Smp) : Prop where
  row : w.ownsRow b 45 48 v l.length (l.flatMap fun S => (smpC S).toList)
  ok : ∀ S ∈ l, SmpOk S
set_option maxRecDepth 20000 in
theorem SmpsIs.mo {b : Nat} {w w' : World} {v : Value} {l : List Smp} (h : SmpsIs b w v l) (m : Mo w w') : SmpsIs b w' v l := ⟨owns_mo h.row m, h.ok⟩
set_option maxRecDepth 20000 in
theorem smps_nil (b : Nat) (w : World) : SmpsIs b w (.slice none 0 0) [] := ⟨⟨rfl, .inl ⟨rfl, rfl⟩⟩, fun a h => by cases h⟩
set_option maxRecDepth 20000 in
theorem SmpsIs.len {b : Nat} {w : World} {v : Value} {l : List Smp} (h : SmpsIs b w v l) : ∃ A c, v = .slice A l.length c := own_slS h.row
set_option maxRecDepth 20000 in
theorem smpC_hiP {S : Smp} (h : S.f.size = 36) (k : Nat) : (smpC S)[36 + k]? = (#[.int .i64 (hiW S.t1), .int .u64 (loW S.t1), .int .i64 (hiW S.t2), .int .u64 (loW S.t2), .int .i64 (hiW S.t3), .int .u64 (loW S.t3), .int .i64 (hiW S.t4), .int .u64 (loW S.t4), .int .i64 S.o, .int .i64 S.d, .int .i64 S.s, .int .u8 S.st] : Array Value)[k]? := by
  rw [Array.getElem?_append, if_neg (by omega), h, Nat.add_sub_cancel_left]
set_option maxRecDepth 20000 in
theorem SmpsIs.cell {b n c : Nat} {w : World} {A : Option Addr} {l : List Smp} (h : SmpsIs b w (.slice A n c) l) (i : Nat) (hi : i < l.length) : ∃ g, A = some ⟨g, 0, none⟩ ∧ LtW g w ∧ ∀ k u, (smpC l[i])[k]? = some u → w.cell? ⟨g, i * 48 + k, none⟩ = some u := by
  have hr := h.row
  obtain rfl : n = l.length := by
    rcases hr.2 with ⟨e, e0⟩ | ⟨g, cap, cur, e, _⟩
    · injection e with _ e1 _
      omega
    · injection e with _ e1 _
  obtain ⟨g, rfl⟩ := own_adrE hr (by omega)
  have R := own_row hr
  have all : ∀ x ∈ l, (smpC x).size = 48 := fun x hx => smpC_size (h.ok x hx).f
  have z := all _ (List.getElem_mem hi)
  have key : ∀ k u, (smpC l[i])[k]? = some u → w.cell? ⟨g, i * 48 + k, none⟩ = some u := fun k u hu => by
    have hk : k < 48 := by have := (Array.getElem?_eq_some_iff.1 hu).1; omega
    exact R _ _ ((flat_getP smpC 48 l i k hi all hk).trans hu)
  exact ⟨g, rfl, LtW.of_cell (key 0 _ (Array.getElem?_eq_getElem (by omega))), key⟩
set_option maxRecDepth 20000 in
theorem SmpsIs.od {b n c : Nat} {w : World} {A : Option Addr} {l : List Smp} (h : SmpsIs b w (.slice A n c) l) (i : Nat) (hi : i < l.length) : ∃ g, A = some ⟨g, 0, none⟩ ∧ LtW g w ∧ w.cell? ⟨g, i * 48 + 44, none⟩ = some (.int .i64 (l[i]).o) ∧ w.cell? ⟨g, i * 48 + 45, none⟩ = some (.int .i64 (l[i]).d) := by
  obtain ⟨g, e, z, k⟩ := h.cell i hi
  have hf := (h.ok _ (List.getElem_mem hi)).f
  exact ⟨g, e, z, k 44 _ (smpC_hiP hf 8), k 45 _ (smpC_hiP hf 9)⟩
/-- the least delay of a window, as the reference seeks it -/
def bestW (l : List Smp) (p j : Nat) : OD := bestF ((l.map odS).getD p (0, 0)) (((l.map odS).drop p).take (j - p))
set_option maxRecDepth 20000 in
theorem bestW_0 {l : List Smp} {p : Nat} (h : p < l.length) : bestW l p p = odS l[p] := by
  unfold bestW
  rw [Nat.sub_self, List.take_zero]
  simp [bestF, h]
set_option maxRecDepth 20000 in
theorem bestW_s {l : List Smp} {p j : Nat} (hp : p ≤ j) (h : j < l.length) : bestW l p (j + 1) = if (l[j]).d < (bestW l p j).2 then odS l[j] else bestW l p j := by
  unfold bestW
  rw [show j + 1 - p = (j - p) + 1 by omega, bestF_take _ _ _ (by rw [List.length_drop, List.length_map]; omega)]
  have e : ((l.map odS).drop p)[j - p]'(by rw [List.length_drop, List.length_map]; omega) = odS l[j] := by
    rw [List.getElem_drop, List.getElem_map]
    congr 2
    omega
  rw [e]
  rfl
set_option maxRecDepth 20000 in
theorem bestW_e {l : List Smp} {p q : Nat} (hp : p < q) (h : q ≤ l.length) : bestO (((l.map odS).drop p).take (q - p)) = (bestW l p q).1 := by
  unfold bestW
  have hl : p < (l.map odS).length := by rw [List.length_map]; omega
  rw [List.drop_eq_getElem_cons hl, show q - p = (q - p - 1) + 1 by omega, List.take_succ_cons]
  unfold bestO bestF
  rw [List.foldl_cons]
  have e : (l.map odS).getD p (0, 0) = (l.map odS)[p] := by simp [List.getD, List.getElem?_eq_getElem hl]
  rw [e, if_neg (by omega)]
set_option maxRecDepth 20000 in
set_option maxHeartbeats 8000000 in
theorem rbest36_any {b : Nat} {W : World} {v : Value} {l : List Smp} (h : SmpsIs b W v l) (p q : Nat) (hp : p < q) (hq : q ≤ l.length) (hl : l.length ≤ 1000) :
    Calls Try.prog 41 #[v, .int .i64 (p : Nat), .int .i64 (q : Nat)] W fun e w' => ∃ a : Nat, e = .returned (.int .i64 (a : Nat)) ∧ (∃ S, l[a]? = some S ∧ S.o = bestO (((l.map odS).drop p).take (q - p))) ∧ Mo W w' := by
  obtain ⟨A, c, rfl⟩ := h.len
  have HN := Lib.hid h
  obtain ⟨n, hnl⟩ : ∃ n, l.length = n := ⟨_, rfl⟩
  have HL := Lib.hid hnl
  rw [hnl] at hq hl ⊢
  rw [hnl] at HN
  have HE := Lib.hid (bestW_e (l := l) hp (by rw [HL.out]; exact hq))
  rw [HE.out]
  have hpl : p < l.length := by rw [HL.out]; omega
  have B0 := Lib.hid (bestW_0 (l := l) (p := p) hpl)
  clear h hnl HE
  go_enter Try.func41, Try.ntmps41
  --@@ loop
  go_wp2_with fail
  go_loopw [7, 8] (fun s7 s8 wr => ∃ j a : Nat, p ≤ j ∧ j ≤ q ∧ s7 = .int .i64 a ∧ s8 = .int .i64 j ∧ (∃ ha : a < l.length, odS l[a] = bestW l p j) ∧ Mo W wr) (fun _ s8 _ => q - (intOf s8).toNat)
  case atStart => exact ⟨p, p, by omega, by omega, rfl, rfl, ⟨hpl, B0.out.symm⟩, Mor.out⟩
  case round =>
    obtain ⟨j, a, pj, hj, rfl, rfl, ⟨ha, hA⟩, hM⟩ := hrel
    by_cases cj : j < q
    · have hjl : j < l.length := by rw [HL.out]; omega
      have HB := Lib.hid (bestW_s (l := l) pj hjl)
      obtain ⟨g, rfl, zg, y1, y2⟩ := (HN.out.mo hM).od j hjl
      obtain ⟨g', eg, _, z1, z2⟩ := (HN.out.mo hM).od a ha
      obtain rfl : g = g' := by injection eg with eg; injection eg
      have ha' : a < n := by rw [← HL.out]; exact ha
      have hj' : j < n := by rw [← HL.out]; exact hjl
      have i0 : (0 : Int) ≤ j := by omega
      have i1 : (0 : Int) ≤ a := by omega
      have i2 : (j : Int) < q := by omega
      have i3 : (j : Int) < n := by omega
      have i4 : (a : Int) < n := by omega
      have hw : IntKind.i64.wrap ((j : Int) + 1) = j + 1 := by rw [IntKind.wrap_i64]; omega
      have e2 : (bestW l p j).2 = (l[a]).d := by rw [← hA]; rfl
      rw [e2] at HB
      have HA := Lib.hid hA
      clear eg cj
      by_cases cd : (l[j]).d < (l[a]).d
      · have HR : Hid (odS l[j] = bestW l p (j + 1)) := Lib.hid (by rw [HB.out, if_pos cd])
        have dd : decide ((l[j]).d < (l[a]).d) = true := decide_eq_true cd
        clear hA e2 HB cd
        generalize (l[j]).d = dj at *
        generalize (l[a]).d = da at *
        go_upto_region 5 with (fail)
        first | (refine wp_region_mo (by kernel_rfl) (by kernel_rfl) ?_) | (refine wp_region_mo' (by kernel_rfl) (by kernel_rfl) ?_)
        repeat (go_big_quiet_step (fail))
        refine wpQuiet_nil ?_
        intro _ hw'
        obtain ⟨⟨J9, d9⟩, hw''⟩ := hw'
        subst hw''
        go_wp2_with fail
        go_roundw
        case rel => exact ⟨j + 1, j, by omega, by omega, rfl, by go_num, ⟨hjl, HR.out⟩, hM.trans Mor.out⟩
        case measure => simp [intOf]; omega
      · have HR : Hid (odS l[a] = bestW l p (j + 1)) := Lib.hid (by rw [HB.out, if_neg cd]; exact hA)
        have dd : decide ((l[j]).d < (l[a]).d) = false := decide_eq_false cd
        clear hA e2 HB cd
        generalize (l[j]).d = dj at *
        generalize (l[a]).d = da at *
        go_upto_region 5 with (fail)
        first | (refine wp_region_mo (by kernel_rfl) (by kernel_rfl) ?_) | (refine wp_region_mo' (by kernel_rfl) (by kernel_rfl) ?_)
        repeat (go_big_quiet_step (fail))
        refine wpQuiet_nil ?_
        intro _ hw'
        obtain ⟨⟨J9, d9⟩, hw''⟩ := hw'
        subst hw''
        go_wp2_with fail
        go_roundw
        case rel => exact ⟨j + 1, a, by omega, by omega, rfl, by go_num, ⟨ha, HR.out⟩, hM.trans Mor.out⟩
        case measure => simp [intOf]; omega
    · obtain rfl : j = q := by omega
      have HA := Lib.hid (show (l[a]).o = (bestW l p j).1 by rw [← hA]; rfl)
      clear hA
      go_wp2_with fail
      first | go_ret | skip
      exact ⟨a, rfl, ⟨_, List.getElem?_eq_getElem ha, HA.out⟩, hM.trans Mor.out⟩
end Go.Proofs.Ythgkhllkhhnlpaa
