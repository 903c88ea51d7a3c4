/- epoch: what is told of the epoch that is going on: the walk of told. -/
import Derived.Test.YtdgmcgfkammioaaEpV
namespace Go.Proofs.Ytdgmcgfkammioaa
open Go.RowKit Go.Maps

set_option maxRecDepth 20000 in
theorem infoIv35 : (Try.prog.info? 97).map (fun i => (i.zero, i.size, i.bytes)) = some (some (.agg #[.int .i64 0, .int .i64 0]), 2, 16) := by kernel_rfl
set_option maxRecDepth 20000 in
theorem snoc_iv35 (l : List Iv) (j : Nat) (hj : j < l.length) : ivL (l.take (j + 1)) = ivL (l.take j) ++ [.int .i64 l[j].lo, .int .i64 l[j].hi] := by rw [take_snoc l j hj, ivL_snoc]
set_option maxRecDepth 20000 in
theorem ivsB_get {sv : Nat} {f : BestF} {j : Nat} (h : j < (ivsB sv f).length) (h' : j < (keysB sv f).length) : (ivsB sv f)[j] = ivP ((f (keysB sv f)[j]).getD (0, 0)) := List.getElem_map _
set_option maxRecDepth 20000 in
theorem natI_get35 {xs : List Nat} {j : Nat} (h' : j < xs.length) : (natI xs)[j]'(by rw [natI_length]; exact h') = (xs[j] : Int) := List.getElem_map _
set_option maxRecDepth 20000 in
theorem trT_snoc (l : List Iv) (i : Iv) (srv : List Nat) (j : Nat) (hj : j < (trueL l i).length) : ((trueL l i).take (j + 1)).map (fun k => srv.getD k 0) = (((trueL l i).take j).map fun k => srv.getD k 0) ++ [srv.getD ((trueL l i)[j]) 0] := by
  rw [List.take_add_one, List.getElem?_eq_getElem hj, List.map_append]
  rfl
set_option maxRecDepth 20000 in
instance (priority := low) mor_moc35 (a b : World) [h : MoC a b] : Mor a b := ⟨h.out⟩
set_option maxRecDepth 20000 in
theorem cell0_35 {w : World} {g : Nat} {t : TypeId} {v : Value} (h : Blk w g t #[v]) : w.cell? ⟨g, 0, none⟩ = some v := by rw [blk_cell h]; rfl
set_option maxRecDepth 20000 in
theorem keysS_blk (mb : Option Nat) (w : World) :
    Calls Try.prog 38 #[.map mb] w fun e w' => ∃ g, e = .returned (.func (.func 59) #[] #[.pointer (some ⟨g, 0, none⟩)]) ∧ Blk w' g 52 #[.map mb] ∧ Mo w w' :=
  (keysS_any mb w).mono fun e w' h => ⟨w.heap.size, h.1, by rw [h.2]; infer_instance, by rw [h.2]; exact Mor.out⟩
set_option maxRecDepth 20000 in
theorem buildF_ep (l : Array (Nat × Value)) : Instr.build 38 l = buildF 38 l := rfl
set_option maxRecDepth 20000 in
theorem run_build_ep1 (n : Int) (A : Option Addr) (k c : Nat) (w : World) : (buildF 38 #[(0, .int .i64 n), (1, .slice A k c)]).run Try.prog w = .ok (.agg #[.int .i64 n, .slice A k c, .bool false, .int .i64 0, .int .i64 0, .int .i64 0, .slice none 0 0]) w := run_build w _ _ _ (by kernel_rfl)
attribute [local go_sem] blk_cell' blk_frozen'
set_option maxRecDepth 20000 in
theorem storeF_ep (v x : Value) : Instr.storeAt 38 v x = storeF 38 v x := rfl
set_option maxRecDepth 20000 in
theorem loadF_ep (v : Value) : Instr.loadAt 38 v = loadF 38 v := rfl
attribute [local go_sem ↓] buildF_ep storeF_ep loadF_ep
attribute [local go_sem] run_build_ep1 run_storeF0 run_loadF0
set_option maxRecDepth 20000 in
set_option maxHeartbeats 16000000 in
theorem told_any (M B : Nat) (m : MkS) (W : World) (h : MkIs W M B m) :
    Calls Try.prog 25 #[.pointer (some ⟨M, 0, none⟩)] W fun e w' => ∃ E v, IsTold m.num m.sv m.f E ∧ e = .returned v ∧ EpF w' E v ∧ Mo W w' := by
  have HB := Lib.hid h.b
  have HM := Lib.hid h
  have bM := h.bm
  have hs : m.sv ≤ 65536 := by have := h.s1; omega
  have KS := Lib.hid (fun w => keysS_blk (some B) w)
  have SS := Lib.hid (fun w g (M : Mo W w) (hg : w.cell? ⟨g, 0, none⟩ = some (.map (some B))) => sortedS_any w g B m.sv m.f hs hg (h.b.keep (M.below.block B h.b.lt)))
  have KN := keysB_len m.sv m.f
  have h256 := h.s1
  have IB := Lib.hid (fun (j : Nat) (hj : j < (keysB m.sv m.f).length) => (keysB_mem.1 (List.getElem_mem hj)))
  obtain ⟨N, hN⟩ : ∃ N, (keysB m.sv m.f).length = N := ⟨_, rfl⟩
  have HN := Lib.hid hN
  rw [hN] at KN SS
  obtain ⟨iv0, hv, vz0, vz1, vz2⟩ := info_parts infoIv35
  have HNI : Hid ((natI (keysB m.sv m.f)).length = N) := Lib.hid (by rw [natI_length]; exact hN)
  clear hN h
  go_enter Try.func25, Try.ntmps25
  --@@ r1
  go_upto_region 1 with (fail)
  refine wp_name ?_
  intro wA hwA
  have b2 : Blk wA W.heap.size 38 #[.int .i64 0, .slice none 0 0, .bool false, .int .i64 0, .int .i64 0, .int .i64 0, .slice none 0 0] := by rw [hwA]; infer_instance
  have MA : Mo W wA := by rw [hwA]; exact Mor.out
  have bA := MA.blk bM
  have ltA : W.heap.size < wA.heap.size := b2.lt
  have SA := Lib.hid (fun w g (M : Mo wA w) hg => SS.out w g (MA.trans M) hg)
  clear hwA bM SS
  --@@ held
  go_cut [3] (fun s3 wx => ∃ g3 A c, s3 = .pointer (some ⟨g3, 0, none⟩) ∧ wA.heap.size ≤ g3 ∧ Mo wA wx ∧ Blk wx g3 38 #[.int .i64 m.num, .slice A N c, .bool false, .int .i64 0, .int .i64 0, .int .i64 0, .slice none 0 0] ∧ IntT wx A (natI (keysB m.sv m.f)))
  case first =>
    go_region_held3 (fun w' => MoC wA w') (first | exact ⟨Mor.out⟩ | exact ⟨mo_setRow Mor.out (Mo.size Mor.out) _⟩)
      (first
        | ((with_reducible refine (KS.out _).mono ?_)
           rintro e wz ⟨gk, rfl, bk, M9⟩
           have iM9 : MoC _ wz := ⟨M9⟩
           have iR9 : Mor wA wz := ⟨(Mor.out : Mo wA _).trans M9⟩)
        | ((with_reducible refine (SA.out _ _ Mor.out (cell0_35 (t := 52) inferInstance)).mono ?_)
           rintro e wy ⟨vy, rfl, hrow, M9⟩
           obtain ⟨Ay, cy, rfl, hI⟩ := own_intT hrow HNI.out
           have iM9 : MoC _ wy := ⟨M9⟩
           have iR9 : Mor wA wy := ⟨(Mor.out : Mo wA _).trans M9⟩))
    all_goals (
      go_wp2_with fail
      go_meet
      first
      | exact ⟨_, Ay, cy, rfl, Mo.size Mor.out, Mor.out, inferInstance, hI.mo Mor.out⟩
      | exact ⟨_, Ay, cy, rfl, Mo.size Mor.out, mo_setRow Mor.out (Mo.size Mor.out) _, blk_setRow (inferInstance : Blk _ _ 38 #[.int .i64 0, .slice none 0 0, .bool false, .int .i64 0, .int .i64 0, .int .i64 0, .slice none 0 0]), hI.setRow (inferInstance : Blk _ _ 38 #[.int .i64 0, .slice none 0 0, .bool false, .int .i64 0, .int .i64 0, .int .i64 0, .slice none 0 0]) (by decide) _⟩)
  obtain ⟨g3, A3, c3, rfl, hg3, M1, b3, I3⟩ := hcut
  rename World => w1
  have b2 := M1.blk b2
  have b1 := M1.blk bA
  have N1 := MA.trans M1
  clear M1 MA bA SA KS HNI
  have HI3 := Lib.hid I3
  clear I3
  --@@ loop1
  go_wp2_with fail
  go_loopw [4, 27] (fun v i wr => ∃ j : Nat, j ≤ N ∧ i = .int .i64 j ∧ wr.ownsRow w1.heap.size 97 2 v j (ivL ((ivsB m.sv m.f).take j)) ∧ Mo w1 wr) (fun _ i _ => N - (intOf i).toNat)
  case atStart => exact ⟨0, by omega, rfl, ⟨rfl, .inl ⟨rfl, rfl⟩⟩, Mor.out⟩
  case round =>
    obtain ⟨j, hj, rfl, hown, hM⟩ := hrel
    have OW := Lib.hid hown
    clear hown
    by_cases cj : j < N
    · have hjl : j < (keysB m.sv m.f).length := by rw [HN.out]; exact cj
      obtain ⟨gS, off, rfl, hc⟩ := (HI3.out.row.mo hM).resolve_left (fun e => by have h0 := congrArg List.length e; rw [natI_length] at h0; have h1 : (keysB m.sv m.f).length = 0 := h0; omega)
      have y := hc j (by rw [natI_length]; exact hjl)
      obtain ⟨hlt, hsome⟩ := IB.out j hjl
      have hjv : j < (ivsB m.sv m.f).length := by rw [ivsB_len]; exact hjl
      have SN := Lib.hid (snoc_iv35 (ivsB m.sv m.f) j hjv)
      have ev : (ivsB m.sv m.f)[j] = ivP ((m.f (keysB m.sv m.f)[j]).getD (0, 0)) := ivsB_get hjv hjl
      rw [ev] at SN
      have ey : (natI (keysB m.sv m.f))[j]'(by rw [natI_length]; exact hjl) = ((keysB m.sv m.f)[j] : Int) := natI_get35 hjl
      rw [ey] at y
      generalize (keysB m.sv m.f)[j] = s at *
      obtain ⟨x, hx⟩ : ∃ x, m.f s = some x := Option.isSome_iff_exists.1 hsome
      have bl : BestIs wr B m.sv m.f := HB.out.keep ((N1.trans hM).below.block B HB.out.lt)
      have lk := bl.get hx hs
      have ok := HM.out.ok s x hx
      rw [hx] at SN
      obtain ⟨xo, xd⟩ := x
      have AR : Hid (∀ w, Calls Try.prog 39 #[.int .i64 xo, .int .i64 xd] w fun e w' => e = .returned (.agg #[.int .i64 (ivP (xo, xd)).lo, .int .i64 (ivP (xo, xd)).hi]) ∧ Mo w w') := Lib.hid fun w => around_any xo xd w ok.1 ok.2
      have z0 : LtW gS wr := LtW.of_cell y
      have e0 : (0 : Int) ≤ j := by omega
      have e1 : (j : Int) < N := by omega
      have bMr := hM.blk b1
      have SN : Hid (ivL ((ivsB m.sv m.f).take (j + 1)) = ivL ((ivsB m.sv m.f).take j) ++ [.int .i64 (ivP (xo, xd)).lo, .int .i64 (ivP (xo, xd)).hi]) := SN
      generalize (ivP (xo, xd)).lo = lo at *
      generalize (ivP (xo, xd)).hi = hi at *
      have hw : IntKind.i64.wrap ((j : Int) + 1) = j + 1 := by rw [IntKind.wrap_i64]; omega
      clear hc bl hx hsome hjv ev ey hjl ok hlt
      --@@ body
      go_wp2_with fail
      refine (AR.out _).mono ?_
      rintro e w5 ⟨rfl, M5⟩
      have QM : Mo w1 w5 := hM.trans ((Mor.out : Mo wr _).trans M5)
      have QO := Lib.hid (owns_mo OW.out ((Mor.out : Mo wr _).trans M5))
      clear M5 OW y z0 lk
      --@@ append
      go_wp2_with (at_builtin; refine wpList_append_own _ rfl _ _ 96 rfl w1.heap.size 97 iv0 (.agg #[.int .i64 0, .int .i64 0]) 2 16 Try.underlying96 hv vz0 vz1 vz2 rfl (by decide) _ _ _ rfl (owns_mo QO.out Mor.out) ⟨w5.heap.size, 0, none⟩ 1 1 [.int .i64 lo, .int .i64 hi] rfl rfl ?c1 ?c2 ?c3 ?c4 ?c5 ?_)
      case c1 => exact news_of_blk (inferInstance : Blk (w5.alloc (.cells #[.int .i64 lo, .int .i64 hi] 97)) w5.heap.size 97 #[.int .i64 lo, .int .i64 hi]) _ rfl
      case c2 => simp [Value.oneCell']
      case c3 => unfold maxLen; omega
      case c4 => omega
      case c5 => have := QM.size; simp; omega
      intro v' w6 hown1 hgrow _
      have PM : Mo w1 w6 := mo_grown (QM.trans Mor.out) hgrow (fun k e => (QO.out.lt k e).1)
      have OW1 := Lib.hid hown1
      clear hown1 hgrow
      --@@ next
      go_wp2_with fail
      go_roundw
      case rel => exact ⟨j + 1, by omega, by go_num, by rw [SN.out]; exact OW1.out, PM⟩
      case measure => simp [intOf]; omega
    · obtain rfl : j = N := by omega
      have e : (ivsB m.sv m.f).take j = ivsB m.sv m.f := List.take_of_length_le (by rw [ivsB_len, HN.out]; exact Nat.le_refl _)
      rw [e] at OW
      have HNV : Hid ((ivsB m.sv m.f).length = j) := Lib.hid (by rw [ivsB_len, HN.out])
      obtain ⟨A4, c4, rfl, R4⟩ := own_ivs OW.out HNV.out
      have MV := ivsB_may m.sv m.f
      have IV : InIv (ivsB m.sv m.f) := fun x hx => by
        obtain ⟨s, _, rfl⟩ := List.mem_map.1 hx
        exact ⟨(cl64_is _).1, (cl64_is _).2⟩
      have FI := Lib.hid (fun w (M : Mo wr w) => find_any (ivsB m.sv m.f) A4 c4 w (R4.mo M) (by rw [HNV.out]; omega) IV)
      rw [HNV.out] at FI
      --@@ find
      clear OW R4 e IV
      go_wp2_with fail
      refine (FI.out _ Mor.out).mono ?_
      intro e w5 h5
      have M5 := h5.1
      have H5 := Lib.hid h5.2
      clear h5 FI
      have H5' : (∃ i f v, IsFind (ivsB m.sv m.f) (some (i, f)) ∧ e = .returned (.tuple #[.agg (fdC i.lo i.hi (f : Nat) v), .int .i64 0]) ∧ w5.ownsRow wr.heap.size 3 1 v (trueL (ivsB m.sv m.f) i).length (natL (trueL (ivsB m.sv m.f) i))) ∨ (IsFind (ivsB m.sv m.f) none ∧ e = .returned (.tuple #[.agg (fdC 0 0 0 (.slice none 0 0)), .int .i64 4])) := by
        rcases H5.out with h | h | h
        · have := HNV.out; omega
        · exact absurd MV h.2.1
        · exact h.2.2
      have N5 := hM.trans M5
      clear H5 MV M5
      rcases H5' with ⟨i, f0, v, hfi, rfl, own⟩ | ⟨hno, rfl⟩
      · rw [natL_eq] at own
        obtain ⟨A5, c5, rfl, I5⟩ := own_intT own (natI_length _)
        have HFI := Lib.hid hfi
        have TL : (trueL (ivsB m.sv m.f) i).length ≤ j := by rw [← HNV.out]; exact trueT_len (ivsB m.sv m.f) i (ivsB m.sv m.f).length
        obtain ⟨n5, hn5⟩ : ∃ n, (trueL (ivsB m.sv m.f) i).length = n := ⟨_, rfl⟩
        have HN5 := Lib.hid hn5
        rw [hn5] at TL ⊢
        obtain ⟨lo, hi⟩ := i
        clear hfi own hn5
        --@@ found
        go_upto_region 12 with (fail)
        refine wp_name ?_
        intro w6 hw6
        have b8 : Blk w6 w5.heap.size 100 (fdC lo hi (f0 : Nat) (.slice A5 n5 c5)) := by rw [hw6]; infer_instance
        have M56 : Mo w5 w6 := by rw [hw6]; exact Mor.out
        have N6 := N5.trans M56
        have lt3 := b3.lt
        have ne83 : w5.heap.size ≠ g3 := by have := N5.size; omega
        have b3 := N6.blk b3
        have I5 := I5.mo M56
        clear hw6 b1 N5
        go_region
        --@@ r13
        go_upto_region 13 with (fail)
        refine wp_name ?_
        intro w7 hw7
        have b37 : Blk w7 g3 38 #[.int .i64 m.num, .slice A3 j c3, .bool true, .int .i64 lo, .int .i64 hi, .int .i64 (f0 : Nat), .slice none 0 0] := by rw [hw7]; exact ⟨(blk_setCell (blk_setCell (blk_setCell (blk_setCell b3 2 (.bool true)) 3 (.int .i64 lo)) 4 (.int .i64 hi)) 5 (.int .i64 (f0 : Nat))).out⟩
        have K67 : KpS (fun i => i = g3) w6 w7 := by rw [hw7]; exact (((((KpS.refl (fun i => i = g3) w6).cell rfl 2 _).cell rfl 3 _).cell rfl 4 _).cell rfl 5 _).drew35
        have b87 := K67.blk b8 ne83
        have I57 := I5.kp K67 fun g e => by rw [e]; exact noT_blk b3 (by decide)
        have HI37 := Lib.hid ((HI3.out.mo N6).kp K67 fun g e => by rw [e]; exact noT_blk b3 (by decide))
        have b27 := K67.blk (N6.blk b2) (show W.heap.size ≠ g3 by omega)
        have M7 : Mo W w7 := K67.mo (N1.trans N6) fun k _ e => by rw [e]; omega
        have lt7 : g3 < w7.heap.size := b37.lt
        have HI57 := Lib.hid I57
        clear hw7 b3 b8 K67 I5 I57 HI3 N6 M56 b2 ne83
        --@@ loop2
        go_wp2_with fail
        go_loopw [70] (fun i wr => ∃ (k : Nat) (T : Value), k ≤ n5 ∧ i = .int .i64 k ∧ KpS (fun i => i = g3) w7 wr ∧ Blk wr g3 38 #[.int .i64 m.num, .slice A3 j c3, .bool true, .int .i64 lo, .int .i64 hi, .int .i64 (f0 : Nat), T] ∧ wr.ownsRow w7.heap.size 3 1 T k (i64L (natI (((trueL (ivsB m.sv m.f) ⟨lo, hi⟩).take k).map fun q => (keysB m.sv m.f).getD q 0)))) (fun i _ => n5 - (intOf i).toNat)
        case atStart => exact ⟨0, _, by omega, rfl, KpS.refl _ _, b37, ⟨rfl, .inl ⟨rfl, rfl⟩⟩⟩
        case round =>
          rename World => wx
          obtain ⟨k, T, hk, rfl, hK, bx, hown⟩ := hrel
          have noT7 : ∀ g, g = g3 → NoT 3 w7 g := fun g e => by rw [e]; exact noT_blk b37 (by decide)
          by_cases ck : k < n5
          · have hkl : k < (trueL (ivsB m.sv m.f) ⟨lo, hi⟩).length := by rw [HN5.out]; exact ck
            obtain ⟨gS, off, rfl, hc⟩ := (HI57.out.kp hK noT7).row.resolve_left (fun e => by have h0 := congrArg List.length e; rw [natI_length] at h0; have h1 : (trueL (ivsB m.sv m.f) ⟨lo, hi⟩).length = 0 := h0; omega)
            have y := hc k (by rw [natI_length]; exact hkl)
            rw [natI_get35 hkl] at y
            have z0 : LtW gS wx := LtW.of_cell y
            have hq : (trueL (ivsB m.sv m.f) ⟨lo, hi⟩)[k] < j := by
              have := trueL_lt _ _ _ (List.getElem_mem hkl)
              rwa [HNV.out] at this
            have SN := Lib.hid (trT_snoc (ivsB m.sv m.f) ⟨lo, hi⟩ (keysB m.sv m.f) k hkl)
            generalize (trueL (ivsB m.sv m.f) ⟨lo, hi⟩)[k] = q at *
            have AD := Lib.hid (add35_any g3 k T (((trueL (ivsB m.sv m.f) ⟨lo, hi⟩).take k).map fun q => (keysB m.sv m.f).getD q 0) (keysB m.sv m.f) A3 q j c3 (.int .i64 m.num) (.int .i64 lo) (.int .i64 hi) (.int .i64 (f0 : Nat)) (.bool true) w7 wx bx (HI37.out.kp hK noT7) HN.out hq hown (by omega) hK lt7)
            rw [← SN.out] at AD
            have e0 : (0 : Int) ≤ k := by omega
            have e1 : (k : Int) < n5 := by omega
            have hw : IntKind.i64.wrap ((k : Int) + 1) = k + 1 := by rw [IntKind.wrap_i64]; omega
            clear hown bx hc hkl SN hq
            --@@ body2
            go_wp2_with fail
            refine AD.out.mono ?_
            rintro e wy ⟨rfl, T', by', ho', K'⟩
            have HO := Lib.hid ho'
            have HB' := Lib.hid by'
            have HK' := Lib.hid K'
            clear ho' by' K' AD y z0 hK
            go_wp2_with fail
            go_roundw
            case rel => exact ⟨k + 1, T', by omega, by go_num, HK'.out, HB'.out, HO.out⟩
            case measure => simp [intOf]; omega
          · obtain rfl : k = n5 := by omega
            have et : (trueL (ivsB m.sv m.f) ⟨lo, hi⟩).take k = trueL (ivsB m.sv m.f) ⟨lo, hi⟩ := List.take_of_length_le (by rw [HN5.out]; exact Nat.le_refl _)
            rw [et] at hown
            obtain ⟨A6, c6, rfl, I6⟩ := own_intT hown (by rw [natI_length, List.length_map]; exact HN5.out)
            have I3x := HI37.out.kp hK noT7
            have b2x := hK.blk b27 (show W.heap.size ≠ g3 by omega)
            have Mx : Mo W wx := hK.mo M7 fun q _ e => by rw [e]; omega
            have HI6 := Lib.hid I6
            have HI3x := Lib.hid I3x
            clear hown I6 I3x et noT7 hK
            --@@ end2
            go_wp2_with fail
            refine retV_c rfl W.heap.size #[.int .i64 m.num, .slice A3 j c3, .bool true, .int .i64 lo, .int .i64 hi, .int .i64 (f0 : Nat), .slice A6 k c6] rfl rfl rfl (blk_setRow b2x) ?_
            refine ⟨⟨m.num, keysB m.sv m.f, true, lo, hi, f0, (trueL (ivsB m.sv m.f) ⟨lo, hi⟩).map fun q => (keysB m.sv m.f).getD q 0⟩, _, ⟨_, HFI.out, rfl⟩, rfl, ⟨A3, c3, A6, c6, ?_, HI3x.out.setRow b2x (by decide) _, HI6.out.setRow b2x (by decide) _⟩, mo_setRow Mx (by omega) _⟩
            simp only [List.length_map]
            rw [HN.out, HN5.out]
      · --@@ none
        have lt3 := b3.lt
        have b35 := N5.blk b3
        have b25 := N5.blk b2
        have I35 := Lib.hid (HI3.out.mo N5)
        have M5 := N1.trans N5
        have HNO := Lib.hid hno
        clear b3 b2 b1 hno N5 N1 HI3 hM
        go_upto_region 11 with (fail)
        refine wp_name ?_
        intro w6 hw6
        have M56 : Mo w5 w6 := by rw [hw6]; exact Mor.out
        have b36 := M56.blk b35
        have b26 := M56.blk b25
        clear hw6 b35 b25
        --@@ none2
        go_wp2_with fail
        refine retV_c rfl W.heap.size #[.int .i64 m.num, .slice A3 j c3, .bool false, .int .i64 0, .int .i64 0, .int .i64 0, .slice none 0 0] rfl rfl rfl (blk_setRow b26) ?_
        refine ⟨⟨m.num, keysB m.sv m.f, false, 0, 0, 0, []⟩, _, ⟨_, HNO.out, rfl⟩, rfl, ⟨A3, c3, none, 0, ?_, (I35.out.mo M56).setRow b26 (by decide) _, .inl rfl⟩, mo_setRow (M5.trans M56) (by omega) _⟩
        rw [HN.out]
        rfl
end Go.Proofs.Ytdgmcgfkammioaa
