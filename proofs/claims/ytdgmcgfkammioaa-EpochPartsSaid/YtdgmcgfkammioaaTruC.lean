/- law33: the reference's Find. -/
import Derived.Test.YtdgmcgfkammioaaTruB
namespace Go.Proofs.Ytdgmcgfkammioaa
open Go.RowKit

def trueT (l : List Iv) (i : Iv) (j : Nat) : List Nat := (List.range j).filter fun k => l[k]?.any (meets i)
set_option maxRecDepth 20000 in
theorem trueT_all (l : List Iv) (i : Iv) : trueT l i l.length = trueL l i := rfl
set_option maxRecDepth 20000 in
theorem trueT_yes (l : List Iv) (i : Iv) (j : Nat) (hj : j < l.length) (h : meets i l[j] = true) : trueT l i (j + 1) = trueT l i j ++ [j] := by
  unfold trueT
  rw [List.range_succ, List.filter_append]
  simp [List.getElem?_eq_getElem hj, h]
set_option maxRecDepth 20000 in
theorem trueT_no (l : List Iv) (i : Iv) (j : Nat) (hj : j < l.length) (h : meets i l[j] = false) : trueT l i (j + 1) = trueT l i j := by
  unfold trueT
  rw [List.range_succ, List.filter_append]
  simp [List.getElem?_eq_getElem hj, h]
set_option maxRecDepth 20000 in
theorem trueT_len (l : List Iv) (i : Iv) (j : Nat) : (trueT l i j).length ≤ j := by
  unfold trueT
  exact Nat.le_trans (List.length_filter_le _ _) (by simp)
def natL (xs : List Nat) : List Value := xs.map fun (k : Nat) => .int .i64 (k : Int)
set_option maxRecDepth 20000 in
theorem natL_snoc (xs : List Nat) (k : Nat) : natL (xs ++ [k]) = natL xs ++ [.int .i64 (k : Int)] := by unfold natL; rw [List.map_append]; rfl
set_option maxRecDepth 20000 in
theorem infoInt : (Try.prog.info? 3).map (fun i => (i.zero, i.size, i.bytes)) = some (some (.int .i64 0), 1, 8) := by kernel_rfl
set_option maxRecDepth 20000 in
theorem results_cttt {fn : Func} {s p u q : Tmp} {ty : TypeId} (h : fn.results = #[.cell p ty, .tmp s, .tmp u, .tmp q]) (tmps : Array Value) (P : Program) (w : World) :
    (results fn tmps).run P w =
      ((asAddr (tmps.getD p undef)).run P w).andThen fun a w₁ => ((loadVar ty a).run P w₁).andThen fun v w₂ => .ok (.tuple #[v, tmps.getD s undef, tmps.getD u undef, tmps.getD q undef]) w₂ := by
  simp only [results, h]
  simp [Sem.run_bind, Result.andThen]
set_option maxRecDepth 20000 in
theorem ret_cttt {fn : Func} {s p u q : Tmp} {T : TypeId} {R : Ending → World → Prop} {a : Act} {w : World} (hr : fn.results = #[.cell p T, .tmp s, .tmp u, .tmp q]) (g : Nat) (v : Value) (hp : a.tmps.getD p undef = .pointer (some ⟨g, 0, none⟩)) (hd : a.defers = [])
    (hl : (loadVar T ⟨g, 0, none⟩).run Try.prog w = .ok v w) (hR : R (.returned (.tuple #[v, a.tmps.getD s undef, a.tmps.getD u undef, a.tmps.getD q undef])) w) : bodyPost Try.prog fn R .ret a w :=
  bodyPost_ret (v := .tuple #[v, a.tmps.getD s undef, a.tmps.getD u undef, a.tmps.getD q undef]) (by
    rw [results_cttt hr, hp]
    have e : (asAddr (.pointer (some ⟨g, 0, none⟩))).run Try.prog w = .ok (⟨g, 0, none⟩ : Addr) w := rfl
    rw [e, Result.andThen_ok, hl, Result.andThen_ok]) hd hR
/-- what the reference's Find returns -/
def RFindRet (l : List Iv) (W : World) (e : Ending) (w' : World) : Prop := Mo W w' ∧
  ((∃ i f v, IsFind l (some (i, f)) ∧ e = .returned (.tuple #[.agg (ivC i), .int .i64 (f : Nat), v, .bool true]) ∧ w'.ownsRow W.heap.size 3 1 v (trueL l i).length (natL (trueL l i))) ∨
   (IsFind l none ∧ e = .returned (.tuple #[.agg #[.int .i64 0, .int .i64 0], .int .i64 0, .slice none 0 0, .bool false])))
set_option maxRecDepth 20000 in
theorem owns_base {w : World} {b b' : Nat} {e : TypeId} {size : Nat} {v : Value} {n : Nat} {xs : List Value} (h : w.ownsRow b e size v n xs) (hb : b' ≤ b) : w.ownsRow b' e size v n xs := by
  refine ⟨h.1, ?_⟩
  rcases h.2 with hn | ⟨g, cap, cur, rfl, hg, rest⟩
  · exact .inl hn
  · exact .inr ⟨g, cap, cur, rfl, Nat.le_trans hb hg, rest⟩
set_option maxRecDepth 20000 in
theorem owns_setCell_blk {w : World} {b s n R : Nat} {e t : TypeId} {v : Value} {xs : List Value} {cs : Array Value} (h : w.ownsRow b e s v n xs) (k : Blk w R t cs) (ne : t ≠ e) (i : Nat) (u : Value) : (w.setCell ⟨R, i, none⟩ u).ownsRow b e s v n xs := by
  refine ⟨h.1, ?_⟩
  rcases h.2 with q | ⟨g, cap, cur, rfl, hb, hg, rest⟩
  · exact .inl q
  · refine .inr ⟨g, cap, cur, rfl, hb, (heap_setCell_other w ⟨R, i, none⟩ g u (fun e => ?_)).trans hg, rest⟩
    obtain rfl : g = R := e
    have := k.out.symm.trans hg
    simp at this
    exact ne this.2
attribute [local go_sem] blk_cell' blk_frozen'
set_option maxRecDepth 20000 in
set_option maxHeartbeats 8000000 in
theorem rfind_any (l : List Iv) (A : Option Addr) (c : Nat) (W : World) (hR : IvRow W A l) (hl : l.length ≤ 65536) :
    Calls Try.prog 28 #[.slice A l.length c] W (RFindRet l W) := by
  obtain ⟨P, hP⟩ : ∃ P, RFindRet l W = P := ⟨_, rfl⟩
  rw [hP]
  have RR := Lib.hid hP
  have HR := Lib.hid hR
  have HA := Lib.hid (fun (m : Nat) (hm : 0 < m) w (M : Mo W w) => ragreed_any l A c m w (hR.mo M) hl hm)
  clear hR hP
  obtain ⟨N, hN⟩ : ∃ N, l.length = N := ⟨_, rfl⟩
  have HN := Lib.hid hN
  rw [hN] at hl HA ⊢
  clear hN
  obtain ⟨i0, hi0, hz0, hz1, hz2⟩ := info_parts infoInt
  go_enter Try.func28, Try.ntmps28
  go_wp2_with fail
  go_loopw [6] (fun i wr => ∃ f : Nat, f ≤ N ∧ i = .int .i64 f ∧ (∀ f', f' < f → IsAgr l (N - f') none) ∧ Blk wr W.heap.size 79 #[.int .i64 0, .int .i64 0] ∧ Mo W wr) (fun i _ => N - (intOf i).toNat)
  case atStart => exact ⟨0, by omega, rfl, fun _ h => absurd h (by omega), inferInstance, Mor.out⟩
  case round =>
    obtain ⟨f, hf, rfl, hno, hB, hM⟩ := hrel
    have HNO := Lib.hid hno
    clear hno
    have w2 : IntKind.i64.wrap ((f : Int) + f) = 2 * f := by rw [IntKind.wrap_i64]; omega
    have w3 : IntKind.i64.wrap ((N : Int) - f) = N - f := by rw [IntKind.wrap_i64]; omega
    by_cases cf : 2 * f < N
    · have d1 : decide (2 * (f : Int) < N) = true := decide_eq_true (by omega)
      have HA' := HA.out (N - f) (by omega)
      rw [show (((N - f : Nat)) : Int) = N - f by omega] at HA'
      go_wp2_with fail
      refine (HA' _ (hM.trans Mor.out)).mono ?_
      rintro e w1 ⟨⟨o, ho, rfl⟩, M1⟩
      have N1 := hM.trans M1
      have B1 := M1.blk hB
      clear M1 hM hB
      have HO := Lib.hid ho
      cases o with
      | none =>
        simp only [ivO, Option.isSome_none]
        go_wp2_with fail
        go_roundw
        case rel => exact ⟨f + 1, by omega, by go_num, fun f' hf' => by
          by_cases e : f' = f
          · rw [e]; exact HO.out
          · exact HNO.out f' (by omega), inferInstance, N1.trans Mor.out⟩
        case measure => simp [intOf]; omega
      | some x =>
        simp only [ivO, Option.isSome_some]
        have IF : Hid (IsFind l (some (x, f))) := Lib.hid ⟨by rw [HN.out]; exact cf, by rw [HN.out]; exact HO.out, fun f' hf' => by rw [HN.out]; exact HNO.out f' hf'⟩
        clear HO ho HNO HA HA'
        obtain ⟨xl, xh⟩ := x
        go_upto_region 5 with (fail)
        refine wp_name ?_
        intro wx hwx
        have BX : Blk wx w1.heap.size 79 #[.int .i64 xl, .int .i64 xh] := by rw [hwx]; infer_instance
        have BR : Blk wx W.heap.size 79 #[.int .i64 0, .int .i64 0] := by rw [hwx]; infer_instance
        have MX : Mo W wx := by rw [hwx]; exact N1.trans Mor.out
        have SX : W.heap.size < w1.heap.size := B1.lt
        clear hwx B1 N1
        go_wp2_with fail
        go_loopw [9, 10] (fun v k wr => ∃ j : Nat, j ≤ N ∧ k = .int .i64 j ∧ wr.ownsRow wx.heap.size 3 1 v (trueT l ⟨xl, xh⟩ j).length (natL (trueT l ⟨xl, xh⟩ j)) ∧ Mo wx wr) (fun _ k _ => N - (intOf k).toNat)
        case atStart => exact ⟨0, by omega, rfl, ⟨rfl, .inl ⟨rfl, rfl⟩⟩, Mo.refl _⟩
        case round =>
          obtain ⟨j, hj, rfl, hown, hM⟩ := hrel
          have OW := Lib.hid hown
          clear hown
          have BX' := hM.blk BX
          have BR' := hM.blk BR
          by_cases cj : j < N
          · have hjl : j < l.length := by rw [HN.out]; exact cj
            obtain ⟨g, off, rfl, hc⟩ := (HR.out.mo (MX.trans hM)).resolve_left (fun e => by rw [e] at hjl; simp at hjl)
            obtain ⟨y0, y1⟩ := hc j hjl
            clear hc
            have z0 : LtW g wr := LtW.of_cell y0
            have e0 : (0 : Int) ≤ j := by omega
            have e1 : (j : Int) < N := by omega
            have TY := Lib.hid (trueT_yes l ⟨xl, xh⟩ j hjl)
            have TN := Lib.hid (trueT_no l ⟨xl, xh⟩ j hjl)
            unfold meets at TY TN
            have tl := trueT_len l ⟨xl, xh⟩ j
            obtain ⟨lo, elo⟩ : ∃ y, l[j].lo = y := ⟨_, rfl⟩
            obtain ⟨hi, ehi⟩ : ∃ y, l[j].hi = y := ⟨_, rfl⟩
            rw [elo] at y0 TY TN
            rw [ehi] at y1 TY TN
            simp only at TY TN
            clear elo ehi hjl
            by_cases c1 : xl ≤ hi
            · have d1 : decide (xl ≤ hi) = true := decide_eq_true c1
              by_cases c2 : lo ≤ xh
              · have d2 : decide (lo ≤ xh) = true := decide_eq_true c2
                have TT := Lib.hid (TY.out (by rw [d1, d2]; rfl))
                clear TY TN
                go_upto_region 10 with (fail)
                go_region
                go_wp2_with (at_builtin; refine wpList_append_own _ rfl _ _ 36 rfl wx.heap.size 3 i0 (.int .i64 0) 1 8 Try.underlying36 hi0 hz0 hz1 hz2 rfl (by decide) _ _ _ rfl (owns_mo OW.out Mor.out) ⟨wr.heap.size, 0, none⟩ 1 1 [.int .i64 j] rfl rfl ?c1 ?c2 ?c3 ?c4 ?c5 ?_)
                case c1 => exact cell_one_new _ _ _
                case c2 => simp [Value.oneCell']
                case c3 => unfold maxLen; omega
                case c4 => omega
                case c5 => have := hM.size; simp; omega
                intro v' w5 hown1 hgrow _
                have OW1 := Lib.hid hown1
                have hM1 : Mo wx w5 := mo_grown (hM.trans Mor.out) hgrow (fun k e => (OW.out.lt k e).1)
                clear hown1 hgrow
                go_wp2_with fail
                go_roundw
                case rel => exact ⟨j + 1, by omega, by go_num, by rw [TT.out, natL_snoc, List.length_append]; exact OW1.out, hM1⟩
                case measure => simp [intOf]; omega
              · have d2 : decide (lo ≤ xh) = false := decide_eq_false c2
                have TT := Lib.hid (TN.out (by rw [d1, d2]; rfl))
                clear TY TN
                go_upto_region 10 with (fail)
                go_region
                go_wp2_with fail
                go_roundw
                case rel => exact ⟨j + 1, by omega, by go_num, by rw [TT.out]; exact owns_mo OW.out Mor.out, hM.trans Mor.out⟩
                case measure => simp [intOf]; omega
            · have d1 : decide (xl ≤ hi) = false := decide_eq_false c1
              have TT := Lib.hid (TN.out (by rw [d1]; simp))
              clear TY TN
              go_upto_region 10 with (fail)
              go_region
              go_wp2_with fail
              go_roundw
              case rel => exact ⟨j + 1, by omega, by go_num, by rw [TT.out]; exact owns_mo OW.out Mor.out, hM.trans Mor.out⟩
              case measure => simp [intOf]; omega
          · obtain rfl : j = N := by omega
            go_wp2_with fail
            refine ret_cttt Try.results28 W.heap.size (.agg #[.int .i64 xl, .int .i64 xh]) rfl rfl (run_loadRIv _ _ _ _ (blk_setCell (blk_setCell BR' 0 _) 1 _) rfl) ?_
            rw [← RR.out]
            refine ⟨mo_setCell (mo_setCell (MX.trans hM) (Nat.le_refl _) 0 _) (Nat.le_refl _) 1 _, .inl ⟨⟨xl, xh⟩, f, u9, IF.out, rfl, ?_⟩⟩
            have e : trueT l ⟨xl, xh⟩ j = trueL l ⟨xl, xh⟩ := by rw [← trueT_all, HN.out]
            rw [← e]
            exact owns_base (owns_setCell_blk (owns_setCell_blk OW.out BR' (by decide) 0 _) (blk_setCell BR' 0 _) (by decide) 1 _) MX.size
    · have d1 : decide (2 * (f : Int) < N) = false := decide_eq_false (by omega)
      go_wp2_with fail
      refine ret_cttt Try.results28 W.heap.size (.agg #[.int .i64 0, .int .i64 0]) rfl rfl (run_loadRIv _ _ _ _ (blk_setCell (blk_setCell hB 0 _) 1 _) rfl) ?_
      rw [← RR.out]
      exact ⟨mo_setCell (mo_setCell hM (Nat.le_refl _) 0 _) (Nat.le_refl _) 1 _, .inr ⟨fun f' hf' => by rw [HN.out] at hf' ⊢; exact HNO.out f' (by omega), rfl⟩⟩
end Go.Proofs.Ytdgmcgfkammioaa
