/- head.Put: the bytes of a header. -/
import Derived.Test.YtofbhkodnijkjaaHeadA
import Derived.Laws.BitsAllLaws
import Derived.LoopN
namespace Go.Proofs.Ytofbhkodnijkjaa
open Go.RowKit

set_option maxRecDepth 20000 in
theorem or3 (l v m : Int) (h1 : 0 ≤ l) (h2 : l < 4) (h3 : 0 ≤ v) (h4 : v < 8) (h5 : 0 ≤ m) (h6 : m < 8) : bits .or .u8 (bits .or .u8 (l * 64) (v * 8)) m = l * 64 + v * 8 + m := by
  obtain ⟨x, rfl⟩ := Int.eq_ofNat_of_zero_le h1
  obtain ⟨y, rfl⟩ := Int.eq_ofNat_of_zero_le h3
  obtain ⟨z, rfl⟩ := Int.eq_ofNat_of_zero_le h5
  have e1 : bits .or .u8 ((x : Int) * 64) ((y : Int) * 8) = ((x * 64 + y * 8 : Nat) : Int) := by
    rw [u8_or _ _ (by omega) (by omega) (by omega) (by omega), show ((x : Int) * 64).toNat = x * 64 by omega, show ((y : Int) * 8).toNat = y * 8 by omega, nat_join 6 _ _ (by omega) (by omega)]
  rw [e1, u8_or _ _ (by omega) (by omega) (by omega) (by omega), show ((x * 64 + y * 8 : Nat) : Int).toNat = x * 64 + y * 8 by omega, show ((z : Nat) : Int).toNat = z by omega, nat_join 3 _ _ (by omega) (by omega)]
  omega
set_option maxRecDepth 20000 in
theorem owns_of_blk {w : World} {g base n : Nat} {bs : List Int} (h : Blk w g 5 (byteL bs).toArray) (hl : bs.length = n) (hb : base ≤ g) (hn : n ≤ 100000) : w.ownsRow base 5 1 (.slice (some ⟨g, 0, none⟩) n n) n (byteL bs) :=
  ⟨by simp [hl], .inr ⟨g, n, _, rfl, hb, h.out, Nat.le_refl _, by unfold maxLen; omega, by simp [hl], by rw [Nat.mul_one]; exact List.take_of_length_le (by simp [hl])⟩⟩
def HPutRet (h : Hd) (W : World) (e : Ending) (w' : World) : Prop := ∃ v, e = .returned (.tuple #[v, .int .i64 (if mayH h = true then 0 else 2)]) ∧ ByteV w' v (if mayH h = true then hdB h else []) ∧ Mo W w'
attribute [local go_sem ↓] app_fold
set_option maxRecDepth 20000 in
theorem blk_cell' (w : World) (g i : Nat) (t : TypeId) (cs : Array Value) [h : Blk w g t cs] : w.cell? ⟨g, i, none⟩ = cs[i]? := blk_cell h i
set_option maxRecDepth 20000 in
theorem blk_frozen' (w : World) (g i : Nat) (t : TypeId) (cs : Array Value) [h : Blk w g t cs] : w.frozen? ⟨g, i, none⟩ = false := blk_frozen h i
attribute [local go_sem] blk_cell' blk_frozen'
set_option maxRecDepth 20000 in
set_option maxHeartbeats 8000000 in
theorem hput_any (h : Hd) (ok : HdOk h) (W : World) : Calls Try.prog 26 #[hdV h] W (HPutRet h W) := by
  obtain ⟨R, hR⟩ : ∃ R, HPutRet h W = R := ⟨_, rfl⟩
  rw [hR]
  have RR := Lib.hid hR
  clear hR
  by_cases cm : mayH h = true
  · have HM := Lib.hid cm
    have MA := Lib.hid (fun w => may_any h w)
    rw [cm] at MA
    have OK := Lib.hid ok
    have k1 := ok.l
    have k2 := ok.v
    have k3 := ok.m
    have r1 : IntKind.u64.wrap h.rd = h.rd := by rw [IntKind.wrap_u64]; have := ok.rd; omega
    have r2 : IntKind.u64.wrap h.rp = h.rp := by rw [IntKind.wrap_u64]; have := ok.rp; omega
    unfold mayH at cm
    simp only [Bool.and_eq_true, decide_eq_true_eq] at cm
    obtain ⟨⟨c1, c2⟩, c3⟩ := cm
    have o1 := or3 h.l h.v h.m k1.1 c1 k2.1 c2 k3.1 c3
    clear ok
    go_enter Try.func26, Try.ntmps26
    go_wp2_with fail
    refine (MA.out _).mono ?_
    rintro e w1 ⟨rfl, M1⟩
    have B0 : Blk w1 W.heap.size 39 (hdC h) := M1.blk inferInstance
    have M1' := (Mor.out : Mo W _).trans M1
    have hne : W.heap.size ≠ w1.heap.size + 1 := by have := M1'.size; omega
    have hW1 := B0.lt
    clear M1
    go_wp2_with fail
    refine (put1_any h.rd 4 (w1.heap.size + 1) w1.heap.size 4 _ [h.l * 64 + h.v * 8 + h.m, h.s, h.po % 256, h.pr % 256] _ ⟨OK.out.rd.1, Int.le_trans OK.out.rd.2 (by decide)⟩ (by omega) (by omega) inferInstance (owns_of_blk (g := w1.heap.size) inferInstance rfl (Nat.le_refl _) (by omega)) (by simp; omega)).mono ?_
    rintro e w2 ⟨rfl, v2, B2, O2, K2⟩
    have B0' : Blk w2 W.heap.size 39 (hdC h) := K2.2 _ _ _ hne (by decide) inferInstance
    have M2 : Mo w1 w2 := K2.1 w1 Mor.out (Nat.le_refl _) (by omega)
    clear K2
    go_wp2_with fail
    refine (put1_any h.rp 4 (w1.heap.size + 1) w1.heap.size 8 v2 _ _ ⟨OK.out.rp.1, Int.le_trans OK.out.rp.2 (by decide)⟩ (by omega) (by omega) inferInstance O2 M2.size).mono ?_
    rintro e w3 ⟨rfl, v3, B3, O3, K3⟩
    have B0'' : Blk w3 W.heap.size 39 (hdC h) := K3.2 _ _ _ hne (by decide) inferInstance
    have M3 : Mo w1 w3 := K3.1 w1 M2 (Nat.le_refl _) (by omega)
    clear K3 B2 O2 B0 B0' M2
    obtain ⟨g3, c3', rfl⟩ := ownsRow_succ (k := 11) O3
    go_upto_region 7 with (fail)
    obtain ⟨tb, hib, hb0, hb1, hb2⟩ := info_parts infoB
    obtain ⟨v4, w4, hrun, hown4, hgrow4, -, -⟩ := run_append_own_at (P := Try.prog) w3.drew w1.heap.size 31 31 5 tb (.int .u8 0) 1 1 Try.underlying31 hib hb0 hb1 hb2 rfl (by decide) _ _ _ (owns_mo O3 Mor.out) ⟨W.heap.size, 8, none⟩ 4 4 [.int .u8 h.a, .int .u8 h.b, .int .u8 h.c, .int .u8 h.d] rfl (by
      intro j u hj
      rw [Go.WideShapes.add_plain, blk_cell (w := w3.drew) (cs := hdC h) inferInstance]
      rcases j with _ | _ | _ | _ | j
      · exact hj
      · exact hj
      · exact hj
      · exact hj
      · simp at hj) (by intro u hu; simp at hu; rcases hu with rfl | rfl | rfl | rfl <;> rfl) (by unfold maxLen; omega) (by omega) M3.size
    replace hrun : (appAny #[31, 31] 31 #[.slice (some ⟨g3, 0, none⟩) 12 c3', .slice (some ⟨W.heap.size, 8, none⟩) 4 4]).run Try.prog _ = .ok v4 w4 := hrun
    obtain ⟨g4, c4, rfl⟩ := ownsRow_succ (k := 15) hown4
    have gne : some (w1.heap.size + 1) ≠ (Value.slice (some ⟨g3, 0, none⟩) 12 c3').ownBlock := (boxed_of B3).not_row (by decide) O3
    have B4 : Blk w4 (w1.heap.size + 1) 31 #[.slice (some ⟨g3, 0, none⟩) 12 c3'] := ⟨(hgrow4.block _ (by have := B3.lt; simpa using this) gne).trans B3.out⟩
    have gne0 : some W.heap.size ≠ (Value.slice (some ⟨g3, 0, none⟩) 12 c3').ownBlock := fun e => by
      have h1 := (O3.lt _ e.symm).1
      have := M1'.size
      have h2 := B0''.lt
      have h3 := (show LtW W.heap.size w1 from ⟨hW1⟩).out
      omega
    have B5 : Blk w4 W.heap.size 39 (hdC h) := ⟨(hgrow4.block _ (by have := B0''.lt; simpa using this) gne0).trans B0''.out⟩
    have M4 : Mo w1 w4 := mo_grown (M3.trans Mor.out) hgrow4 (fun j e => (O3.lt j e).1)
    have S4 := Lib.hid (owns_set_box hown4 (boxed_of B4) (by decide) (.slice (some ⟨g4, 0, none⟩) (12 + 4) c4))
    clear hown4 hgrow4 gne gne0 hib hb0 hb1 hb2 O3
    go_region
    clear B0'' M3 B3
    obtain ⟨w5, hw5⟩ : ∃ w5, w4.setCell ⟨w1.heap.size + 1, 0, none⟩ (.slice (some ⟨g4, 0, none⟩) 16 c4) = w5 := ⟨_, rfl⟩
    have B6 : Blk w5 (w1.heap.size + 1) 31 #[.slice (some ⟨g4, 0, none⟩) 16 c4] := by rw [← hw5]; exact blk_setCell B4 0 _
    have B7 : Blk w5 W.heap.size 39 (hdC h) := by rw [← hw5]; exact blk_setCell_ne B5 (Ne.symm hne) 0 _
    have M5 : Mo w1 w5 := by rw [← hw5]; exact mo_setCell M4 (by omega) 0 _
    have O5 : w5.ownsRow w1.heap.size 5 1 (.slice (some ⟨g4, 0, none⟩) 16 c4) 16 (byteL ([h.l * 64 + h.v * 8 + h.m, h.s, h.po % 256, h.pr % 256] ++ be 4 h.rd ++ be 4 h.rp ++ [h.a, h.b, h.c, h.d])) := by
      rw [← hw5]
      have := S4.out
      unfold byteL at this ⊢
      rw [List.map_append]
      exact this
    rw [hw5]
    clear hw5 S4 B4 B5 M4 hrun
    go_wp2_with fail
    have x0 : ∀ w, (Instr.index 99 (.agg #[.int .u64 h.f, .int .u64 h.o, .int .u64 h.r, .int .u64 h.x]) (.int .i64 0)).run Try.prog w = .ok (.int .u64 h.f) w := fun _ => rfl
    have x1 : ∀ w, (Instr.index 99 (.agg #[.int .u64 h.f, .int .u64 h.o, .int .u64 h.r, .int .u64 h.x]) (.int .i64 1)).run Try.prog w = .ok (.int .u64 h.o) w := fun _ => rfl
    have x2 : ∀ w, (Instr.index 99 (.agg #[.int .u64 h.f, .int .u64 h.o, .int .u64 h.r, .int .u64 h.x]) (.int .i64 2)).run Try.prog w = .ok (.int .u64 h.r) w := fun _ => rfl
    have x3 : ∀ w, (Instr.index 99 (.agg #[.int .u64 h.f, .int .u64 h.o, .int .u64 h.r, .int .u64 h.x]) (.int .i64 3)).run Try.prog w = .ok (.int .u64 h.x) w := fun _ => rfl
    refine wp_loop_rounds 5 ?_
    rw [rounds_succ]
    go_wp2_with fail
    refine (put1_any h.f 8 (w1.heap.size + 1) w1.heap.size 16 _ _ _ OK.out.f (by omega) (by omega) inferInstance O5 M5.size).mono ?_
    rintro e w6 ⟨rfl, v6, C6, O6, K6⟩
    have D6 : Blk w6 W.heap.size 39 (hdC h) := K6.2 _ _ _ hne (by decide) inferInstance
    have M6 : Mo w1 w6 := K6.1 w1 M5 (Nat.le_refl _) (by omega)
    clear K6 B6 O5 M5 B7
    go_wp2_with fail
    rw [rounds_succ]
    go_wp2_with fail
    refine (put1_any h.o 8 (w1.heap.size + 1) w1.heap.size 24 _ _ _ OK.out.o (by omega) (by omega) inferInstance O6 M6.size).mono ?_
    rintro e w7 ⟨rfl, v7, C7, O7, K7⟩
    have D7 : Blk w7 W.heap.size 39 (hdC h) := K7.2 _ _ _ hne (by decide) inferInstance
    have M7 : Mo w1 w7 := K7.1 w1 M6 (Nat.le_refl _) (by omega)
    clear K7 C6 O6 M6 D6
    go_wp2_with fail
    rw [rounds_succ]
    go_wp2_with fail
    refine (put1_any h.r 8 (w1.heap.size + 1) w1.heap.size 32 _ _ _ OK.out.r (by omega) (by omega) inferInstance O7 M7.size).mono ?_
    rintro e w8 ⟨rfl, v8, C8, O8, K8⟩
    have D8 : Blk w8 W.heap.size 39 (hdC h) := K8.2 _ _ _ hne (by decide) inferInstance
    have M8 : Mo w1 w8 := K8.1 w1 M7 (Nat.le_refl _) (by omega)
    clear K8 C7 O7 M7 D7
    go_wp2_with fail
    rw [rounds_succ]
    go_wp2_with fail
    refine (put1_any h.x 8 (w1.heap.size + 1) w1.heap.size 40 _ _ _ OK.out.x (by omega) (by omega) inferInstance O8 M8.size).mono ?_
    rintro e w9 ⟨rfl, v9, C9, O9, K9⟩
    have D9 : Blk w9 W.heap.size 39 (hdC h) := K9.2 _ _ _ hne (by decide) inferInstance
    have M9 : Mo w1 w9 := K9.1 w1 M8 (Nat.le_refl _) (by omega)
    clear K9 C8 O8 M8 D8
    go_wp2_with fail
    rw [rounds_succ]
    obtain ⟨g9, c9', rfl⟩ := ownsRow_succ (k := 47) O9
    go_wp2_with fail
    rw [← RR.out]
    refine ⟨_, by rw [if_pos HM.out]; rfl, ?_, M1'.trans M9⟩
    rw [if_pos HM.out]
    exact owns_byteS O9 (by omega) (hdB_byte h OK.out HM.out)
  · have MA := Lib.hid (fun w => may_any h w)
    obtain ⟨q, hq⟩ : ∃ q, mayH h = q := ⟨_, rfl⟩
    have HM := Lib.hid cm
    rw [hq] at MA cm
    have : q = false := by simpa using cm
    subst this
    clear cm hq
    go_enter Try.func26, Try.ntmps26
    go_wp2_with fail
    refine (MA.out _).mono ?_
    rintro e w1 ⟨rfl, M1⟩
    go_wp2_with fail
    rw [← RR.out]
    exact ⟨_, by rw [if_neg HM.out]; rfl, by rw [if_neg HM.out]; exact byteV_nil _, (Mor.out : Mo W _).trans M1⟩
end Go.Proofs.Ytofbhkodnijkjaa
