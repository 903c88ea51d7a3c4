/- horologelaw32.laid: what it returns. -/
import Derived.Test.YtfojgjannhhbaaaAllanS
import Derived.Test.YtfojgjannhhbaaaWorks32
namespace Go.Proofs.Ytfojgjannhhbaaa
open Go.RowKit

/-- a slice of steps, as it is read -/
def StepRow (W : World) (A : Option Addr) (l : List Stp) : Prop := (∀ s ∈ l, s.Ok) ∧ (l = [] ∨ ∃ g off, A = some ⟨g, off, none⟩ ∧ ∀ j, (h : j < l.length) → W.cell? ⟨g, off + j * 4, none⟩ = some (.int .u8 l[j].on) ∧ W.cell? ⟨g, off + j * 4 + 1, none⟩ = some (.int .u8 l[j].inn) ∧ W.cell? ⟨g, off + j * 4 + 2, none⟩ = some (.int .i32 l[j].off) ∧ W.cell? ⟨g, off + j * 4 + 3, none⟩ = some (.int .i32 l[j].del))
set_option maxRecDepth 20000 in
theorem StepRow.mo {W w : World} {A : Option Addr} {l : List Stp} (h : StepRow W A l) (k : Mo W w) : StepRow w A l := by
  refine ⟨h.1, ?_⟩
  rcases h.2 with h | ⟨g, off, rfl, hc⟩
  · exact .inl h
  · refine .inr ⟨g, off, rfl, fun j hj => ?_⟩
    obtain ⟨a, b, c, d⟩ := hc j hj
    have : LtW g W := LtW.of_cell a
    exact ⟨by rw [k.cell, a], by rw [k.cell, b], by rw [k.cell, c], by rw [k.cell, d]⟩
set_option maxRecDepth 20000 in
theorem laidF_take (f t up each : Int) (l : List Stp) (k : Nat) (hk : k < l.length) : laidF f t up each (l.take (k + 1)) = laidS f t up each (laidF f t up each (l.take k)) l[k] := by
  rw [List.take_add_one, List.getElem?_eq_getElem hk]
  exact laidF_snoc _ _ _ _ _ _
def LaidRet (o : Nat) (M : List Slot) (W : World) (e : Ending) (w' : World) : Prop := ∃ v p r, e = .returned (.tuple #[v, .pointer (some ⟨p, 0, none⟩)]) ∧ TauAt w' v (taus M o) ∧ GAt w' p r (2 ^ o + 1) o 256 M ∧ W.heap.size ≤ p ∧ W.heap.size ≤ r ∧ Mo W w'
set_option maxRecDepth 20000 in
theorem wide_floor {a b : Int} (h0 : 0 ≤ b) (h1 : b ≤ 255) : (a * 256 + b) / 256 = a := by omega

set_option maxRecDepth 20000 in
set_option maxHeartbeats 4000000 in
theorem laid_any (A : Option Addr) (l : List Stp) (cap o : Nat) (f t up each : Int) (W : World) (hl : l.length ≤ 100) (o1 : 1 ≤ o) (o2 : o ≤ 10) (f1 : -2147483648 ≤ f) (f2 : f ≤ 2147483647) (ht : t = 0 ∨ t = 1 ∨ t = 2) (u1 : -2147483648 ≤ up) (u2 : up ≤ 2147483647) (e1 : -32768 ≤ each) (e2 : each ≤ 32767) (hR : StepRow W A l) :
    Calls Try.prog 17 #[.slice A l.length cap, .int .i64 o, .int .i64 f, .int .i64 t, .int .i64 up, .int .i64 each] W (LaidRet o (laidF f t up each l).2 W) := by
  have LF := Lib.hid (laidF_take f t up each l)
  have LO : Hid (∀ k, k ≤ l.length → (MOk (laidF f t up each (l.take k)).2 k ∧ 0 ≤ (laidF f t up each (l.take k)).1 ∧ (laidF f t up each (l.take k)).1 ≤ 15 * k) ∧ ∀ s : Stp, s.Ok → (putM (laidF f t up each (l.take k)).2 (f + ((laidF f t up each (l.take k)).1 + s.on % 16)) (t * s.off + up + each * ((laidF f t up each (l.take k)).1 + s.on % 16)) s.del).2 = 1) := Lib.hid (fun k hk => by
    have hk' : ∀ s ∈ l.take k, s.Ok := fun s hs => hR.1 s (List.mem_of_mem_take hs)
    have hlen : (l.take k).length = k := by rw [List.length_take]; omega
    refine ⟨?_, fun s hs => laid_kept f t up each ht u1 u2 e1 e2 _ s hk' hs (by omega)⟩
    have hb := laid_ok f t up each f1 f2 (l.take k) hk' (by omega)
    rwa [hlen] at hb)
  have HR := Lib.hid hR
  clear hR
  obtain ⟨n, hn⟩ : ∃ n, l.length = n := ⟨_, rfl⟩
  rw [hn] at hl LO ⊢
  have HN := Lib.hid hn
  have H0 : laidF f t up each (l.take 0) = (0, []) := by rw [List.take_zero]; rfl
  clear hn
  go_enter Try.func17, Try.ntmps17
  go_wp2_with fail
  refine (new_M 256 o _ (by omega) (by omega) (by omega) (by omega)).mono ?_
  rintro e w1 ⟨p, r, rfl, G1, hp, hr, M1⟩
  go_wp2_with fail
  go_loopw [16, 33] (fun m i wr => ∃ k : Nat, k ≤ n ∧ i = .int .i64 k ∧ m = .int .i64 (laidF f t up each (l.take k)).1 ∧ GAt wr p r (2 ^ o + 1) o 256 (laidF f t up each (l.take k)).2 ∧ Mo W wr) (fun _ i _ => n - (intOf i).toNat)
  case atStart => exact ⟨0, by omega, rfl, by rw [H0], by rw [H0]; exact G1, M1⟩
  case round =>
    obtain ⟨k, hk, rfl, rfl, hG, hM⟩ := hrel
    clear H0 G1 M1
    by_cases ck : k < n
    · obtain ⟨lo, kept⟩ := LO.out k (by omega)
      have hkl : k < l.length := by rw [HN.out]; exact ck
      have hs : l[k].Ok := HR.out.1 _ (List.getElem_mem hkl)
      rcases HR.out.2 with h0 | ⟨g, off, rfl, hc⟩
      · rw [h0] at hkl; simp at hkl
      obtain ⟨a, b, c, d⟩ := (hc k hkl)
      have LG : LtW g W := LtW.of_cell a
      have a' : wr.cell? ⟨g, off + k * 4, none⟩ = some (.int .u8 l[k].on) := by rw [hM.cell, a]
      have b' : wr.cell? ⟨g, off + k * 4 + 1, none⟩ = some (.int .u8 l[k].inn) := by rw [hM.cell, b]
      have c' : wr.cell? ⟨g, off + k * 4 + 2, none⟩ = some (.int .i32 l[k].off) := by rw [hM.cell, c]
      have d' : wr.cell? ⟨g, off + k * 4 + 3, none⟩ = some (.int .i32 l[k].del) := by rw [hM.cell, d]
      have LGr : LtW g wr := LtW.of_cell a'
      have nx := LF.out k hkl
      have kp := kept _ hs
      unfold laidS at nx
      generalize l[k] = s at *
      obtain ⟨son, sin, sof, sdl⟩ := s
      obtain ⟨s1, s2, s3, s4, s5, s6, s7, s8⟩ := hs
      obtain ⟨lok, lo0, lo1⟩ := lo
      obtain ⟨gk, hgk⟩ : ∃ gk, laidF f t up each (l.take k) = gk := ⟨_, rfl⟩
      rw [hgk] at hG nx kp lo0 lo1 lok ⊢
      obtain ⟨m, M⟩ := gk
      simp only at a' b' c' d' nx kp s1 s2 s3 s4 s5 s6 s7 s8 hG lo0 lo1 lok
      obtain ⟨m', hm'⟩ : ∃ m', m + son % 16 = m' := ⟨_, rfl⟩
      have nr := near_line (t := t) (up := up) (each := each) (n := m') (off := sof) ht u1 u2 e1 e2 (by omega) (by omega) s5 s6
      rw [hm'] at nx kp
      have m1 : 0 ≤ m' := by omega
      have m2 : m' ≤ 1600 := by omega
      have MU := Lib.hid (fun w => mul_any (f + m') 256 (by omega) (by omega) (by omega) (by omega) w)
      have OI := Lib.hid (fun w => of_any sin (by omega) (by omega) w)
      have AD := Lib.hid (fun w => add_any ((f + m') * 256) sin (by unfold InW; omega) (by unfold InW; omega) w)
      rw [cl_in (by unfold InW; omega)] at AD
      have PU := Lib.hid (fun w (h : GAt w p r (2 ^ o + 1) o 256 M) => put_M p r _ o 256 M ((f + m') * 256 + sin) (t * sof + up + each * m') sdl w h ⟨lok.fine, lok.rises, by have := lok.len; omega⟩ (by unfold InW; omega))
      rw [wide_floor s3 s4, clip_in (by omega) (by omega), kp] at PU
      have NX := Lib.hid nx
      obtain ⟨nr1, nr2⟩ := nr
      clear nx kp hgk kept a b c d hc
      have t3 : t * sof = 0 ∨ t * sof = sof ∨ t * sof = 2 * sof := by rcases ht with rfl | rfl | rfl <;> omega
      have b3 : -4294967296 ≤ t * sof ∧ t * sof ≤ 4294967296 := by omega
      have b4 : -281474976710656 ≤ each * m' ∧ each * m' ≤ 281474976710656 := by omega
      obtain ⟨b5, b6⟩ := b3
      obtain ⟨b7, b8⟩ := b4
      generalize hq : (f + m') * 256 = q at *
      generalize hz : (putM M (f + m') (t * sof + up + each * m') sdl).1 = M' at *
      have HM := Lib.hid hm'
      clear hq hz t3
      go_wp2_with fail
      go_cut [19] (fun s19 wx => ∃ b, s19 = .pointer (some ⟨b, 0, none⟩) ∧ Blk wx b 34 #[.int .i64 (hiW (q + sin)), .int .u64 (loW (q + sin))] ∧ wx.cell? ⟨wr.heap.size, 2, none⟩ = some (.int .i32 sof) ∧ wx.cell? ⟨wr.heap.size, 3, none⟩ = some (.int .i32 sdl) ∧ Mo wr wx)
      case first =>
        as_aux_lemma =>
          refine wp_name ?_
          intro V hV
          have MV : Mo wr V := by rw [hV]; exact Mor.out
          have k1 : V.cell? ⟨wr.heap.size, 1, none⟩ = some (.int .u8 sin) := by rw [hV]; simp [go_sem]
          have k2 : V.cell? ⟨wr.heap.size, 2, none⟩ = some (.int .i32 sof) := by rw [hV]; simp [go_sem]
          have k3 : V.cell? ⟨wr.heap.size, 3, none⟩ = some (.int .i32 sdl) := by rw [hV]; simp [go_sem]
          have LV : LtW wr.heap.size V := LtW.of_cell k1
          have y1 : IntKind.i64.wrap (f + m') = f + m' := by rw [IntKind.wrap_i64]; omega
          have y2 : IntKind.i64.wrap sin = sin := by rw [IntKind.wrap_i64]; omega
          clear hV
          go_region_held3 (fun w' => w'.cell? ⟨wr.heap.size, 1, none⟩ = some (.int .u8 sin)) (simp [go_sem, k1])
            (first
            | ((with_reducible refine (MU.out _).mono ?_); rintro e w1 ⟨rfl, J3, d3, rfl⟩)
            | ((with_reducible refine (OI.out _).mono ?_); rintro e w1 ⟨rfl, J3, d3, rfl⟩)
            | ((with_reducible refine (AD.out _).mono ?_); rintro e w1 ⟨rfl, J3, d3, rfl⟩))
          all_goals (go_wp2_with fail; go_meet; exact ⟨_, rfl, inferInstance, by simp [go_sem, k2], by simp [go_sem, k3], MV.trans Mor.out⟩)
      obtain ⟨b, rfl, Bb, k2, k3, hMx⟩ := hcut
      have GX := hG.mo hMx
      have MX := hM.trans hMx
      have z0 : wc.cell? ⟨b, 0, none⟩ = some (.int .i64 (hiW (q + sin))) := by rw [blk_cell Bb]; rfl
      have z1 : wc.cell? ⟨b, 1, none⟩ = some (.int .u64 (loW (q + sin))) := by rw [blk_cell Bb]; rfl
      have Lb : LtW b wc := LtW.of_cell z0
      have L2 : LtW wr.heap.size wc := LtW.of_cell k2
      clear MU OI AD Bb a' b' c' d' LG LGr hMx
      go_wp2_with fail
      refine (PU.out _ GX).mono ?_
      rintro e w5 ⟨rfl, G2, K2⟩
      have M2 := kept_mo K2 MX hp hr
      clear K2 MX PU k2 k3 z0 z1 Lb L2 GX
      go_wp2_with fail
      go_roundw
      case rel => exact ⟨k + 1, by omega, by go_num, by rw [NX.out], by rw [NX.out]; exact G2, M2⟩
      case measure => simp [intOf]; omega
    · have ek : k = n := by omega
      subst ek
      clear ck
      have lok := (LO.out k (Nat.le_refl _)).1.1
      have HK : l.take k = l := by rw [← HN.out]; exact List.take_length
      rw [HK] at hG lok ⊢
      have lok' : MOk (laidF f t up each l).2 1000 := ⟨lok.fine, lok.rises, by have := lok.len; omega⟩
      have TO := Lib.hid (fun w (h : GAt w p r (2 ^ o + 1) o 256 (laidF f t up each l).2) => told_M p r _ o 256 _ w h lok')
      clear LO LF HR HN HK lok lok'
      go_wp2_with fail
      refine (TO.out _ hG).mono ?_
      rintro e w6 ⟨v, rfl, h6, M6⟩
      have T6 : TauAt w6 v (taus (laidF f t up each l).2 o) := tauAt_owns h6
      have G6 := hG.mo M6
      have M7 := hM.trans M6
      clear TO h6 hG M6 hM
      go_wp2_with fail
      go_ret2
      exact ⟨_, p, r, rfl, T6, G6, hp, hr, M7⟩
end Go.Proofs.Ytfojgjannhhbaaa
