/- pend.Copy. -/
import Derived.Test.YtlbkcjpnlnlmiaaPendF
import Derived.Test.YtlbkcjpnlnlmiaaPendL
namespace Go.Proofs.Ytlbkcjpnlnlmiaa
open Go.RowKit Go.Maps Go.Shelf

set_option maxRecDepth 20000 in
theorem run_build_nodeD (k a : Array Value) (d : Bool) [hk : SzA k 37] [ha : SzA a 2] (w : World) : (buildF 80 #[(0, .agg (enC k a d))]).run Try.prog w = .ok (.agg (ndC k a d nilp nilp)) w := by
  obtain ⟨x0, x1, x2, x3, x4, x5, x6, x7, x8, x9, x10, x11, x12, x13, x14, x15, x16, x17, x18, x19, x20, x21, x22, x23, x24, x25, x26, x27, x28, x29, x30, x31, x32, x33, x34, x35, x36, rfl⟩ := arr37 hk.out
  obtain ⟨y0, y1, rfl⟩ := arr2' ha.out
  exact run_build w _ _ _ (by kernel_rfl)
set_option maxRecDepth 20000 in
/-- a table's blocks: the map, and cells that are no entries -/
theorem foot_obj {W : World} {T B : Nat} {room : Int} {L : List (Nat × En)} (h : TabAt W T B room L) {i : Nat} (hf : Foot T B L i) : i = B ∨ ∃ cs t z, W.heap[i]? = some (.cells cs t z) ∧ t ≠ 45 := by
  rcases hf with rfl | rfl | ⟨q, hq, rfl⟩
  · exact .inr ⟨_, _, _, h.t.out, by decide⟩
  · exact .inl rfl
  · obtain ⟨o, x, b⟩ := seg_blk h.seg q hq
    exact .inr ⟨_, _, _, b.out, by decide⟩
set_option maxRecDepth 20000 in
/-- a table is kept by what an iterator's law does to its own blocks -/
theorem tabAt_grown {W W' : World} {n T B : Nat} {room : Int} {L : List (Nat × En)} {row : Option Nat} (h : TabAt W T B room L) (hB : B < n) (hg : W.grownBy W' row) (hr : ∀ r, row = some r → n ≤ r ∧ ∃ o : Obj, W.heap[r]? = some o ∧ o.isCells = false) : TabAt W' T B room L :=
  h.keep fun i hi hf => hg.block i hi fun e => by
    obtain ⟨h1, o, h2, h3⟩ := hr i e.symm
    rcases foot_obj h hf with rfl | ⟨cs, t, z, h4, _⟩
    · omega
    · rw [h4] at h2; cases h2; cases h3
set_option maxRecDepth 20000 in
theorem blk_grown' {W W' : World} {n g : Nat} {t : TypeId} {cs : Array Value} {row : Option Nat} (b : Blk W g t cs) (hg : W.grownBy W' row) (hr : ∀ r, row = some r → n ≤ r ∧ ∃ o : Obj, W.heap[r]? = some o ∧ o.isCells = false) : Blk W' g t cs :=
  ⟨(hg.block g b.lt fun e => by
    obtain ⟨h1, o, h2, h3⟩ := hr g e.symm
    rw [b.out] at h2; cases h2; cases h3).trans b.out⟩
structure CopyI (W0 : World) (T B cb n : Nat) (room : Int) (pre : List En) (W : World) : Prop where
  tab : ∃ L, TabAt W T B room L ∧ L.map (·.2) = pre ∧ ∀ q ∈ L, n ≤ q.1
  box : Blk W cb 24 #[ptr T]
  bel : Below W0.heap.size W0 W
set_option maxRecDepth 20000 in
theorem copyI_own {W0 : World} {T B cb n : Nat} {room : Int} (hB : B < n) (hn : W0.heap.size ≤ n) : OwnFrom n (CopyI W0 T B cb n room) := fun _ _ _ _ hs hg hr => by
  obtain ⟨⟨L, h1, h2, h3⟩, b, bel⟩ := hs
  exact ⟨⟨L, tabAt_grown h1 hB hg hr, h2, h3⟩, blk_grown' b hg hr, bel.grown hg bel.size (fun k e => Nat.le_trans hn (hr k e).1)⟩
set_option maxRecDepth 20000 in
theorem CopyI.alloc {W0 : World} {T B cb n : Nat} {room : Int} {pre : List En} {W : World} (h : CopyI W0 T B cb n room pre W) (o : Obj) : CopyI W0 T B cb n room pre (W.alloc o) := by
  obtain ⟨⟨L, h1, h2, h3⟩, b, bel⟩ := h
  exact ⟨⟨L, h1.mo (Mor.out : Mo W (W.alloc o)), h2, h3⟩, inferInstance, bel.alloc bel.size o⟩
set_option maxRecDepth 20000 in
/-- what a push keeps -/
theorem push_keeps {Wr w' : World} {n T B g : Nat} {room : Int} {L : List (Nat × En)} (h : TabAt Wr T B room L) (hB : B < n) (k : KpS (fun k => k = g ∨ Foot T B L k) Wr w') (hg : Wr.heap.size ≤ g) : KeepsFrom n Wr w' ∧ KpC n Wr w' := by
  refine ⟨⟨k.size, fun i o hi ho hc => ?_⟩, ⟨k.size, fun i hi cs z ho => ?_⟩⟩
  · have hlt := (Array.getElem?_eq_some_iff.1 ho).1
    rw [k.block i hlt (fun hs => ?_)]
    · exact ho
    · rcases hs with rfl | hf
      · omega
      · rcases foot_obj h hf with rfl | ⟨cs, t, z, h4, _⟩
        · omega
        · rw [h4] at ho; cases ho; cases hc
  · have hlt := (Array.getElem?_eq_some_iff.1 ho).1
    rw [k.block i hlt (fun hs => ?_)]
    · exact ho
    · rcases hs with rfl | hf
      · omega
      · rcases foot_obj h hf with rfl | ⟨cs', t, z', h4, h5⟩
        · omega
        · rw [h4] at ho; cases ho; exact h5 rfl
set_option maxRecDepth 20000 in
theorem copy_ret {R : Ending → World → Prop} {a : Act} {w : World} (v : Value) (D : Nat)
    (h2 : a.tmps.getD 2 undef = v) (hd : a.defers = [{ target := Target.collected D, args := #[] }])
    (hK : w.heap[D]? = some (.deferred (some [])))
    (hR : R (.returned v) (w.putObj D (.deferred none))) : bodyPostM Fence.wide 6 Try.prog Try.f16 R .ret a w := by
  obtain ⟨tm, df⟩ := a
  simp only at h2 hd
  subst hd
  refine ⟨by simp, .inl ⟨_, _, rfl, run_takeDeferred hK, ?_⟩⟩
  refine ⟨v, ?_, hR⟩
  have k2 : tm[2]?.getD undef = v := by simpa using h2
  simp [results, Try.results16, go_sem, k2]
def CopyRet (room : Int) (L : List (Nat × En)) (W : World) (e : Ending) (w' : World) : Prop := ∃ T' B' L', e = .returned (ptr T') ∧ TabAt w' T' B' room L' ∧ L'.map (·.2) = L.map (·.2) ∧ Mo W w' ∧ ∀ i, Foot T' B' L' i → W.heap.size ≤ i
attribute [local go_sem] Oper.semAt_some
attribute [local go_sem] blk_cell' blk_frozen' nd_old nd_new nd_ans nd_key nd_en
attribute [local go_sem ↓] loadF_key loadF_entry storeF_entry buildF_entry buildF_node
attribute [local go_sem] run_loadFo run_loadFz run_loadF0 run_storeF0 run_build_nodeD
set_option maxRecDepth 20000 in
set_option maxHeartbeats 8000000 in
theorem copy_any (T B : Nat) (room : Int) (L : List (Nat × En)) (W : World) (hT : TabAt W T B room L) (hL : L.length ≤ 65536) (r1 : 1 ≤ room) (r2 : room ≤ 65536) :
    Calls Try.prog 16 #[ptr T] W (CopyRet room L W) := by
  have HT := Lib.hid hT
  have ht := hT.t
  generalize firstP L nilp = fp at *
  generalize lastP nilp L = lp at *
  clear hT
  refine (callsIn_wide (n := 6)).1 ?_
  refine callsIn_of_wp_marks Try.func16 rfl trivial ?_ rfl
  simp only [Try.ntmps16, List.size_toArray, List.length_cons, List.length_nil, Nat.reduceAdd, Nat.reduceSub, Array.replicate_succ, Array.replicate_zero, List.push_toArray, List.append_toArray, List.nil_append, List.cons_append]
  refine wpIn_wide.2 ?_
  go_wp2_with fail
  refine (right_any T B room fp lp _).mono ?_
  rintro e w1 ⟨rfl, M1⟩
  have t1 : Blk w1 T 75 #[.int .i64 room, .map (some B), fp, lp] := M1.blk ht
  clear ht
  go_wp2_with fail
  refine (new_any room _).mono ?_
  rintro e w2 ⟨M2, ⟨-, -, T', B', rfl, tt, hT', hB'⟩ | ⟨hno, -⟩⟩
  rotate_left
  · exact absurd ⟨r1, r2⟩ hno
  have N2 := M1.trans M2
  go_wp2_with fail
  refine (all_any _ _).mono ?_
  rintro e w3 ⟨rfl, rfl⟩
  go_wp2_with fail
  obtain ⟨w, hw⟩ : ∃ w, (w2.alloc (.cells #[.pointer (some ⟨T', 0, none⟩)] 24)).alloc (.cells #[.pointer (some ⟨T, 0, none⟩)] 24) = w := ⟨_, rfl⟩
  have x0 : Blk w w2.heap.size 24 #[ptr T'] := by rw [← hw]; infer_instance
  have x1 : Boxed w (w2.heap.size + 1) 24 (ptr T) := by rw [← hw]; exact (inferInstance : Blk _ _ _ _).out
  have hMw : Mo w2 w := by rw [← hw]; exact Mor.out
  rw [hw]
  have hsz : w2.heap.size ≤ w.heap.size := hMw.size
  clear hw
  have hB2 : B' < w.heap.size := by have := tt.lt B' (.inr (.inl rfl)); omega
  have hWT : W.heap.size ≤ T' := Nat.le_trans M1.size hT'
  have hWB : W.heap.size ≤ B' := Nat.le_trans M1.size hB'
  have hWw : W.heap.size ≤ w.heap.size := Nat.le_trans N2.size hsz
  have hTw : T' < w.heap.size := by have := tt.t.lt; omega
  refine (wpIn_wide (n := 6)).1 ?_
  refine wpIn_range_px (F := Fence.wide) (n := 6) (w0 := w) rfl (by omega) (gf := 24) (lb := #[.pointer (some ⟨w2.heap.size + 1, 0, none⟩)]) rfl trivial (enters_of Try.func24 (by kernel_rfl) rfl)
    (all_seq 5 _ T B room L w (HT.out.mo (N2.trans hMw)) hL x1) KpC.trans (KpC.put (w := w)) (Below.refl _ _) (fun _ => rfl)
    (CopyI W T' B' w2.heap.size w.heap.size room) (fun _ _ _ => False)
    (copyI_own hB2 hWw) (fun _ _ _ _ _ h _ _ => h.elim)
    ⟨⟨[], tt.mo hMw, rfl, fun q hq => (by cases hq)⟩, x0, (N2.trans hMw).below⟩
    (fun pre x a' W' => ∃ Bx, Blk W' Bx 45 (enC x.k x.a x.d) ∧ (∃ r, pre ++ x :: r = L.map (·.2)) ∧ a' = (⟨#[ptr T, undef, .pointer none, ptr w2.heap.size, .int .i64 0, ptr Bx, ptr T, .bool true, .bool false, .tuple #[ptr T', .int .i64 0], ptr T, .pointer (some ⟨T, 0, none⟩), .pointer (some ⟨T, 0, none⟩), .int .i64 room, .tuple #[ptr T', .int .i64 0], ptr T', .int .i64 0, ptr T, .func (.func 24) #[] #[.pointer (some ⟨w2.heap.size + 1, 0, none⟩)], .agg (enC x.k x.a x.d), undef, undef, undef, undef, undef, undef], []⟩ : Act))
    (fun pre x a' _ _ W' row h hg hr => by
      obtain ⟨Bx, h1, h2, h3⟩ := h
      exact ⟨Bx, blk_grown' h1 hg hr, h2, h3⟩)
    ?assign ?body ?done ?stop
  case stop => intro _ _ _ _ _ _ h; exact h.elim
  case assign =>
    rintro l pre ⟨xk, xa, xd⟩ Wr K hI hP hK
    have eok : EnOk ⟨xk, xa, xd⟩ := by
      obtain ⟨r, hr⟩ := hP
      have hm : (⟨xk, xa, xd⟩ : En) ∈ L.map (·.2) := by rw [← hr]; simp
      obtain ⟨q, hq, e⟩ := List.mem_map.1 hm
      rw [← e]
      exact HT.out.ok q hq
    have z1 := key_sz eok.k
    have z2 := at_sz eok.a
    have y1 := one_of_fits eok.k
    have y2 := one_of_fits eok.a
    have HP := Lib.hid hP
    simp only at z1 z2 y1 y2
    clear hP eok
    dsimp only [encE]
    gi_wp2
    exact hK _ _ ((KeepsOthers.alloc _ _).from _) ⟨by simp, fun k _ cs z h => (Below.heap_alloc _ _ _ (Array.getElem?_eq_some_iff.1 h).1).trans h⟩ (hI.alloc _) ⟨Wr.heap.size, inferInstance, HP.out, rfl⟩
  case body =>
    rintro l pre ⟨xk, xa, xd⟩ a' Wr hl ⟨r, hr⟩ ⟨⟨L', h1, rfl, h3⟩, cbx, bel⟩ ⟨Bx, hbx, ⟨r2, hmore⟩, rfl⟩ hlt
    have hlr : l < Wr.heap.size := (Array.getElem?_eq_some_iff.1 hr).1
    clear hr
    have eok : EnOk ⟨xk, xa, xd⟩ := by
      have hm : (⟨xk, xa, xd⟩ : En) ∈ L.map (·.2) := by rw [← hmore]; simp
      obtain ⟨q, hq, e⟩ := List.mem_map.1 hm
      rw [← e]
      exact HT.out.ok q hq
    have z1 := key_sz eok.k
    have z2 := at_sz eok.a
    have y1 := one_of_fits eok.k
    have y2 := one_of_fits eok.a
    simp only at z1 z2 y1 y2 hbx
    have hnk : ∀ q ∈ L', q.2.k ≠ xk := fun q hq e => by
      have nd := HT.out.keys
      have e2 : L.map (·.2.k) = (L.map (·.2)).map (·.k) := by rw [List.map_map]; rfl
      rw [e2, ← hmore, List.map_append, List.map_cons, List.nodup_append] at nd
      exact nd.2.2 _ (List.mem_map_of_mem (f := fun e : En => e.k) (List.mem_map_of_mem (f := fun q : Nat × En => q.2) hq)) _ List.mem_cons_self e
    have hl' : L'.length ≤ 65536 := by
      rw [List.length_map, List.length_map] at hlt
      omega
    have PU := Lib.hid (fun w' (M : Mo Wr w') (b : Blk w' Wr.heap.size 80 (ndC xk xa xd nilp nilp)) => push_any T' B' Wr.heap.size room L' ⟨xk, xa, xd⟩ nilp nilp w' (h1.mo M) b (fun e => by have := h1.t.lt; omega) (fun q hq e => by have := seg_lt h1.seg q hq; omega) eok hnk hl')
    have HH := Lib.hid h1
    have H3 := Lib.hid h3
    have HM := Lib.hid hmore
    have HB := Lib.hid bel
    clear h1 h3 hmore bel hnk eok hlt hl'
    gi_wp2
    refine ⟨trivial, CallsIn.inRound l ((callsIn_wide.2 (PU.out _ Mor.out inferInstance)).mono ?_)⟩
    rintro e w9 ⟨rfl, tt9, kp9⟩
    gi_wp2
    have K9 : KpS (fun k => k = Wr.heap.size ∨ Foot T' B' L' k) Wr w9 := KpS.trans (S' := fun k => k = Wr.heap.size ∨ Foot T' B' L' k) (KpS.of_mo (Mor.out : Mo Wr (Wr.alloc (.cells (ndC xk xa xd nilp nilp) 80)))) kp9 fun _ _ q => q
    obtain ⟨q1, q2⟩ := push_keeps HH.out hB2 K9 (Nat.le_refl _)
    refine ⟨q1, q2, ⟨_, tt9, by rw [List.map_append]; rfl, fun q hq => ?_⟩, K9.blk cbx ?_, ?_⟩
    · rcases List.mem_append.1 hq with h | h
      · exact H3.out q h
      · rw [List.mem_singleton] at h; subst h
        show w.heap.size ≤ Wr.heap.size
        omega
    · rintro (h | h)
      · have := cbx.lt; omega
      · rcases h with h | h | ⟨q, hq, h⟩
        · have := tt.t.lt; omega
        · have := tt.lt B' (.inr (.inl rfl)); omega
        · obtain ⟨o, x, b⟩ := seg_blk HH.out.seg q hq
          have h5 := b.out
          rw [h, cbx.out] at h5
          injection h5 with h5
          injection h5 with _ h5
          exact absurd h5 (by decide)
    · have hm : Mo W Wr := Mo.of HB.out
      refine (KpS.mo K9 hm fun k hk hs => ?_).below
      rcases hs with rfl | rfl | rfl | ⟨q, hq, rfl⟩
      · exact hm.size
      · exact hWT
      · exact hWB
      · exact Nat.le_trans hWw (H3.out q hq)
  case done =>
    rintro D xs Wr hD rfl ⟨⟨L', h1, h2, h3⟩, cbx, bel⟩ hK
    have hM : Mo W Wr := Mo.of bel
    go_wp2_with fail
    refine copy_ret (ptr T') D rfl rfl hK ⟨T', B', L', rfl, tabAt_grown h1 hB2 (grownBy_putObj' Wr D _) (fun r e => by cases e; exact ⟨hD, _, hK, rfl⟩), h2, Mo.of_below hM (belowK_b (w := w) hWw _ D _ _ hD hK rfl rfl), ?_⟩
    rintro i (rfl | rfl | ⟨q, hq, rfl⟩)
    · exact hWT
    · exact hWB
    · exact Nat.le_trans hWw (h3 q hq)
set_option maxRecDepth 20000 in
theorem copy_e (T B : Nat) (room : Int) (E : List En) (P : Nat → Prop) (W : World) (h : TabE W T B room E P) (hL : E.length ≤ 65536) (r1 : 1 ≤ room) (r2 : room ≤ 65536) :
    Calls Try.prog 16 #[ptr T] W fun e w' => ∃ T' B', e = .returned (ptr T') ∧ TabE w' T' B' room E (fun i => W.heap.size ≤ i) ∧ Mo W w' := by
  obtain ⟨L, h1, rfl, h3⟩ := h
  refine (copy_any T B room L W h1 (by rwa [List.length_map] at hL) r1 r2).mono ?_
  rintro e w' ⟨T', B', L', h4, h5, h6, h7, h8⟩
  exact ⟨T', B', h4, ⟨L', h5, h6, h8⟩, h7⟩
end Go.Proofs.Ytlbkcjpnlnlmiaa
