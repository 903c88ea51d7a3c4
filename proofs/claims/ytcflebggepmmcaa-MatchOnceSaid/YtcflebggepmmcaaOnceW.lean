/- horologelaw30.MatchOnce: the walk's first part. -/
import Derived.Test.YtcflebggepmmcaaOnceP
import Derived.Test.YtcflebggepmmcaaRowU
import Derived.Test.YtcflebggepmmcaaTakes30
import Derived.Test.YtcflebggepmmcaaOnceC
namespace Go.Proofs.Ytcflebggepmmcaa
open Go.RowKit

set_option maxRecDepth 20000 in
theorem TabE.noTyK {W : World} {T B : Nat} {room : Int} {E : List En} {P : Nat → Prop} (h : TabE W T B room E P) : TabE W T B room E (fun i => P i ∧ NoTy 72 W i) := by
  obtain ⟨L, h1, h2, h3⟩ := h
  refine ⟨L, h1, h2, fun i hf => ⟨h3 i hf, fun cs f e => ?_⟩⟩
  rcases hf with rfl | rfl | ⟨q, hq, rfl⟩
  · rw [h1.t.out] at e
    injection e with e
    injection e with _ e2 _
    exact absurd e2 (by decide)
  · obtain ⟨_, _, hb⟩ := h1.map.isMap
    rw [hb] at e; cases e
  · obtain ⟨o, x, b⟩ := seg_blk h1.seg q hq
    rw [b.out] at e
    injection e with e
    injection e with _ e2 _
    exact absurd e2 (by decide)
set_option maxRecDepth 20000 in
theorem RowU.ty {w : World} {b n s : Nat} {e : TypeId} {v : Value} {xs : List Value} (h : RowU w b e s v n xs) : ∀ g, v.ownBlock = some g → ¬ NoTy e w g := fun g hg q => by
  rcases h.2 with ⟨rfl, _⟩ | ⟨g', cap, cur, rfl, hb, hB, _⟩
  · simp [Value.ownBlock] at hg
  · have e : g' = g := by simpa [Value.ownBlock] using hg
    subst e
    exact q _ _ hB.out
set_option maxRecDepth 20000 in
/-- a matcher, and a row of keys beside it -/
theorem matV_beside {W w : World} {b M T B : Nat} {room win : Int} {c : Nat → Int} {E : List En} {P : Nat → Prop} {v : Value} {n s : Nat} {xs : List Value} (h : MatV W M T B room win c E P) (r : RowU W b 72 s v n xs) (g : W.grownBy w v.ownBlock) : MatV w M T B room win c E P := by
  have hm := h.m
  refine ⟨⟨(g.block M hm.lt fun e => ?_).trans hm.out⟩, (h.t.noTyK.keep fun i hi hp => g.block i hi fun e => r.ty i e.symm hp.2).weak fun i _ q => q.1, h.np⟩
  refine r.ty M e.symm fun cs f e2 => ?_
  rw [hm.out] at e2
  injection e2 with e2
  injection e2 with _ e2 _
  exact absurd e2 (by decide)
set_option maxRecDepth 20000 in
theorem RowU.neM {w : World} {b n s M : Nat} {v : Value} {xs : List Value} {cs : Array Value} (h : RowU w b 72 s v n xs) (m : Blk w M 86 cs) : ∀ g, v.ownBlock = some g → g ≠ M := fun g hg e => by
  subst e
  refine h.ty g hg fun cs f e2 => ?_
  rw [m.out] at e2
  injection e2 with e2
  injection e2 with _ e2 _
  exact absurd e2 (by decide)
/-- where a key stands last among the first n -/
def LastK (O : List (Array Value)) (y : Array Value) (n : Nat) (h : Int) : Prop := (h = -1 ∧ ¬ y ∈ O.take n) ∨ ∃ p : Nat, h = p ∧ p < n ∧ O[p]? = some y
set_option maxRecDepth 20000 in
theorem LastK.start (O : List (Array Value)) (y : Array Value) : LastK O y 0 (-1) := .inl ⟨rfl, by simp⟩
set_option maxRecDepth 20000 in
theorem LastK.hit {O : List (Array Value)} {y : Array Value} {n : Nat} {h : Int} (_ : LastK O y n h) (e : O[n]? = some y) : LastK O y (n + 1) n := .inr ⟨n, rfl, by omega, e⟩
set_option maxRecDepth 20000 in
theorem LastK.miss {O : List (Array Value)} {y : Array Value} {n : Nat} {h : Int} (k : LastK O y n h) (hn : n < O.length) (e : O[n] ≠ y) : LastK O y (n + 1) h := by
  rcases k with ⟨h1, h2⟩ | ⟨p, h1, h2, h3⟩
  · refine .inl ⟨h1, fun q => ?_⟩
    rw [List.take_add_one, List.getElem?_eq_getElem hn, List.mem_append] at q
    rcases q with q | q
    · exact h2 q
    · simp only [Option.toList_some, List.mem_singleton] at q
      exact e q.symm
  · exact .inr ⟨p, h1, by omega, h3⟩
set_option maxRecDepth 20000 in
theorem sm_flow (f : Array Value) (t1 t2 t3 t4 o d s st : Int) [h : SzA f 36] : (smC f t1 t2 t3 t4 o d s st).extract 0 36 = f := by
  unfold smC
  refine Array.ext_getElem? fun j => ?_
  rw [Array.getElem?_extract]
  by_cases c : j < 36
  · rw [if_pos (by rw [Array.size_append, h.out]; simp; omega), Nat.zero_add, Array.getElem?_append, if_pos (by rw [h.out]; exact c)]
  · rw [if_neg (by rw [Array.size_append, h.out]; simp; omega), Array.getElem?_eq_none (by rw [h.out]; omega)]
set_option maxRecDepth 20000 in
theorem RowU.dropcells {w : World} {b : Nat} {t : TypeId} {s : Nat} {g N c2 : Nat} {O : List (Array Value)} (h : RowU w b t s (.slice (some ⟨g, 0, none⟩) N c2) N (rowS O)) (hs : ∀ a ∈ O, a.size = s) (hl : O.length = N) (k : Nat) (hk : k ≤ N) : ∀ j u, (rowS (O.drop k))[j]? = some u → w.cell? ⟨g, k * s + j, none⟩ = some u := fun j u hj => by
  rcases h.2 with ⟨h0, _⟩ | ⟨g', cap, cur, hv, hb, hg, h3, h4, h5, h6⟩
  · cases h0
  · injection hv with hv _ hc
    injection hv with hv
    injection hv with hv
    subst hv hc
    have e1 : rowS O = rowS (O.take k) ++ rowS (O.drop k) := by rw [← rowS_append, List.take_append_drop]
    have e2 : (rowS (O.take k)).length = k * s := by rw [rowS_len (fun a ha => hs a (List.mem_of_mem_take ha)), List.length_take, hl, Nat.min_eq_left hk]
    have e3 : (rowS O)[k * s + j]? = some u := by rw [e1, List.getElem?_append_right (by omega), e2, Nat.add_sub_cancel_left]; exact hj
    have lt := (List.getElem?_eq_some_iff.1 e3).1
    rw [h.1] at lt
    rw [blk_cell hg, ← Array.getElem?_toList]
    rw [← h6, List.getElem?_take_of_lt lt] at e3
    exact e3
set_option maxRecDepth 20000 in
theorem idx_cnt (CC : Array Value) (m : Nat) (hm : m < 9) (v : Int) (h : CC[m]? = some (.int .i64 v)) (w : World) : (Instr.index 29 (.agg CC) (.int .i64 m)).run Try.prog w = .ok (.int .i64 v) w := by
  simp [Instr.index, run_underlying Try.underlying29, go_sem, hm]
  rw [h]
  rfl
set_option maxRecDepth 20000 in
theorem sizeKy (w : World) : (sizeOf (Try.prog.elem 68)).run Try.prog w = .ok 37 w := rfl
/-- the counts' sum -/
def sumF (c : Nat → Int) : Nat → Int
  | 0 => 0
  | n + 1 => sumF c n + c n
set_option maxRecDepth 20000 in
theorem sumF_bd {c : Nat → Int} {b : Int} (h : ∀ i, 0 ≤ c i ∧ c i ≤ b) : ∀ n : Nat, 0 ≤ sumF c n ∧ sumF c n ≤ n * b
  | 0 => by simp [sumF]
  | n + 1 => by
    have ih := sumF_bd h n
    have := h n
    rw [sumF]
    have e : ((n + 1 : Nat) : Int) * b = n * b + b := by rw [Int.natCast_add, Int.add_mul]; simp
    omega
set_option maxRecDepth 20000 in
theorem neqF_flowO (x y : Value) : binOp .neq 43 x y = neqF 43 x y := rfl
set_option maxRecDepth 20000 in
theorem neqF_wideO (x y : Value) : binOp .neq 32 x y = neqF 32 x y := rfl
set_option maxRecDepth 20000 in
theorem eqlF_keyO (x y : Value) : binOp .eql 72 x y = eqlF 72 x y := rfl
attribute [local go_sem] blk_cell' blk_frozen' dg_at dg_b dg_src dg_dst kf_flow kf_x
attribute [local go_sem ↓] loadF_dg storeF_dg' loadF_cnt storeF_cnt loadF_samp storeF_samp buildF_samp eqlF_samp eqlF_cnt neqF_samp neqF_cnt loadF_pk storeAt_pk loadF_keyH storeF_key buildKM_fold eqlF_keyO neqF_flowO neqF_wideO app_fold loadF_flow loadF_wide'
attribute [local go_sem] run_loadF0 run_storeF0 run_storePk run_loadFo run_loadFz run_build_samp0 run_buildKM
set_option maxRecDepth 20000 in
set_option maxHeartbeats 16000000 in
theorem once30_any (A : Option Addr) (cap L : Nat) (l : List Dg) (kk wn atk : Int) (W : World) (hL : l.length = L) (h : DgsS W A cap l) (bk : 0 ≤ kk ∧ kk ≤ 255) (bw : 0 ≤ wn ∧ wn ≤ 4294967295) (ba : 0 ≤ atk ∧ atk ≤ 255) :
    Calls Try.prog 6 #[.slice A L cap, .int .u8 kk, .int .u32 wn, .int .u8 atk] W fun e w' => e = .returned (.bool true) ∧ Mo W w' := by
  have GR := Lib.hid (fun w (m : Mo W w) => great_any A cap L l w hL (h.mo m))
  have WK := Lib.hid (fun w => works30_any w)
  cases hg : GreatM l with
  | true =>
    rw [hg] at GR
    clear h hL hg
    go_enter Try.func6, Try.ntmps6
    go_wp2_with fail
    refine (GR.out _ Mor.out).mono ?_
    rintro e w1 ⟨rfl, M1⟩
    have N1 := (Mor.out : Mo W _).trans M1
    clear M1 GR
    go_wp2_with fail
    refine (WK.out _).mono ?_
    rintro e w2 ⟨rfl, M2⟩
    have N2 := N1.trans ((Mor.out : Mo w1 _).trans M2)
    clear M2 N1
    go_wp2_with fail
    go_ret
    exact ⟨rfl, N2.trans Mor.out⟩
  | false =>
    rw [hg] at GR
    obtain ⟨hl80, hb3⟩ := great_no hg
    rw [hL] at hl80
    have HD := Lib.hid h
    have HL := Lib.hid hL
    have HB : Hid (∀ d ∈ l, d.bs.length ≤ 200000) := Lib.hid fun d hd => by have := hb3 d hd; omega
    obtain ⟨i0, hi, hz0, hz1, hz2⟩ := info_parts infoKy
    obtain ⟨k, hk⟩ : ∃ k, 1 + kk % 10 = k := ⟨_, rfl⟩
    have ck : (1 ≤ k ∧ k ≤ 65536) ∧ 0 ≤ wn ∧ wn ≤ 1152921504606846976 := by omega
    have ww : IntKind.i64.wrap wn = wn := by rw [IntKind.wrap_i64]; omega
    have NI := Lib.hid (fun w => mnew_in k wn ck.1 ck.2 w)
    clear h hL hg hb3
    go_enter Try.func6, Try.ntmps6
    go_wp2_with fail
    refine (GR.out _ Mor.out).mono ?_
    rintro e w1 ⟨rfl, M1⟩
    have N1 := (Mor.out : Mo W _).trans M1
    clear M1 GR
    go_wp2_with fail
    refine (NI.out _).mono ?_
    rintro e w2 ⟨M, T, B, rfl, V2, lM, M2⟩
    have E2 : Mo w1 w2 := Mo.trans Mor.out M2
    have V2' := Lib.hid (show MatV w2 M T B k wn (fun _ => 0) [] (fun i => w1.heap.size ≤ i ∧ i ≠ M) from ⟨V2.m, V2.t.weak fun i _ q => ⟨Nat.le_trans (Mo.size Mor.out) q.1, q.2⟩, fun q => q.2 rfl⟩)
    have lM' : w1.heap.size ≤ M := Nat.le_trans (Mo.size Mor.out) lM
    have N2 := N1.trans E2
    clear V2 M2 lM E2
    go_wp2_with fail
    go_loopw [12, 58] (fun v i wr => ∃ (j : Nat) (O : List (Array Value)), j ≤ L ∧ i = .int .i64 j ∧ Mo W wr ∧ MatV wr M T B k wn (runC wn k l j) (playM k l j) (fun i => w1.heap.size ≤ i ∧ i ≠ M) ∧ RowU wr w1.heap.size 72 37 v O.length (rowS O) ∧ OnceI wn k l j O) (fun _ i _ => L - (intOf i).toNat)
    case atStart => exact ⟨0, [], by omega, rfl, N2, V2'.out, RowU.nil _ _ _ _, OnceI.start _ _ _⟩
    case round =>
      obtain ⟨j, O, hj, rfl, hM, hV, hO, hI⟩ := hrel
      have HV := Lib.hid hV
      have HO := Lib.hid hO
      have HI := Lib.hid hI
      clear hV hO hI
      obtain ⟨A12, c12, rfl⟩ := HO.out.sl
      by_cases cj : j < L
      · have hjl : j < l.length := by rw [HL.out]; exact cj
        obtain ⟨g, off, B1, bc, rfl, ldW, hb⟩ := HD.out.get2 j hjl
        have ld := ldW _ hM
        have hbr := hb.mo hM
        have XO := HD.out.ok _ (List.getElem_mem hjl)
        have ok : HdOk (classP l[j].bs).1.h := by rw [classP_fst]; exact takeP_ok _ hb.byte
        have i0' : (0 : Int) ≤ j := by omega
        have i1 : (j : Int) < L := by omega
        have za := sz_wide XO.at_
        have zs := sz_ends XO.src
        have zt := sz_ends XO.dst
        have oa := one_of_fits XO.at_
        have os := one_of_fits XO.src
        have ot := one_of_fits XO.dst
        have PL := playM_len (room := k) (by omega) l j
        have PE := playM_succ k l j hjl
        have RC := runC_succ wn k l j hjl
        have RB := runC_bd wn k l j
        have RNG := clsM_rng wn (playM k l j) l[j]
        have HV2 := Lib.hid (show MatV wr M T B k wn (runC wn k l j) (playM k l j) (fun i => ((w1.heap.size ≤ i ∧ i ≠ M) ∧ NoTy 72 wr i) ∧ i < wr.heap.size) from ⟨HV.out.m, HV.out.t.noTyK.weak fun i hi p => ⟨p, hi⟩, fun q => q.1.1.2 rfl⟩)
        have TK := Lib.hid (fun w (m : Mo wr w) => mtake_any M T B k wn (runC wn k l j) (playM k l j) _ l[j] _ w (HV2.out.mo m) ⟨B1, bc, rfl, hbr.mo m⟩ XO (by omega) (fun i => by have := RB i; omega) (by omega) (by omega))
        rw [← PE, ← RC] at TK
        have CL := Lib.hid (fun w (m : Mo W w) => class_any l[j] _ w ⟨B1, bc, rfl, hb.mo m⟩ XO)
        have KY := Lib.hid (fun w (m : Mo W w) u (hu : PkV w (classP l[j].bs).1 u) => key_any l[j] (classP l[j].bs).1 _ u w ⟨B1, bc, rfl, hb.mo m⟩ XO hu)
        have YO : KeyP (keyC l[j] (classP l[j].bs).1.h) := fits_key XO ok
        have yd : keyC l[j] (classP l[j].bs).1.h = keyC l[j] (classP l[j].bs).1.h := rfl
        have F1 := Lib.hid (fun c => HI.out.ask hjl c YO)
        have F2 := Lib.hid (fun c => HI.out.had hjl c)
        have F3 := Lib.hid (fun c A B e => HI.out.answer (A := A) (B := B) hjl c e)
        have F4 := Lib.hid (fun c1 c2 c4 c5 => HI.out.rest hjl c1 c2 c4 c5)
        have F5 : Hid (clsM wn (playM k l j) l[j] = 4 ∨ clsM wn (playM k l j) l[j] = 5 → (classP l[j].bs).1.h.m = 4) := Lib.hid fun c => classP_4 (cls_45 c).1
        have F6 : Hid (clsM wn (playM k l j) l[j] = 4 → (smM wn (playM k l j) l[j]).extract 0 36 = (keyC l[j] (classP l[j].bs).1.h).extract 0 36 ∧ (smM wn (playM k l j) l[j]).extract 42 44 = l[j].at_ ∧ Fits (ksOf 43) ((keyC l[j] (classP l[j].bs).1.h).extract 0 36).toList) := Lib.hid fun c => by
          have h4 := classP_4 (cls_45 (.inl c)).1
          have zf : SzA (l[j].dst ++ l[j].src) 36 := ⟨by rw [Array.size_append, zs.out, zt.out]⟩
          have eK : keyC l[j] (classP l[j].bs).1.h = kfC (l[j].dst ++ l[j].src) (classP l[j].bs).1.h.o := by
            unfold keyC
            rw [if_neg (by omega), if_pos h4]
            rfl
          rw [eK, kf_flow]
          unfold smM
          rw [if_pos c]
          refine ⟨?_, ?_, ?_⟩
          · unfold smpC
            exact sm_flow _ _ _ _ _ _ _ _ _
          · unfold smpC
            rw [sm_4]
            exact (wd_fits XO.at_).1.symm
          · have e : ksOf 43 = ksOf 38 ++ ksOf 38 := by kernel_rfl
            rw [e, Array.toList_append]
            exact fits_append XO.dst XO.src
        have zq : SzA (smM wn (playM k l j) l[j]) 48 := smM_sz XO
        have oq : OneA (smM wn (playM k l j) l[j]) := smM_one XO
        have zy := key_sz YO
        have oy := one_of_fits YO
        have FA := Lib.hid XO.at_
        have SUM := Lib.hid (runC_sum wn k l (j + 1) (by omega))
        have RBN := runC_bd wn k l (j + 1)
        have PLN := playM_len (room := k) (by omega) l (j + 1)
        have okp := ok
        generalize smM wn (playM k l j) l[j] = SM at *
        generalize clsM wn (playM k l j) l[j] = q at *
        generalize keyC l[j] (classP l[j].bs).1.h = y at *
        generalize (classP l[j].bs).2 = qc at *
        generalize (classP l[j].bs).1 = p at *
        generalize l[j].at_ = da at *
        generalize l[j].src = ds at *
        generalize l[j].dst = dd at *
        generalize l[j].bs.length = n at *
        have HYO := Lib.hid YO
        have hw : IntKind.i64.wrap ((j : Int) + 1) = j + 1 := by rw [IntKind.wrap_i64]; omega
        obtain ⟨N, hN⟩ : ∃ N, O.length = N := ⟨_, rfl⟩
        have HN := Lib.hid hN
        have Nj : N ≤ j := by have := HI.out.len; omega
        have OKP := Lib.hid HI.out.kp
        rw [hN] at HO ⊢
        clear hjl XO PE hb hbr ldW RC PL ok YO hN yd
        go_wp2_with fail
        refine (TK.out _ Mor.out).mono ?_
        rintro e w5 ⟨rfl, V5, K5⟩
        have N5 : Mo W w5 := K5.mo (hM.trans Mor.out) fun i hi s => by
          have := N1.size
          rcases s with s | rfl
          · omega
          · omega
        have b5 := K5.blk (inferInstance : Blk _ wr.heap.size 41 (dgC da ds dd (.slice B1 n bc))) (fun s => by
          have h1 := HV.out.m.lt
          rcases s with s | s
          · omega
          · omega)
        have V5' := Lib.hid (show MatV w5 M T B k wn (runC wn k l (j + 1)) (playM k l (j + 1)) (fun i => w1.heap.size ≤ i ∧ i ≠ M) from ⟨V5.m, V5.t.weak fun i _ p => by
          rcases p with p | p
          · exact p.1.1
          · have h1 : wr.heap.size + 1 ≤ i := by simpa using p
            have h2 := HV.out.m.lt
            have h3 := hM.size
            have h4 := HO.out
            refine ⟨?_, by omega⟩
            have : w1.heap.size ≤ M := lM'
            omega, fun q => q.2 rfl⟩)
        have O5 : Hid (RowU w5 w1.heap.size 72 37 (.slice A12 N c12) N (rowS O)) := Lib.hid ((HO.out.mo (Mor.out : Mo wr _)).keep fun g hg hl => K5.block g hl fun s => by
          rcases s with s | s
          · exact HO.out.ty g hg s.1.2
          · exact HO.out.neM HV.out.m g hg s)
        clear V5 K5 TK ld HV HV2 HO
        go_upto_region 12 with (fail)
        refine wp_name ?_
        intro w6 hw6
        have M56 : Mo w5 w6 := by rw [hw6]; exact Mor.out
        have s6 : Blk w6 w5.heap.size 45 SM := by rw [hw6]; infer_instance
        have b6 := M56.blk b5
        have N6 := N5.trans M56
        clear hw6 b5
        go_wp2_with fail
        refine (CL.out _ N6).mono ?_
        rintro e w7 ⟨u, rfl, X7, M7⟩
        have P7 := X7.at
        obtain ⟨a1, c1, a2, c2, rfl, -, -⟩ := X7
        have b7 := M7.blk b6
        have s7 := M7.blk s6
        have M57 := M56.trans M7
        have N7 := N6.trans M7
        clear M7 M56 CL b6 s6 N6
        go_upto_region 13 with (fail)
        refine wp_name ?_
        intro w8 hw8
        have M78 : Mo w7 w8 := by rw [hw8]; exact Mor.out
        have p8 : Blk w8 w7.heap.size 66 (pkL p.h (.slice a1 p.e.length c1) (.slice a2 p.m.length c2)).toArray := by rw [hw8]; infer_instance
        have P8 := P7.mo M78
        have b8 := M78.blk b7
        have s8 := M78.blk s7
        have M58 := M57.trans M78
        have N8 := N7.trans M78
        clear hw8 b7 s7 P7 M57 N7 M78
        go_wp2_with fail
        refine (KY.out _ N8 _ P8).mono ?_
        rintro e w9 ⟨rfl, M9⟩
        have b9 := M9.blk b8
        have s9 := M9.blk s8
        have p9 := M9.blk p8
        have M59 := M58.trans M9
        have N9 := N8.trans M9
        generalize keyB p.h = kb
        clear M9 KY b8 s8 p8 P8 M58 N8
        go_upto_region 14 with (fail)
        refine wp_name ?_
        intro w10 hw10
        have M9' : Mo w9 w10 := by rw [hw10]; exact Mor.out
        have y10 : Blk w10 w9.heap.size 72 y := by rw [hw10]; infer_instance
        have b10 := M9'.blk b9
        have s10 := M9'.blk s9
        have p10 := M9'.blk p9
        have M510 := M59.trans M9'
        have O10 := Lib.hid (O5.out.mo M510)
        have V10 := Lib.hid (V5'.out.mo M510)
        have N10 := N9.trans M9'
        clear hw10 b9 s9 p9 M59 N9 M9' O5 V5' M510 N5
        obtain ⟨g14, hg14⟩ : ∃ x, wr.heap.size = x := ⟨_, rfl⟩
        obtain ⟨g16, hg16⟩ : ∃ x, w5.heap.size = x := ⟨_, rfl⟩
        obtain ⟨g17, hg17⟩ : ∃ x, w7.heap.size = x := ⟨_, rfl⟩
        obtain ⟨g19, hg19⟩ : ∃ x, w9.heap.size = x := ⟨_, rfl⟩
        rw [hg14] at b10 ⊢
        rw [hg16] at s10 ⊢
        rw [hg17] at p10 ⊢
        rw [hg19] at y10 ⊢
        clear hg14 hg16 hg17 hg19
        go_wp2_with fail
        go_loopw [21, 82] (fun hd i wx => ∃ (m : Nat) (hh : Int), m ≤ N ∧ i = .int .i64 m ∧ hd = .int .i64 hh ∧ LastK O y m hh ∧ Mo w10 wx) (fun _ i _ => N - (intOf i).toNat)
        case atStart => exact ⟨0, -1, by omega, rfl, rfl, LastK.start _ _, Mor.out⟩
        case round =>
          obtain ⟨m, hh, hm, rfl, rfl, hLK, hM5⟩ := hrel
          have LK := Lib.hid hLK
          clear hLK
          have y5 := hM5.blk y10
          by_cases cm : m < N
          · have hmO : m < O.length := by rw [HN.out]; exact cm
            obtain ⟨gv, cv, ev, -, -, hcell⟩ := O10.out.cells (fun a ha => (key_sz (OKP.out a ha)).out) (by omega)
            injection ev with ev _ ev'
            subst ev ev'
            have hc := hcell m hmO
            have KX := OKP.out _ (List.getElem_mem hmO)
            have zx := key_sz KX
            have ld9 : ∀ w, Mo w10 w → (loadF 72 (.pointer (some ⟨gv, m * 37, none⟩))).run Try.prog w = .ok (.agg O[m]) w := fun w mw => run_loadC _ 37 w gv (m * 37) _ zx.out (fun jj u hv => by
              have h1 := hc jj u hv
              have : LtW gv w10 := LtW.of_cell h1
              rw [mw.cell, h1])
            have ld5 := ld9 _ (hM5.trans (mo_drew (Mo.refl _)))
            have ex := fun w => run_eql_flat fl_key w KX HYO.out
            simp only [eqlF_keyO] at ex
            have m0 : (0 : Int) ≤ m := by omega
            have m1 : (m : Int) < N := by omega
            have hwm : IntKind.i64.wrap ((m : Int) + 1) = m + 1 := by rw [IntKind.wrap_i64]; omega
            have oneX := one_of_fits KX
            have HT : Hid (eqA O[m] y = true → LastK O y (m + 1) m) := Lib.hid fun e => LK.out.hit (by rw [List.getElem?_eq_getElem hmO, eqA_iff.1 e])
            have HF : Hid (eqA O[m] y = false → LastK O y (m + 1) hh) := Lib.hid fun e => LK.out.miss hmO (fun q => by rw [eqA_iff.2 q] at e; cases e)
            generalize eqA O[m] y = r at *
            generalize O[m] = xm at *
            clear hcell hc KX hmO ld9
            cases r with
            | true =>
              have HT2 := Lib.hid (HT.out rfl)
              clear HT HF
              go_upto_region 18 with (fail)
              go_region
              go_wp2_with fail
              go_roundw
              case rel => exact ⟨m + 1, m, by omega, by go_num, rfl, HT2.out, hM5.trans (mo_drew (Mo.refl _))⟩
              case measure => simp [intOf]; omega
            | false =>
              have HT2 := Lib.hid (HF.out rfl)
              clear HT HF
              go_upto_region 18 with (fail)
              go_region
              go_wp2_with fail
              go_roundw
              case rel => exact ⟨m + 1, hh, by omega, by go_num, rfl, HT2.out, hM5.trans (mo_drew (Mo.refl _))⟩
              case measure => simp [intOf]; omega
          · obtain rfl : m = N := by omega
            have V11 := Lib.hid (V10.out.mo hM5)
            have O11 := Lib.hid (O10.out.mo hM5)
            have b11 := hM5.blk b10
            have s11 := hM5.blk s10
            have p11 := hM5.blk p10
            have N11 := N10.trans hM5
            have LK2 : Hid (LastK O y O.length hh) := Lib.hid (by rw [HN.out]; exact LK.out)
            clear V10 O10 b10 s10 p10 y10 N10 LK hM5
            by_cases q1 : q = 1 ∨ q = 2
            · obtain ⟨f1, f2⟩ := F1.out q1
              have HY := LK2.out
              rcases q1 with rfl | rfl
              · rcases HY with ⟨rfl, hno⟩ | ⟨p2, rfl, hp2, hp3⟩
                · clear hno
                  have I2 := Lib.hid f2
                  have e37 : y.toList.length = 1 * 37 := by rw [Array.length_toList, zy.out]
                  have iy : Blk (wr.alloc (.cells y 72)) wr.heap.size 72 y := inferInstance
                  obtain ⟨v4, w4, hrun, R4, gr4⟩ := ((O11.out.mo (Mor.out : Mo wr (wr.alloc (.cells y 72)))).append 68 68 72 i0 (.agg key0) 48 Try.underlying68 hi hz0 hz1 hz2 (by kernel_rfl) (by decide) ⟨wr.heap.size, 0, none⟩ 1 1 y.toList e37 (fun jj u hu => by
                      have ea : (⟨wr.heap.size, 0, none⟩ : Addr).add jj = ⟨wr.heap.size, jj, none⟩ := by
                        unfold Addr.add
                        split
                        · rename_i e; rw [e]
                        · rw [Nat.zero_add]
                      rw [ea, blk_cell iy, ← Array.getElem?_toList]
                      exact hu) (fun u hu => one_list (cs := y) inferInstance u hu) (by unfold maxLen; omega) (by omega) (Nat.le_trans (show w1.heap.size ≤ wr.heap.size from Nat.le_trans (Nat.le_of_lt (Nat.lt_of_le_of_lt lM' V11.out.m.lt)) (Nat.le_refl _)) (Mo.size Mor.out)))
                  obtain ⟨A4, c4, rfl⟩ := R4.sl
                  have V12 := Lib.hid (matV_beside (V11.out.mo (Mor.out : Mo wr (wr.alloc (.cells y 72)))) (O11.out.mo Mor.out) gr4)
                  have N12 : Mo W w4 := mo_grown (N11.trans Mor.out) gr4 (fun g e => by have h1 := (O11.out.lt g e).1; have h2 := N1.size; omega)
                  obtain ⟨m', hm'⟩ : ∃ x, m + 1 = x := ⟨_, rfl⟩
                  have R12 : Hid (RowU w4 w1.heap.size 72 37 (.slice A4 m' c4) m' (rowS (O ++ [y]))) := Lib.hid (by
                    rw [rowS_append, rowS_one, ← hm']
                    exact R4)
                  have HN2 : Hid ((O ++ [y]).length = m') := Lib.hid (by rw [List.length_append, HN.out, List.length_singleton, hm'])
                  rw [hm'] at hrun
                  replace hrun : (appAny #[68, 68] 68 #[.slice A12 m c12, .slice (some ⟨wr.heap.size, 0, none⟩) 1 1]).run Try.prog (wr.alloc (.cells y 72)) = .ok (.slice A4 m' c4) w4 := hrun
                  clear R4 gr4 hm' iy F1 F2 F3 F4 F5 F6 f1 f2 LK2 O11 V11
                  obtain ⟨wt, hwt⟩ : ∃ w, w = w4 := ⟨_, rfl⟩
                  subst hwt
                  have CT := Lib.hid (fun w (m : Mo wt w) => mcounts_any M T B k wn _ _ _ w (V12.out.mo m))
                  have LN := Lib.hid (fun w (m : Mo wt w) => mlen_any M T B k wn _ _ _ w (V12.out.mo m))
                  have CNT := Lib.hid I2.out.cnt
                  have CNC := Lib.hid (fun i (h : i < 9) => show (cnC (runC wn k l (j + 1)))[i]? = some (.int .i64 (runC wn k l (j + 1) i)) by
                    rcases i with _ | _ | _ | _ | _ | _ | _ | _ | _ | i
                    all_goals first | rfl | omega)
                  have zc : SzA (cnC (runC wn k l (j + 1))) 9 := ⟨rfl⟩
                  have oc : OneA (cnC (runC wn k l (j + 1))) := inferInstance
                  have SUMF : Hid (sumF (runC wn k l (j + 1)) 9 = j + 1) := Lib.hid (by
                    have := SUM.out
                    unfold sumF sumF sumF sumF sumF sumF sumF sumF sumF sumF
                    omega)
                  have SB := Lib.hid (sumF_bd RBN)
                  go_wp2_with fail
                  refine (CT.out _ Mor.out).mono ?_
                  rintro e w20 ⟨rfl, M20⟩
                  have C4 := CNC.out 4 (by omega)
                  have C5 := CNC.out 5 (by omega)
                  have C1 := CNC.out 1 (by omega)
                  have C2 := CNC.out 2 (by omega)
                  have cc0 := CNT.out
                  have rb4 := RBN 4
                  have rb5 := RBN 5
                  have rb1 := RBN 1
                  have rb2 := RBN 2
                  generalize hcf : runC wn k l (j + 1) = cf at *
                  have HCF := Lib.hid hcf
                  clear hcf
                  generalize cnC cf = CC at *
                  go_wp2_with fail
                  go_loopw [23, 143] (fun sm i wx => ∃ m2 : Nat, m2 ≤ 9 ∧ i = .int .i64 m2 ∧ sm = .int .i64 (sumF cf m2) ∧ Mo w20 wx) (fun _ i _ => 9 - (intOf i).toNat)
                  case atStart => exact ⟨0, by omega, rfl, rfl, Mor.out⟩
                  case round =>
                    obtain ⟨m2, hm2, rfl, rfl, hM6⟩ := hrel
                    by_cases cm2 : m2 < 9
                    · have CG := CNC.out m2 cm2
                      have hix := fun w => idx_cnt CC m2 cm2 _ CG w
                      have z0 : (0 : Int) ≤ m2 := by omega
                      have z1 : (m2 : Int) < 9 := by omega
                      have w9 : IntKind.i64.wrap ((m2 : Int) + 1) = m2 + 1 := by rw [IntKind.wrap_i64]; omega
                      have ws : IntKind.i64.wrap (sumF cf m2 + cf m2) = sumF cf (m2 + 1) := by
                        have q1 := SB.out m2
                        have q2 := RBN m2
                        have q3 : (m2 : Int) * ((j + 1 : Nat) : Int) ≤ 9 * ((j + 1 : Nat) : Int) := Int.mul_le_mul_of_nonneg_right (by omega) (by omega)
                        rw [sumF, IntKind.wrap_i64]
                        omega
                      clear C1 C2 C4 C5
                      go_wp2_with fail
                      go_roundw
                      case rel => exact ⟨m2 + 1, by omega, by go_num, rfl, hM6.trans Mor.out⟩
                      case measure => simp [intOf]; omega
                    · obtain rfl : m2 = 9 := by omega
                      have M30 := ((Mor.out : Mo wt _).trans M20).trans hM6
                      rw [SUMF.out]
                      have djj : (((j : Int) + 1) != ((j : Int) + 1)) = false := by simp
                      have w45 : IntKind.i64.wrap (cf 4 + cf 5) = cf 4 + cf 5 := by rw [IntKind.wrap_i64]; omega
                      have w12 : IntKind.i64.wrap (cf 1 + cf 2) = cf 1 + cf 2 := by rw [IntKind.wrap_i64]; omega
                      have dgt : decide (cf 1 + cf 2 < cf 4 + cf 5) = false := decide_eq_false (by omega)
                      have dln : decide (k < ((playM k l (j + 1)).length : Int)) = false := decide_eq_false (by omega)
                      have CT2 := Lib.hid (fun w (m : Mo wr w) => CT.out w (M30.trans m))
                      have LN2 := Lib.hid (fun w (m : Mo wr w) => LN.out w (M30.trans m))
                      generalize hln : ((playM k l (j + 1)).length : Int) = ln at *
                      clear hln CNC SUMF SB cc0 rb1 rb2 rb4 rb5
                      go_wp2_with fail
                      refine (CT2.out _ Mor.out).mono ?_
                      rintro e w21 ⟨rfl, M21⟩
                      have M31 := (Mor.out : Mo wr _).trans M21
                      go_wp2_with fail
                      refine (LN2.out _ (M31.trans Mor.out)).mono ?_
                      rintro e w22 ⟨rfl, M22⟩
                      have M32 := (M31.trans Mor.out).trans M22
                      go_wp2_with fail
                      go_roundw
                      case rel => exact ⟨j + 1, (O ++ [y]), by omega, by go_num, N12.trans (M30.trans (M32.trans Mor.out)), by rw [HCF.out]; exact V12.out.mo (M30.trans (M32.trans Mor.out)), by rw [HN2.out]; exact R12.out.mo (M30.trans (M32.trans Mor.out)), I2.out⟩
                      case measure => simp [intOf]; omega
                · skip
                  have I2 := Lib.hid (f1 (by exact List.mem_of_getElem? hp3))
                  have dh : decide ((p2 : Int) < 0) = false := decide_eq_false (by omega)
                  clear F1 F2 F3 F4 F5 F6 f1 f2 hp3 LK2
                  obtain ⟨wt, hwt⟩ : ∃ w, w = wr := ⟨_, rfl⟩
                  subst hwt
                  have CT := Lib.hid (fun w (m : Mo wt w) => mcounts_any M T B k wn _ _ _ w (V11.out.mo m))
                  have LN := Lib.hid (fun w (m : Mo wt w) => mlen_any M T B k wn _ _ _ w (V11.out.mo m))
                  have CNT := Lib.hid I2.out.cnt
                  have CNC := Lib.hid (fun i (h : i < 9) => show (cnC (runC wn k l (j + 1)))[i]? = some (.int .i64 (runC wn k l (j + 1) i)) by
                    rcases i with _ | _ | _ | _ | _ | _ | _ | _ | _ | i
                    all_goals first | rfl | omega)
                  have zc : SzA (cnC (runC wn k l (j + 1))) 9 := ⟨rfl⟩
                  have oc : OneA (cnC (runC wn k l (j + 1))) := inferInstance
                  have SUMF : Hid (sumF (runC wn k l (j + 1)) 9 = j + 1) := Lib.hid (by
                    have := SUM.out
                    unfold sumF sumF sumF sumF sumF sumF sumF sumF sumF sumF
                    omega)
                  have SB := Lib.hid (sumF_bd RBN)
                  go_wp2_with fail
                  refine (CT.out _ Mor.out).mono ?_
                  rintro e w20 ⟨rfl, M20⟩
                  have C4 := CNC.out 4 (by omega)
                  have C5 := CNC.out 5 (by omega)
                  have C1 := CNC.out 1 (by omega)
                  have C2 := CNC.out 2 (by omega)
                  have cc0 := CNT.out
                  have rb4 := RBN 4
                  have rb5 := RBN 5
                  have rb1 := RBN 1
                  have rb2 := RBN 2
                  generalize hcf : runC wn k l (j + 1) = cf at *
                  have HCF := Lib.hid hcf
                  clear hcf
                  generalize cnC cf = CC at *
                  go_wp2_with fail
                  go_loopw [23, 143] (fun sm i wx => ∃ m2 : Nat, m2 ≤ 9 ∧ i = .int .i64 m2 ∧ sm = .int .i64 (sumF cf m2) ∧ Mo w20 wx) (fun _ i _ => 9 - (intOf i).toNat)
                  case atStart => exact ⟨0, by omega, rfl, rfl, Mor.out⟩
                  case round =>
                    obtain ⟨m2, hm2, rfl, rfl, hM6⟩ := hrel
                    by_cases cm2 : m2 < 9
                    · have CG := CNC.out m2 cm2
                      have hix := fun w => idx_cnt CC m2 cm2 _ CG w
                      have z0 : (0 : Int) ≤ m2 := by omega
                      have z1 : (m2 : Int) < 9 := by omega
                      have w9 : IntKind.i64.wrap ((m2 : Int) + 1) = m2 + 1 := by rw [IntKind.wrap_i64]; omega
                      have ws : IntKind.i64.wrap (sumF cf m2 + cf m2) = sumF cf (m2 + 1) := by
                        have q1 := SB.out m2
                        have q2 := RBN m2
                        have q3 : (m2 : Int) * ((j + 1 : Nat) : Int) ≤ 9 * ((j + 1 : Nat) : Int) := Int.mul_le_mul_of_nonneg_right (by omega) (by omega)
                        rw [sumF, IntKind.wrap_i64]
                        omega
                      clear C1 C2 C4 C5
                      go_wp2_with fail
                      go_roundw
                      case rel => exact ⟨m2 + 1, by omega, by go_num, rfl, hM6.trans Mor.out⟩
                      case measure => simp [intOf]; omega
                    · obtain rfl : m2 = 9 := by omega
                      have M30 := ((Mor.out : Mo wt _).trans M20).trans hM6
                      rw [SUMF.out]
                      have djj : (((j : Int) + 1) != ((j : Int) + 1)) = false := by simp
                      have w45 : IntKind.i64.wrap (cf 4 + cf 5) = cf 4 + cf 5 := by rw [IntKind.wrap_i64]; omega
                      have w12 : IntKind.i64.wrap (cf 1 + cf 2) = cf 1 + cf 2 := by rw [IntKind.wrap_i64]; omega
                      have dgt : decide (cf 1 + cf 2 < cf 4 + cf 5) = false := decide_eq_false (by omega)
                      have dln : decide (k < ((playM k l (j + 1)).length : Int)) = false := decide_eq_false (by omega)
                      have CT2 := Lib.hid (fun w (m : Mo wr w) => CT.out w (M30.trans m))
                      have LN2 := Lib.hid (fun w (m : Mo wr w) => LN.out w (M30.trans m))
                      generalize hln : ((playM k l (j + 1)).length : Int) = ln at *
                      clear hln CNC SUMF SB cc0 rb1 rb2 rb4 rb5
                      go_wp2_with fail
                      refine (CT2.out _ Mor.out).mono ?_
                      rintro e w21 ⟨rfl, M21⟩
                      have M31 := (Mor.out : Mo wr _).trans M21
                      go_wp2_with fail
                      refine (LN2.out _ (M31.trans Mor.out)).mono ?_
                      rintro e w22 ⟨rfl, M22⟩
                      have M32 := (M31.trans Mor.out).trans M22
                      go_wp2_with fail
                      go_roundw
                      case rel => exact ⟨j + 1, O, by omega, by go_num, N11.trans (M30.trans (M32.trans Mor.out)), by rw [HCF.out]; exact V11.out.mo (M30.trans (M32.trans Mor.out)), by rw [HN.out]; exact O11.out.mo (M30.trans (M32.trans Mor.out)), I2.out⟩
                      case measure => simp [intOf]; omega
              · rcases HY with ⟨rfl, hno⟩ | ⟨p2, rfl, hp2, hp3⟩
                · clear hno
                  have I2 := Lib.hid f2
                  have e37 : y.toList.length = 1 * 37 := by rw [Array.length_toList, zy.out]
                  have iy : Blk (wr.alloc (.cells y 72)) wr.heap.size 72 y := inferInstance
                  obtain ⟨v4, w4, hrun, R4, gr4⟩ := ((O11.out.mo (Mor.out : Mo wr (wr.alloc (.cells y 72)))).append 68 68 72 i0 (.agg key0) 48 Try.underlying68 hi hz0 hz1 hz2 (by kernel_rfl) (by decide) ⟨wr.heap.size, 0, none⟩ 1 1 y.toList e37 (fun jj u hu => by
                      have ea : (⟨wr.heap.size, 0, none⟩ : Addr).add jj = ⟨wr.heap.size, jj, none⟩ := by
                        unfold Addr.add
                        split
                        · rename_i e; rw [e]
                        · rw [Nat.zero_add]
                      rw [ea, blk_cell iy, ← Array.getElem?_toList]
                      exact hu) (fun u hu => one_list (cs := y) inferInstance u hu) (by unfold maxLen; omega) (by omega) (Nat.le_trans (show w1.heap.size ≤ wr.heap.size from Nat.le_trans (Nat.le_of_lt (Nat.lt_of_le_of_lt lM' V11.out.m.lt)) (Nat.le_refl _)) (Mo.size Mor.out)))
                  obtain ⟨A4, c4, rfl⟩ := R4.sl
                  have V12 := Lib.hid (matV_beside (V11.out.mo (Mor.out : Mo wr (wr.alloc (.cells y 72)))) (O11.out.mo Mor.out) gr4)
                  have N12 : Mo W w4 := mo_grown (N11.trans Mor.out) gr4 (fun g e => by have h1 := (O11.out.lt g e).1; have h2 := N1.size; omega)
                  obtain ⟨m', hm'⟩ : ∃ x, m + 1 = x := ⟨_, rfl⟩
                  have R12 : Hid (RowU w4 w1.heap.size 72 37 (.slice A4 m' c4) m' (rowS (O ++ [y]))) := Lib.hid (by
                    rw [rowS_append, rowS_one, ← hm']
                    exact R4)
                  have HN2 : Hid ((O ++ [y]).length = m') := Lib.hid (by rw [List.length_append, HN.out, List.length_singleton, hm'])
                  rw [hm'] at hrun
                  replace hrun : (appAny #[68, 68] 68 #[.slice A12 m c12, .slice (some ⟨wr.heap.size, 0, none⟩) 1 1]).run Try.prog (wr.alloc (.cells y 72)) = .ok (.slice A4 m' c4) w4 := hrun
                  clear R4 gr4 hm' iy F1 F2 F3 F4 F5 F6 f1 f2 LK2 O11 V11
                  obtain ⟨wt, hwt⟩ : ∃ w, w = w4 := ⟨_, rfl⟩
                  subst hwt
                  have CT := Lib.hid (fun w (m : Mo wt w) => mcounts_any M T B k wn _ _ _ w (V12.out.mo m))
                  have LN := Lib.hid (fun w (m : Mo wt w) => mlen_any M T B k wn _ _ _ w (V12.out.mo m))
                  have CNT := Lib.hid I2.out.cnt
                  have CNC := Lib.hid (fun i (h : i < 9) => show (cnC (runC wn k l (j + 1)))[i]? = some (.int .i64 (runC wn k l (j + 1) i)) by
                    rcases i with _ | _ | _ | _ | _ | _ | _ | _ | _ | i
                    all_goals first | rfl | omega)
                  have zc : SzA (cnC (runC wn k l (j + 1))) 9 := ⟨rfl⟩
                  have oc : OneA (cnC (runC wn k l (j + 1))) := inferInstance
                  have SUMF : Hid (sumF (runC wn k l (j + 1)) 9 = j + 1) := Lib.hid (by
                    have := SUM.out
                    unfold sumF sumF sumF sumF sumF sumF sumF sumF sumF sumF
                    omega)
                  have SB := Lib.hid (sumF_bd RBN)
                  go_wp2_with fail
                  refine (CT.out _ Mor.out).mono ?_
                  rintro e w20 ⟨rfl, M20⟩
                  have C4 := CNC.out 4 (by omega)
                  have C5 := CNC.out 5 (by omega)
                  have C1 := CNC.out 1 (by omega)
                  have C2 := CNC.out 2 (by omega)
                  have cc0 := CNT.out
                  have rb4 := RBN 4
                  have rb5 := RBN 5
                  have rb1 := RBN 1
                  have rb2 := RBN 2
                  generalize hcf : runC wn k l (j + 1) = cf at *
                  have HCF := Lib.hid hcf
                  clear hcf
                  generalize cnC cf = CC at *
                  go_wp2_with fail
                  go_loopw [23, 143] (fun sm i wx => ∃ m2 : Nat, m2 ≤ 9 ∧ i = .int .i64 m2 ∧ sm = .int .i64 (sumF cf m2) ∧ Mo w20 wx) (fun _ i _ => 9 - (intOf i).toNat)
                  case atStart => exact ⟨0, by omega, rfl, rfl, Mor.out⟩
                  case round =>
                    obtain ⟨m2, hm2, rfl, rfl, hM6⟩ := hrel
                    by_cases cm2 : m2 < 9
                    · have CG := CNC.out m2 cm2
                      have hix := fun w => idx_cnt CC m2 cm2 _ CG w
                      have z0 : (0 : Int) ≤ m2 := by omega
                      have z1 : (m2 : Int) < 9 := by omega
                      have w9 : IntKind.i64.wrap ((m2 : Int) + 1) = m2 + 1 := by rw [IntKind.wrap_i64]; omega
                      have ws : IntKind.i64.wrap (sumF cf m2 + cf m2) = sumF cf (m2 + 1) := by
                        have q1 := SB.out m2
                        have q2 := RBN m2
                        have q3 : (m2 : Int) * ((j + 1 : Nat) : Int) ≤ 9 * ((j + 1 : Nat) : Int) := Int.mul_le_mul_of_nonneg_right (by omega) (by omega)
                        rw [sumF, IntKind.wrap_i64]
                        omega
                      clear C1 C2 C4 C5
                      go_wp2_with fail
                      go_roundw
                      case rel => exact ⟨m2 + 1, by omega, by go_num, rfl, hM6.trans Mor.out⟩
                      case measure => simp [intOf]; omega
                    · obtain rfl : m2 = 9 := by omega
                      have M30 := ((Mor.out : Mo wt _).trans M20).trans hM6
                      rw [SUMF.out]
                      have djj : (((j : Int) + 1) != ((j : Int) + 1)) = false := by simp
                      have w45 : IntKind.i64.wrap (cf 4 + cf 5) = cf 4 + cf 5 := by rw [IntKind.wrap_i64]; omega
                      have w12 : IntKind.i64.wrap (cf 1 + cf 2) = cf 1 + cf 2 := by rw [IntKind.wrap_i64]; omega
                      have dgt : decide (cf 1 + cf 2 < cf 4 + cf 5) = false := decide_eq_false (by omega)
                      have dln : decide (k < ((playM k l (j + 1)).length : Int)) = false := decide_eq_false (by omega)
                      have CT2 := Lib.hid (fun w (m : Mo wr w) => CT.out w (M30.trans m))
                      have LN2 := Lib.hid (fun w (m : Mo wr w) => LN.out w (M30.trans m))
                      generalize hln : ((playM k l (j + 1)).length : Int) = ln at *
                      clear hln CNC SUMF SB cc0 rb1 rb2 rb4 rb5
                      go_wp2_with fail
                      refine (CT2.out _ Mor.out).mono ?_
                      rintro e w21 ⟨rfl, M21⟩
                      have M31 := (Mor.out : Mo wr _).trans M21
                      go_wp2_with fail
                      refine (LN2.out _ (M31.trans Mor.out)).mono ?_
                      rintro e w22 ⟨rfl, M22⟩
                      have M32 := (M31.trans Mor.out).trans M22
                      go_wp2_with fail
                      go_roundw
                      case rel => exact ⟨j + 1, (O ++ [y]), by omega, by go_num, N12.trans (M30.trans (M32.trans Mor.out)), by rw [HCF.out]; exact V12.out.mo (M30.trans (M32.trans Mor.out)), by rw [HN2.out]; exact R12.out.mo (M30.trans (M32.trans Mor.out)), I2.out⟩
                      case measure => simp [intOf]; omega
                · skip
                  have I2 := Lib.hid (f1 (by exact List.mem_of_getElem? hp3))
                  have dh : decide ((p2 : Int) < 0) = false := decide_eq_false (by omega)
                  clear F1 F2 F3 F4 F5 F6 f1 f2 hp3 LK2
                  obtain ⟨wt, hwt⟩ : ∃ w, w = wr := ⟨_, rfl⟩
                  subst hwt
                  have CT := Lib.hid (fun w (m : Mo wt w) => mcounts_any M T B k wn _ _ _ w (V11.out.mo m))
                  have LN := Lib.hid (fun w (m : Mo wt w) => mlen_any M T B k wn _ _ _ w (V11.out.mo m))
                  have CNT := Lib.hid I2.out.cnt
                  have CNC := Lib.hid (fun i (h : i < 9) => show (cnC (runC wn k l (j + 1)))[i]? = some (.int .i64 (runC wn k l (j + 1) i)) by
                    rcases i with _ | _ | _ | _ | _ | _ | _ | _ | _ | i
                    all_goals first | rfl | omega)
                  have zc : SzA (cnC (runC wn k l (j + 1))) 9 := ⟨rfl⟩
                  have oc : OneA (cnC (runC wn k l (j + 1))) := inferInstance
                  have SUMF : Hid (sumF (runC wn k l (j + 1)) 9 = j + 1) := Lib.hid (by
                    have := SUM.out
                    unfold sumF sumF sumF sumF sumF sumF sumF sumF sumF sumF
                    omega)
                  have SB := Lib.hid (sumF_bd RBN)
                  go_wp2_with fail
                  refine (CT.out _ Mor.out).mono ?_
                  rintro e w20 ⟨rfl, M20⟩
                  have C4 := CNC.out 4 (by omega)
                  have C5 := CNC.out 5 (by omega)
                  have C1 := CNC.out 1 (by omega)
                  have C2 := CNC.out 2 (by omega)
                  have cc0 := CNT.out
                  have rb4 := RBN 4
                  have rb5 := RBN 5
                  have rb1 := RBN 1
                  have rb2 := RBN 2
                  generalize hcf : runC wn k l (j + 1) = cf at *
                  have HCF := Lib.hid hcf
                  clear hcf
                  generalize cnC cf = CC at *
                  go_wp2_with fail
                  go_loopw [23, 143] (fun sm i wx => ∃ m2 : Nat, m2 ≤ 9 ∧ i = .int .i64 m2 ∧ sm = .int .i64 (sumF cf m2) ∧ Mo w20 wx) (fun _ i _ => 9 - (intOf i).toNat)
                  case atStart => exact ⟨0, by omega, rfl, rfl, Mor.out⟩
                  case round =>
                    obtain ⟨m2, hm2, rfl, rfl, hM6⟩ := hrel
                    by_cases cm2 : m2 < 9
                    · have CG := CNC.out m2 cm2
                      have hix := fun w => idx_cnt CC m2 cm2 _ CG w
                      have z0 : (0 : Int) ≤ m2 := by omega
                      have z1 : (m2 : Int) < 9 := by omega
                      have w9 : IntKind.i64.wrap ((m2 : Int) + 1) = m2 + 1 := by rw [IntKind.wrap_i64]; omega
                      have ws : IntKind.i64.wrap (sumF cf m2 + cf m2) = sumF cf (m2 + 1) := by
                        have q1 := SB.out m2
                        have q2 := RBN m2
                        have q3 : (m2 : Int) * ((j + 1 : Nat) : Int) ≤ 9 * ((j + 1 : Nat) : Int) := Int.mul_le_mul_of_nonneg_right (by omega) (by omega)
                        rw [sumF, IntKind.wrap_i64]
                        omega
                      clear C1 C2 C4 C5
                      go_wp2_with fail
                      go_roundw
                      case rel => exact ⟨m2 + 1, by omega, by go_num, rfl, hM6.trans Mor.out⟩
                      case measure => simp [intOf]; omega
                    · obtain rfl : m2 = 9 := by omega
                      have M30 := ((Mor.out : Mo wt _).trans M20).trans hM6
                      rw [SUMF.out]
                      have djj : (((j : Int) + 1) != ((j : Int) + 1)) = false := by simp
                      have w45 : IntKind.i64.wrap (cf 4 + cf 5) = cf 4 + cf 5 := by rw [IntKind.wrap_i64]; omega
                      have w12 : IntKind.i64.wrap (cf 1 + cf 2) = cf 1 + cf 2 := by rw [IntKind.wrap_i64]; omega
                      have dgt : decide (cf 1 + cf 2 < cf 4 + cf 5) = false := decide_eq_false (by omega)
                      have dln : decide (k < ((playM k l (j + 1)).length : Int)) = false := decide_eq_false (by omega)
                      have CT2 := Lib.hid (fun w (m : Mo wr w) => CT.out w (M30.trans m))
                      have LN2 := Lib.hid (fun w (m : Mo wr w) => LN.out w (M30.trans m))
                      generalize hln : ((playM k l (j + 1)).length : Int) = ln at *
                      clear hln CNC SUMF SB cc0 rb1 rb2 rb4 rb5
                      go_wp2_with fail
                      refine (CT2.out _ Mor.out).mono ?_
                      rintro e w21 ⟨rfl, M21⟩
                      have M31 := (Mor.out : Mo wr _).trans M21
                      go_wp2_with fail
                      refine (LN2.out _ (M31.trans Mor.out)).mono ?_
                      rintro e w22 ⟨rfl, M22⟩
                      have M32 := (M31.trans Mor.out).trans M22
                      go_wp2_with fail
                      go_roundw
                      case rel => exact ⟨j + 1, O, by omega, by go_num, N11.trans (M30.trans (M32.trans Mor.out)), by rw [HCF.out]; exact V11.out.mo (M30.trans (M32.trans Mor.out)), by rw [HN.out]; exact O11.out.mo (M30.trans (M32.trans Mor.out)), I2.out⟩
                      case measure => simp [intOf]; omega
            · by_cases q4 : q = 4 ∨ q = 5
              · have HY := LK2.out
                have hmem := F2.out q4
                rcases HY with ⟨rfl, hno⟩ | ⟨p2, rfl, hp2, hp3⟩
                · exact absurd hmem (by rw [List.take_length] at hno; exact hno)
                have hp2' : p2 < m := by rw [HN.out] at hp2; exact hp2
                clear hmem hp2
                rcases q4 with rfl | rfl
                · obtain ⟨e1, e2, FF⟩ := F6.out rfl
                  have nf := fun w => run_neq_self fl_flow w FF
                  have nw := fun w => run_neq_self fl_wide w FA.out
                  obtain ⟨gv, cv, ev, hbv, hcap, -⟩ := O11.out.cells (fun a ha => (key_sz (OKP.out a ha)).out) (by omega)
                  injection ev with ev _ ev'
                  subst ev ev'
                  have szO : ∀ a ∈ O, a.size = 37 := fun a ha => (key_sz (OKP.out a ha)).out
                  have RC1 := O11.out.cut szO HN.out p2 (by omega)
                  have s1 : ∀ w : World, (Instr.slice 68 (.slice (some ⟨gv, 0, none⟩) m c12) none (some (.int .i64 (p2 : Int))) (some (.int .i64 (p2 : Int)))).run Try.prog w = .ok (.slice (some ⟨gv, 0, none⟩) p2 p2) w := fun w => by
                    rw [run_slice_hm w 68 (some ⟨gv, 0, none⟩) m c12 Try.underlying68 .i64 .i64 p2 p2 (by omega) (by omega) (by omega), sizeKy]
                    show Result.ok (sliced _ 0 p2 p2 37) w = _
                    unfold sliced
                    rw [Nat.sub_zero]
                    split
                    · rfl
                    · rw [show Option.map (fun x : Addr => x.add (0 * 37)) (some ⟨gv, 0, none⟩) = some ⟨gv, 0, none⟩ by rw [Option.map_some, Go.WideShapes.add_plain]]
                  have s1' : ∀ w : World, (Instr.sliceAt 68 (.slice (some ⟨gv, 0, none⟩) m c12) none (some (.int .i64 (p2 : Int))) (some (.int .i64 (p2 : Int)))).run Try.prog w = .ok (.slice (some ⟨gv, 0, none⟩) p2 p2) w := fun w => by
                    rw [run_sliceAt_slice w 68 _ _ _ _ Try.underlying68]
                    exact s1 w
                  obtain ⟨o2, s2, ho2⟩ : ∃ o2, (∀ w : World, (Instr.slice 68 (.slice (some ⟨gv, 0, none⟩) m c12) (some (.int .i64 ((p2 : Int) + 1))) none none).run Try.prog w = .ok (.slice (some ⟨gv, o2, none⟩) (m - (p2 + 1)) (c12 - (p2 + 1))) w) ∧ (0 < m - (p2 + 1) → o2 = (p2 + 1) * 37) := by
                    have q : ∀ w : World, (Instr.slice 68 (.slice (some ⟨gv, 0, none⟩) m c12) (some (.int .i64 ((p2 : Int) + 1))) none none).run Try.prog w = .ok (sliced (some ⟨gv, 0, none⟩) (p2 + 1) m c12 37) w := fun w => by
                      have := run_slice_l (P := Try.prog) w 68 (some ⟨gv, 0, none⟩) m c12 Try.underlying68 .i64 ((p2 + 1 : Nat) : Int) (by omega) (by omega)
                      rw [sizeKy] at this
                      exact this
                    unfold sliced at q
                    by_cases cc : c12 = p2 + 1
                    · rw [if_pos cc] at q
                      exact ⟨0, q, fun h => by omega⟩
                    · rw [if_neg cc] at q
                      refine ⟨(p2 + 1) * 37, fun w => (q w).trans ?_, fun _ => rfl⟩
                      rw [show Option.map (fun x : Addr => x.add ((p2 + 1) * 37)) (some ⟨gv, 0, none⟩) = some ⟨gv, (p2 + 1) * 37, none⟩ by rw [Option.map_some, Go.WideShapes.add_plain, Nat.zero_add]]
                  have s2' : ∀ w : World, (Instr.sliceAt 68 (.slice (some ⟨gv, 0, none⟩) m c12) (some (.int .i64 ((p2 : Int) + 1))) none none).run Try.prog w = .ok (.slice (some ⟨gv, o2, none⟩) (m - (p2 + 1)) (c12 - (p2 + 1))) w := fun w => by
                    rw [run_sliceAt_slice w 68 _ _ _ _ Try.underlying68]
                    exact s2 w
                  have hDl : (O.drop (p2 + 1)).length = m - (p2 + 1) := by rw [List.length_drop, HN.out]
                  have szD : ∀ a ∈ O.drop (p2 + 1), a.size = 37 := fun a ha => szO a (List.mem_of_mem_drop ha)
                  obtain ⟨v4, w4, hrun, R4, gr4⟩ := ((RC1.mo (mo_drew (Mo.refl wr))).append 68 68 72 i0 (.agg key0) 48 Try.underlying68 hi hz0 hz1 hz2 (by kernel_rfl) (by decide) ⟨gv, o2, none⟩ (m - (p2 + 1)) (c12 - (p2 + 1)) (rowS (O.drop (p2 + 1))) (by rw [rowS_len szD, hDl]) (fun jj u hu => by
                      have ea : (⟨gv, o2, none⟩ : Addr).add jj = ⟨gv, o2 + jj, none⟩ := by
                        unfold Addr.add
                        split
                        · rename_i e; rw [e]; rfl
                        · rfl
                      have hlt := (List.getElem?_eq_some_iff.1 hu).1
                      rw [rowS_len szD, hDl] at hlt
                      rw [ea, ho2 (by omega)]
                      exact (O11.out.mo (mo_drew (Mo.refl wr))).dropcells szO HN.out (p2 + 1) (by omega) jj u hu) (fun u hu => by
                      unfold rowS at hu
                      obtain ⟨a, ha, hua⟩ := List.mem_flatMap.1 hu
                      exact one_list (cs := a) (one_of_fits (OKP.out a (List.mem_of_mem_drop ha))) u hua) (by unfold maxLen; omega) (by omega) (show w1.heap.size ≤ wr.heap.size from Nat.le_of_lt (Nat.lt_of_le_of_lt lM' V11.out.m.lt)))
                  obtain ⟨A4, c4, rfl⟩ := R4.sl
                  have V12 := Lib.hid (matV_beside (V11.out.mo (mo_drew (Mo.refl wr))) (RC1.mo (mo_drew (Mo.refl wr))) gr4)
                  have N12 : Mo W w4 := mo_grown (N11.trans (mo_drew (Mo.refl wr))) gr4 (fun g e => by have h1 := (RC1.lt g e).1; have h2 := N1.size; omega)
                  obtain ⟨m', hm'⟩ : ∃ x, p2 + (m - (p2 + 1)) = x := ⟨_, rfl⟩
                  have R12 : Hid (RowU w4 w1.heap.size 72 37 (.slice A4 m' c4) m' (rowS (O.take p2 ++ O.drop (p2 + 1)))) := Lib.hid (by
                    rw [rowS_append, ← hm']
                    exact R4)
                  have HN2 : Hid ((O.take p2 ++ O.drop (p2 + 1)).length = m') := Lib.hid (by rw [List.length_append, List.length_take, hDl, HN.out, Nat.min_eq_left (by omega), hm'])
                  rw [hm'] at hrun
                  replace hrun : (appAny #[68, 68] 68 #[.slice (some ⟨gv, 0, none⟩) p2 p2, .slice (some ⟨gv, o2, none⟩) (m - (p2 + 1)) (c12 - (p2 + 1))]).run Try.prog wr.drew = .ok (.slice A4 m' c4) w4 := hrun
                  have wp1 : IntKind.i64.wrap ((p2 : Int) + 1) = p2 + 1 := by rw [IntKind.wrap_i64]; omega
                  have I2 : Hid (OnceI wn k l (j + 1) (O.take p2 ++ O.drop (p2 + 1))) := Lib.hid (F3.out (.inl rfl) (O.take p2) (O.drop (p2 + 1)) (by
                    have hlt := (List.getElem?_eq_some_iff.1 hp3).1
                    have e1 : O[p2] = y := (List.getElem?_eq_some_iff.1 hp3).2
                    rw [← e1, List.getElem_cons_drop, List.take_append_drop]))
                  have dh : decide ((p2 : Int) < 0) = false := decide_eq_false (by omega)
                  have dm : (p.h.m != 4) = false := by rw [F5.out (.inl rfl)]; rfl
                  clear R4 gr4 hm' RC1 szO szD hDl ho2 hcap
                  clear F1 F2 F3 F4 F5 F6 LK2 hp3 FF
                  go_upto_region 30 with (fail)
                  go_region
                  obtain ⟨wt, hwt⟩ : ∃ w, w = w4 := ⟨_, rfl⟩
                  subst hwt
                  have CT := Lib.hid (fun w (m : Mo wt w) => mcounts_any M T B k wn _ _ _ w (V12.out.mo m))
                  have LN := Lib.hid (fun w (m : Mo wt w) => mlen_any M T B k wn _ _ _ w (V12.out.mo m))
                  have CNT := Lib.hid I2.out.cnt
                  have CNC := Lib.hid (fun i (h : i < 9) => show (cnC (runC wn k l (j + 1)))[i]? = some (.int .i64 (runC wn k l (j + 1) i)) by
                    rcases i with _ | _ | _ | _ | _ | _ | _ | _ | _ | i
                    all_goals first | rfl | omega)
                  have zc : SzA (cnC (runC wn k l (j + 1))) 9 := ⟨rfl⟩
                  have oc : OneA (cnC (runC wn k l (j + 1))) := inferInstance
                  have SUMF : Hid (sumF (runC wn k l (j + 1)) 9 = j + 1) := Lib.hid (by
                    have := SUM.out
                    unfold sumF sumF sumF sumF sumF sumF sumF sumF sumF sumF
                    omega)
                  have SB := Lib.hid (sumF_bd RBN)
                  go_wp2_with fail
                  refine (CT.out _ Mor.out).mono ?_
                  rintro e w20 ⟨rfl, M20⟩
                  have C4 := CNC.out 4 (by omega)
                  have C5 := CNC.out 5 (by omega)
                  have C1 := CNC.out 1 (by omega)
                  have C2 := CNC.out 2 (by omega)
                  have cc0 := CNT.out
                  have rb4 := RBN 4
                  have rb5 := RBN 5
                  have rb1 := RBN 1
                  have rb2 := RBN 2
                  generalize hcf : runC wn k l (j + 1) = cf at *
                  have HCF := Lib.hid hcf
                  clear hcf
                  generalize cnC cf = CC at *
                  go_wp2_with fail
                  go_loopw [23, 143] (fun sm i wx => ∃ m2 : Nat, m2 ≤ 9 ∧ i = .int .i64 m2 ∧ sm = .int .i64 (sumF cf m2) ∧ Mo w20 wx) (fun _ i _ => 9 - (intOf i).toNat)
                  case atStart => exact ⟨0, by omega, rfl, rfl, Mor.out⟩
                  case round =>
                    obtain ⟨m2, hm2, rfl, rfl, hM6⟩ := hrel
                    by_cases cm2 : m2 < 9
                    · have CG := CNC.out m2 cm2
                      have hix := fun w => idx_cnt CC m2 cm2 _ CG w
                      have z0 : (0 : Int) ≤ m2 := by omega
                      have z1 : (m2 : Int) < 9 := by omega
                      have w9 : IntKind.i64.wrap ((m2 : Int) + 1) = m2 + 1 := by rw [IntKind.wrap_i64]; omega
                      have ws : IntKind.i64.wrap (sumF cf m2 + cf m2) = sumF cf (m2 + 1) := by
                        have q1 := SB.out m2
                        have q2 := RBN m2
                        have q3 : (m2 : Int) * ((j + 1 : Nat) : Int) ≤ 9 * ((j + 1 : Nat) : Int) := Int.mul_le_mul_of_nonneg_right (by omega) (by omega)
                        rw [sumF, IntKind.wrap_i64]
                        omega
                      clear C1 C2 C4 C5
                      go_wp2_with fail
                      go_roundw
                      case rel => exact ⟨m2 + 1, by omega, by go_num, rfl, hM6.trans Mor.out⟩
                      case measure => simp [intOf]; omega
                    · obtain rfl : m2 = 9 := by omega
                      have M30 := ((Mor.out : Mo wt _).trans M20).trans hM6
                      rw [SUMF.out]
                      have djj : (((j : Int) + 1) != ((j : Int) + 1)) = false := by simp
                      have w45 : IntKind.i64.wrap (cf 4 + cf 5) = cf 4 + cf 5 := by rw [IntKind.wrap_i64]; omega
                      have w12 : IntKind.i64.wrap (cf 1 + cf 2) = cf 1 + cf 2 := by rw [IntKind.wrap_i64]; omega
                      have dgt : decide (cf 1 + cf 2 < cf 4 + cf 5) = false := decide_eq_false (by omega)
                      have dln : decide (k < ((playM k l (j + 1)).length : Int)) = false := decide_eq_false (by omega)
                      have CT2 := Lib.hid (fun w (m : Mo wr w) => CT.out w (M30.trans m))
                      have LN2 := Lib.hid (fun w (m : Mo wr w) => LN.out w (M30.trans m))
                      generalize hln : ((playM k l (j + 1)).length : Int) = ln at *
                      clear hln CNC SUMF SB cc0 rb1 rb2 rb4 rb5
                      go_wp2_with fail
                      refine (CT2.out _ Mor.out).mono ?_
                      rintro e w21 ⟨rfl, M21⟩
                      have M31 := (Mor.out : Mo wr _).trans M21
                      go_wp2_with fail
                      refine (LN2.out _ (M31.trans Mor.out)).mono ?_
                      rintro e w22 ⟨rfl, M22⟩
                      have M32 := (M31.trans Mor.out).trans M22
                      go_wp2_with fail
                      go_roundw
                      case rel => exact ⟨j + 1, (O.take p2 ++ O.drop (p2 + 1)), by omega, by go_num, N12.trans (M30.trans (M32.trans Mor.out)), by rw [HCF.out]; exact V12.out.mo (M30.trans (M32.trans Mor.out)), by rw [HN2.out]; exact R12.out.mo (M30.trans (M32.trans Mor.out)), I2.out⟩
                      case measure => simp [intOf]; omega
                · skip
                  obtain ⟨gv, cv, ev, hbv, hcap, -⟩ := O11.out.cells (fun a ha => (key_sz (OKP.out a ha)).out) (by omega)
                  injection ev with ev _ ev'
                  subst ev ev'
                  have szO : ∀ a ∈ O, a.size = 37 := fun a ha => (key_sz (OKP.out a ha)).out
                  have RC1 := O11.out.cut szO HN.out p2 (by omega)
                  have s1 : ∀ w : World, (Instr.slice 68 (.slice (some ⟨gv, 0, none⟩) m c12) none (some (.int .i64 (p2 : Int))) (some (.int .i64 (p2 : Int)))).run Try.prog w = .ok (.slice (some ⟨gv, 0, none⟩) p2 p2) w := fun w => by
                    rw [run_slice_hm w 68 (some ⟨gv, 0, none⟩) m c12 Try.underlying68 .i64 .i64 p2 p2 (by omega) (by omega) (by omega), sizeKy]
                    show Result.ok (sliced _ 0 p2 p2 37) w = _
                    unfold sliced
                    rw [Nat.sub_zero]
                    split
                    · rfl
                    · rw [show Option.map (fun x : Addr => x.add (0 * 37)) (some ⟨gv, 0, none⟩) = some ⟨gv, 0, none⟩ by rw [Option.map_some, Go.WideShapes.add_plain]]
                  have s1' : ∀ w : World, (Instr.sliceAt 68 (.slice (some ⟨gv, 0, none⟩) m c12) none (some (.int .i64 (p2 : Int))) (some (.int .i64 (p2 : Int)))).run Try.prog w = .ok (.slice (some ⟨gv, 0, none⟩) p2 p2) w := fun w => by
                    rw [run_sliceAt_slice w 68 _ _ _ _ Try.underlying68]
                    exact s1 w
                  obtain ⟨o2, s2, ho2⟩ : ∃ o2, (∀ w : World, (Instr.slice 68 (.slice (some ⟨gv, 0, none⟩) m c12) (some (.int .i64 ((p2 : Int) + 1))) none none).run Try.prog w = .ok (.slice (some ⟨gv, o2, none⟩) (m - (p2 + 1)) (c12 - (p2 + 1))) w) ∧ (0 < m - (p2 + 1) → o2 = (p2 + 1) * 37) := by
                    have q : ∀ w : World, (Instr.slice 68 (.slice (some ⟨gv, 0, none⟩) m c12) (some (.int .i64 ((p2 : Int) + 1))) none none).run Try.prog w = .ok (sliced (some ⟨gv, 0, none⟩) (p2 + 1) m c12 37) w := fun w => by
                      have := run_slice_l (P := Try.prog) w 68 (some ⟨gv, 0, none⟩) m c12 Try.underlying68 .i64 ((p2 + 1 : Nat) : Int) (by omega) (by omega)
                      rw [sizeKy] at this
                      exact this
                    unfold sliced at q
                    by_cases cc : c12 = p2 + 1
                    · rw [if_pos cc] at q
                      exact ⟨0, q, fun h => by omega⟩
                    · rw [if_neg cc] at q
                      refine ⟨(p2 + 1) * 37, fun w => (q w).trans ?_, fun _ => rfl⟩
                      rw [show Option.map (fun x : Addr => x.add ((p2 + 1) * 37)) (some ⟨gv, 0, none⟩) = some ⟨gv, (p2 + 1) * 37, none⟩ by rw [Option.map_some, Go.WideShapes.add_plain, Nat.zero_add]]
                  have s2' : ∀ w : World, (Instr.sliceAt 68 (.slice (some ⟨gv, 0, none⟩) m c12) (some (.int .i64 ((p2 : Int) + 1))) none none).run Try.prog w = .ok (.slice (some ⟨gv, o2, none⟩) (m - (p2 + 1)) (c12 - (p2 + 1))) w := fun w => by
                    rw [run_sliceAt_slice w 68 _ _ _ _ Try.underlying68]
                    exact s2 w
                  have hDl : (O.drop (p2 + 1)).length = m - (p2 + 1) := by rw [List.length_drop, HN.out]
                  have szD : ∀ a ∈ O.drop (p2 + 1), a.size = 37 := fun a ha => szO a (List.mem_of_mem_drop ha)
                  obtain ⟨v4, w4, hrun, R4, gr4⟩ := ((RC1.mo (mo_drew (Mo.refl wr))).append 68 68 72 i0 (.agg key0) 48 Try.underlying68 hi hz0 hz1 hz2 (by kernel_rfl) (by decide) ⟨gv, o2, none⟩ (m - (p2 + 1)) (c12 - (p2 + 1)) (rowS (O.drop (p2 + 1))) (by rw [rowS_len szD, hDl]) (fun jj u hu => by
                      have ea : (⟨gv, o2, none⟩ : Addr).add jj = ⟨gv, o2 + jj, none⟩ := by
                        unfold Addr.add
                        split
                        · rename_i e; rw [e]; rfl
                        · rfl
                      have hlt := (List.getElem?_eq_some_iff.1 hu).1
                      rw [rowS_len szD, hDl] at hlt
                      rw [ea, ho2 (by omega)]
                      exact (O11.out.mo (mo_drew (Mo.refl wr))).dropcells szO HN.out (p2 + 1) (by omega) jj u hu) (fun u hu => by
                      unfold rowS at hu
                      obtain ⟨a, ha, hua⟩ := List.mem_flatMap.1 hu
                      exact one_list (cs := a) (one_of_fits (OKP.out a (List.mem_of_mem_drop ha))) u hua) (by unfold maxLen; omega) (by omega) (show w1.heap.size ≤ wr.heap.size from Nat.le_of_lt (Nat.lt_of_le_of_lt lM' V11.out.m.lt)))
                  obtain ⟨A4, c4, rfl⟩ := R4.sl
                  have V12 := Lib.hid (matV_beside (V11.out.mo (mo_drew (Mo.refl wr))) (RC1.mo (mo_drew (Mo.refl wr))) gr4)
                  have N12 : Mo W w4 := mo_grown (N11.trans (mo_drew (Mo.refl wr))) gr4 (fun g e => by have h1 := (RC1.lt g e).1; have h2 := N1.size; omega)
                  obtain ⟨m', hm'⟩ : ∃ x, p2 + (m - (p2 + 1)) = x := ⟨_, rfl⟩
                  have R12 : Hid (RowU w4 w1.heap.size 72 37 (.slice A4 m' c4) m' (rowS (O.take p2 ++ O.drop (p2 + 1)))) := Lib.hid (by
                    rw [rowS_append, ← hm']
                    exact R4)
                  have HN2 : Hid ((O.take p2 ++ O.drop (p2 + 1)).length = m') := Lib.hid (by rw [List.length_append, List.length_take, hDl, HN.out, Nat.min_eq_left (by omega), hm'])
                  rw [hm'] at hrun
                  replace hrun : (appAny #[68, 68] 68 #[.slice (some ⟨gv, 0, none⟩) p2 p2, .slice (some ⟨gv, o2, none⟩) (m - (p2 + 1)) (c12 - (p2 + 1))]).run Try.prog wr.drew = .ok (.slice A4 m' c4) w4 := hrun
                  have wp1 : IntKind.i64.wrap ((p2 : Int) + 1) = p2 + 1 := by rw [IntKind.wrap_i64]; omega
                  have I2 : Hid (OnceI wn k l (j + 1) (O.take p2 ++ O.drop (p2 + 1))) := Lib.hid (F3.out (.inr rfl) (O.take p2) (O.drop (p2 + 1)) (by
                    have hlt := (List.getElem?_eq_some_iff.1 hp3).1
                    have e1 : O[p2] = y := (List.getElem?_eq_some_iff.1 hp3).2
                    rw [← e1, List.getElem_cons_drop, List.take_append_drop]))
                  have dh : decide ((p2 : Int) < 0) = false := decide_eq_false (by omega)
                  have dm : (p.h.m != 4) = false := by rw [F5.out (.inr rfl)]; rfl
                  clear R4 gr4 hm' RC1 szO szD hDl ho2 hcap
                  clear F1 F2 F3 F4 F5 F6 LK2 hp3
                  go_upto_region 30 with (fail)
                  go_region
                  obtain ⟨wt, hwt⟩ : ∃ w, w = w4 := ⟨_, rfl⟩
                  subst hwt
                  have CT := Lib.hid (fun w (m : Mo wt w) => mcounts_any M T B k wn _ _ _ w (V12.out.mo m))
                  have LN := Lib.hid (fun w (m : Mo wt w) => mlen_any M T B k wn _ _ _ w (V12.out.mo m))
                  have CNT := Lib.hid I2.out.cnt
                  have CNC := Lib.hid (fun i (h : i < 9) => show (cnC (runC wn k l (j + 1)))[i]? = some (.int .i64 (runC wn k l (j + 1) i)) by
                    rcases i with _ | _ | _ | _ | _ | _ | _ | _ | _ | i
                    all_goals first | rfl | omega)
                  have zc : SzA (cnC (runC wn k l (j + 1))) 9 := ⟨rfl⟩
                  have oc : OneA (cnC (runC wn k l (j + 1))) := inferInstance
                  have SUMF : Hid (sumF (runC wn k l (j + 1)) 9 = j + 1) := Lib.hid (by
                    have := SUM.out
                    unfold sumF sumF sumF sumF sumF sumF sumF sumF sumF sumF
                    omega)
                  have SB := Lib.hid (sumF_bd RBN)
                  go_wp2_with fail
                  refine (CT.out _ Mor.out).mono ?_
                  rintro e w20 ⟨rfl, M20⟩
                  have C4 := CNC.out 4 (by omega)
                  have C5 := CNC.out 5 (by omega)
                  have C1 := CNC.out 1 (by omega)
                  have C2 := CNC.out 2 (by omega)
                  have cc0 := CNT.out
                  have rb4 := RBN 4
                  have rb5 := RBN 5
                  have rb1 := RBN 1
                  have rb2 := RBN 2
                  generalize hcf : runC wn k l (j + 1) = cf at *
                  have HCF := Lib.hid hcf
                  clear hcf
                  generalize cnC cf = CC at *
                  go_wp2_with fail
                  go_loopw [23, 143] (fun sm i wx => ∃ m2 : Nat, m2 ≤ 9 ∧ i = .int .i64 m2 ∧ sm = .int .i64 (sumF cf m2) ∧ Mo w20 wx) (fun _ i _ => 9 - (intOf i).toNat)
                  case atStart => exact ⟨0, by omega, rfl, rfl, Mor.out⟩
                  case round =>
                    obtain ⟨m2, hm2, rfl, rfl, hM6⟩ := hrel
                    by_cases cm2 : m2 < 9
                    · have CG := CNC.out m2 cm2
                      have hix := fun w => idx_cnt CC m2 cm2 _ CG w
                      have z0 : (0 : Int) ≤ m2 := by omega
                      have z1 : (m2 : Int) < 9 := by omega
                      have w9 : IntKind.i64.wrap ((m2 : Int) + 1) = m2 + 1 := by rw [IntKind.wrap_i64]; omega
                      have ws : IntKind.i64.wrap (sumF cf m2 + cf m2) = sumF cf (m2 + 1) := by
                        have q1 := SB.out m2
                        have q2 := RBN m2
                        have q3 : (m2 : Int) * ((j + 1 : Nat) : Int) ≤ 9 * ((j + 1 : Nat) : Int) := Int.mul_le_mul_of_nonneg_right (by omega) (by omega)
                        rw [sumF, IntKind.wrap_i64]
                        omega
                      clear C1 C2 C4 C5
                      go_wp2_with fail
                      go_roundw
                      case rel => exact ⟨m2 + 1, by omega, by go_num, rfl, hM6.trans Mor.out⟩
                      case measure => simp [intOf]; omega
                    · obtain rfl : m2 = 9 := by omega
                      have M30 := ((Mor.out : Mo wt _).trans M20).trans hM6
                      rw [SUMF.out]
                      have djj : (((j : Int) + 1) != ((j : Int) + 1)) = false := by simp
                      have w45 : IntKind.i64.wrap (cf 4 + cf 5) = cf 4 + cf 5 := by rw [IntKind.wrap_i64]; omega
                      have w12 : IntKind.i64.wrap (cf 1 + cf 2) = cf 1 + cf 2 := by rw [IntKind.wrap_i64]; omega
                      have dgt : decide (cf 1 + cf 2 < cf 4 + cf 5) = false := decide_eq_false (by omega)
                      have dln : decide (k < ((playM k l (j + 1)).length : Int)) = false := decide_eq_false (by omega)
                      have CT2 := Lib.hid (fun w (m : Mo wr w) => CT.out w (M30.trans m))
                      have LN2 := Lib.hid (fun w (m : Mo wr w) => LN.out w (M30.trans m))
                      generalize hln : ((playM k l (j + 1)).length : Int) = ln at *
                      clear hln CNC SUMF SB cc0 rb1 rb2 rb4 rb5
                      go_wp2_with fail
                      refine (CT2.out _ Mor.out).mono ?_
                      rintro e w21 ⟨rfl, M21⟩
                      have M31 := (Mor.out : Mo wr _).trans M21
                      go_wp2_with fail
                      refine (LN2.out _ (M31.trans Mor.out)).mono ?_
                      rintro e w22 ⟨rfl, M22⟩
                      have M32 := (M31.trans Mor.out).trans M22
                      go_wp2_with fail
                      go_roundw
                      case rel => exact ⟨j + 1, (O.take p2 ++ O.drop (p2 + 1)), by omega, by go_num, N12.trans (M30.trans (M32.trans Mor.out)), by rw [HCF.out]; exact V12.out.mo (M30.trans (M32.trans Mor.out)), by rw [HN2.out]; exact R12.out.mo (M30.trans (M32.trans Mor.out)), I2.out⟩
                      case measure => simp [intOf]; omega

              · have I2 := Lib.hid (F4.out (by omega) (by omega) (by omega) (by omega))
                have d1 : (q == 1) = false := by simp; omega
                have d2 : (q == 2) = false := by simp; omega
                have d4 : (q == 4) = false := by simp; omega
                have d5 : (q == 5) = false := by simp; omega
                clear q1 q4 F1 F2 F3 F4 F5 F6
                obtain ⟨wt, hwt⟩ : ∃ w, w = wr := ⟨_, rfl⟩
                subst hwt
                have CT := Lib.hid (fun w (m : Mo wt w) => mcounts_any M T B k wn _ _ _ w (V11.out.mo m))
                have LN := Lib.hid (fun w (m : Mo wt w) => mlen_any M T B k wn _ _ _ w (V11.out.mo m))
                have CNT := Lib.hid I2.out.cnt
                have CNC := Lib.hid (fun i (h : i < 9) => show (cnC (runC wn k l (j + 1)))[i]? = some (.int .i64 (runC wn k l (j + 1) i)) by
                  rcases i with _ | _ | _ | _ | _ | _ | _ | _ | _ | i
                  all_goals first | rfl | omega)
                have zc : SzA (cnC (runC wn k l (j + 1))) 9 := ⟨rfl⟩
                have oc : OneA (cnC (runC wn k l (j + 1))) := inferInstance
                have SUMF : Hid (sumF (runC wn k l (j + 1)) 9 = j + 1) := Lib.hid (by
                  have := SUM.out
                  unfold sumF sumF sumF sumF sumF sumF sumF sumF sumF sumF
                  omega)
                have SB := Lib.hid (sumF_bd RBN)
                go_wp2_with fail
                refine (CT.out _ Mor.out).mono ?_
                rintro e w20 ⟨rfl, M20⟩
                have C4 := CNC.out 4 (by omega)
                have C5 := CNC.out 5 (by omega)
                have C1 := CNC.out 1 (by omega)
                have C2 := CNC.out 2 (by omega)
                have cc0 := CNT.out
                have rb4 := RBN 4
                have rb5 := RBN 5
                have rb1 := RBN 1
                have rb2 := RBN 2
                generalize hcf : runC wn k l (j + 1) = cf at *
                have HCF := Lib.hid hcf
                clear hcf
                generalize cnC cf = CC at *
                go_wp2_with fail
                go_loopw [23, 143] (fun sm i wx => ∃ m2 : Nat, m2 ≤ 9 ∧ i = .int .i64 m2 ∧ sm = .int .i64 (sumF cf m2) ∧ Mo w20 wx) (fun _ i _ => 9 - (intOf i).toNat)
                case atStart => exact ⟨0, by omega, rfl, rfl, Mor.out⟩
                case round =>
                  obtain ⟨m2, hm2, rfl, rfl, hM6⟩ := hrel
                  by_cases cm2 : m2 < 9
                  · have CG := CNC.out m2 cm2
                    have hix := fun w => idx_cnt CC m2 cm2 _ CG w
                    have z0 : (0 : Int) ≤ m2 := by omega
                    have z1 : (m2 : Int) < 9 := by omega
                    have w9 : IntKind.i64.wrap ((m2 : Int) + 1) = m2 + 1 := by rw [IntKind.wrap_i64]; omega
                    have ws : IntKind.i64.wrap (sumF cf m2 + cf m2) = sumF cf (m2 + 1) := by
                      have q1 := SB.out m2
                      have q2 := RBN m2
                      have q3 : (m2 : Int) * ((j + 1 : Nat) : Int) ≤ 9 * ((j + 1 : Nat) : Int) := Int.mul_le_mul_of_nonneg_right (by omega) (by omega)
                      rw [sumF, IntKind.wrap_i64]
                      omega
                    clear C1 C2 C4 C5
                    go_wp2_with fail
                    go_roundw
                    case rel => exact ⟨m2 + 1, by omega, by go_num, rfl, hM6.trans Mor.out⟩
                    case measure => simp [intOf]; omega
                  · obtain rfl : m2 = 9 := by omega
                    have M30 := ((Mor.out : Mo wt _).trans M20).trans hM6
                    rw [SUMF.out]
                    have djj : (((j : Int) + 1) != ((j : Int) + 1)) = false := by simp
                    have w45 : IntKind.i64.wrap (cf 4 + cf 5) = cf 4 + cf 5 := by rw [IntKind.wrap_i64]; omega
                    have w12 : IntKind.i64.wrap (cf 1 + cf 2) = cf 1 + cf 2 := by rw [IntKind.wrap_i64]; omega
                    have dgt : decide (cf 1 + cf 2 < cf 4 + cf 5) = false := decide_eq_false (by omega)
                    have dln : decide (k < ((playM k l (j + 1)).length : Int)) = false := decide_eq_false (by omega)
                    have CT2 := Lib.hid (fun w (m : Mo wr w) => CT.out w (M30.trans m))
                    have LN2 := Lib.hid (fun w (m : Mo wr w) => LN.out w (M30.trans m))
                    generalize hln : ((playM k l (j + 1)).length : Int) = ln at *
                    clear hln CNC SUMF SB cc0 rb1 rb2 rb4 rb5
                    go_wp2_with fail
                    refine (CT2.out _ Mor.out).mono ?_
                    rintro e w21 ⟨rfl, M21⟩
                    have M31 := (Mor.out : Mo wr _).trans M21
                    go_wp2_with fail
                    refine (LN2.out _ (M31.trans Mor.out)).mono ?_
                    rintro e w22 ⟨rfl, M22⟩
                    have M32 := (M31.trans Mor.out).trans M22
                    go_wp2_with fail
                    go_roundw
                    case rel => exact ⟨j + 1, O, by omega, by go_num, N11.trans (M30.trans (M32.trans Mor.out)), by rw [HCF.out]; exact V11.out.mo (M30.trans (M32.trans Mor.out)), by rw [HN.out]; exact O11.out.mo (M30.trans (M32.trans Mor.out)), I2.out⟩
                    case measure => simp [intOf]; omega
      · obtain rfl : j = L := by omega
        obtain ⟨wa, hwa⟩ : ∃ w, w = wr := ⟨_, rfl⟩
        subst hwa
        have V1a := Lib.hid (show MatV wa M T B k wn (runC wn k l j) (playM k l j) (fun i => (w1.heap.size ≤ i ∧ i ≠ M) ∧ i < wa.heap.size) from ⟨HV.out.m, HV.out.t.weak fun i hi p => ⟨p, hi⟩, fun q => q.1.2 rfl⟩)
        have lMa := HV.out.m.lt
        have sWa := hM.size
        clear HV HO HI
        go_wp2_with fail
        refine (NI.out _).mono ?_
        rintro e wb ⟨M2, T2, B2, rfl, V2, lM2, Mb⟩
        have Eb : Mo wa wb := Mo.trans Mor.out Mb
        have lM2' : wa.heap.size ≤ M2 := Nat.le_trans (Mo.size Mor.out) lM2
        have V2b := Lib.hid (show MatV wb M2 T2 B2 k wn (runC wn k l 0) (playM k l 0) (fun i => wa.heap.size ≤ i ∧ i ≠ M2) from ⟨V2.m, V2.t.weak fun i _ q => ⟨Nat.le_trans (Mo.size Mor.out) q.1, q.2⟩, fun q => q.2 rfl⟩)
        have V1b := Lib.hid (V1a.out.mo Eb)
        have Nb := hM.trans Eb
        have sab := Eb.size
        have lMb := V2.m.lt
        clear V2 Mb lM2 V1a NI
        obtain ⟨fr, hfr⟩ : ∃ fr : Nat, (fr : Int) = if atk < (j : Int) then atk else (j : Int) := ⟨if atk < (j : Int) then atk.toNat else j, by split <;> omega⟩
        have frl : fr ≤ j := by split at hfr <;> omega
        have hf1 : (if atk < (j : Int) then atk else (j : Int)) = fr := hfr.symm
        have hf2 : (if (j : Int) < atk then (j : Int) else atk) = fr := by rw [hfr]; split <;> split <;> omega
        have hf3 : min atk (j : Int) = fr := by rw [hfr]; split <;> omega
        have wat : IntKind.i64.wrap atk = atk := by rw [IntKind.wrap_i64]; omega
        obtain ⟨A2, dl, s1, s1'⟩ := HD.out.low fr (by rw [HL.out]; exact frl)
        rw [HL.out] at s1 s1'
        have DL := Lib.hid dl
        clear dl hfr
        go_wp2_with fail
        go_loopw [198] (fun i wx => ∃ m : Nat, m ≤ fr ∧ i = .int .i64 m ∧ Mo W wx ∧ wb.heap.size ≤ wx.heap.size ∧ MatV wx M2 T2 B2 k wn (runC wn k l m) (playM k l m) (fun i => wa.heap.size ≤ i ∧ i ≠ M2) ∧ MatV wx M T B k wn (runC wn k l j) (playM k l j) (fun i => (w1.heap.size ≤ i ∧ i ≠ M) ∧ i < wa.heap.size)) (fun i _ => fr - (intOf i).toNat)
        case atStart => exact ⟨0, by omega, rfl, Nb, Nat.le_refl _, V2b.out, V1b.out⟩
        case round =>
          obtain ⟨m, hm, rfl, hMm, hsz, hX, hO0⟩ := hrel
          have HX := Lib.hid hX
          have HO0 := Lib.hid hO0
          clear hX hO0
          by_cases cm : m < fr
          · have hmt : m < (l.take fr).length := by rw [List.length_take, HL.out]; omega
            obtain ⟨g, off, B1, bc, rfl, ldW, hb⟩ := DL.out.get2 m hmt
            have ld := ldW _ hMm
            have hbr := hb.mo hMm
            simp only [List.getElem_take] at ld hbr
            clear ldW hb
            have hjl : m < l.length := by rw [HL.out]; omega
            have XO := HD.out.ok _ (List.getElem_mem hjl)
            have i0' : (0 : Int) ≤ m := by omega
            have i1 : (m : Int) < fr := by omega
            have za := sz_wide XO.at_
            have zs := sz_ends XO.src
            have zt := sz_ends XO.dst
            have oa := one_of_fits XO.at_
            have os := one_of_fits XO.src
            have ot := one_of_fits XO.dst
            have PL := playM_len (room := k) (by omega) l m
            have PE := playM_succ k l m hjl
            have RC := runC_succ wn k l m hjl
            have RB := runC_bd wn k l m
            have HX2 := Lib.hid (show MatV wr M2 T2 B2 k wn (runC wn k l m) (playM k l m) (fun i => ((fun i => wa.heap.size ≤ i ∧ i ≠ M2)) i ∧ i < wr.heap.size) from ⟨HX.out.m, HX.out.t.weak fun i hi p => ⟨p, hi⟩, fun q => HX.out.np q.1⟩)
            have TK := Lib.hid (fun w (mm : Mo wr w) => mtake_any M2 T2 B2 k wn (runC wn k l m) (playM k l m) _ l[m] _ w (HX2.out.mo mm) ⟨B1, bc, rfl, hbr.mo mm⟩ XO (by omega) (fun i => by have := RB i; omega) (by omega) (by omega))
            rw [← PE, ← RC] at TK
            have lm := HX.out.m.lt
            generalize smM wn (playM k l m) l[m] = SM at *
            generalize clsM wn (playM k l m) l[m] = q at *
            generalize l[m].at_ = da at *
            generalize l[m].src = ds at *
            generalize l[m].dst = dd at *
            generalize l[m].bs.length = n at *
            have hw : IntKind.i64.wrap ((m : Int) + 1) = m + 1 := by rw [IntKind.wrap_i64]; omega
            clear hjl XO PE RC PL hbr hmt
            go_wp2_with fail
            refine (TK.out _ Mor.out).mono ?_
            rintro e w5 ⟨rfl, V5, K5⟩
            have N5 : Mo W w5 := K5.mo (hMm.trans Mor.out) fun i hi s => by
              rcases s with s | rfl
              · have := s.1; omega
              · omega
            have s5 : wr.heap.size + 1 ≤ w5.heap.size := Nat.le_trans (by simp) K5.size
            have V5' := Lib.hid (show MatV w5 M2 T2 B2 k wn (runC wn k l (m + 1)) (playM k l (m + 1)) (fun i => wa.heap.size ≤ i ∧ i ≠ M2) from ⟨V5.m, V5.t.weak fun i _ p => by
              rcases p with p | p
              · exact p.1
              · have h1 : wr.heap.size + 1 ≤ i := by simpa using p
                omega, HX.out.np⟩)
            have U0 := Lib.hid ((HO0.out.mo (Mor.out : Mo wr (wr.alloc (.cells (dgC da ds dd (.slice B1 n bc)) 41)))).keep K5 (fun s => by
              have := HO0.out.m.lt
              rcases s with s | s
              · have := s.1; omega
              · omega) (fun i hi p s => by
              rcases s with s | s
              · have := s.1; omega
              · omega))
            clear V5 K5 TK HX HX2
            go_wp2_with fail
            go_roundw
            case rel => exact ⟨m + 1, by omega, by go_num, N5.trans Mor.out, by omega, V5'.out.mo Mor.out, U0.out.mo Mor.out⟩
            case measure => simp [intOf]; omega
          · obtain rfl : m = fr := by omega
            obtain ⟨wc, hwc⟩ : ∃ w, w = wr := ⟨_, rfl⟩
            subst hwc
            have V1c := Lib.hid HO0.out
            have V2c := Lib.hid HX.out
            have PLm := playM_len (room := k) (by omega) l m
            have lM2c := HX.out.m.lt
            have CP := Lib.hid (fun w (mm : Mo wc w) => mcopy_any M2 T2 B2 k wn _ _ _ w (V2c.out.mo mm) (by omega) (by omega) (by omega))
            clear HX HO0 s1 s1' DL V2b V1b
            go_wp2_with fail
            refine (CP.out _ Mor.out).mono ?_
            rintro e wd ⟨M3, T3, B3, rfl, V3, lM3, Md⟩
            have Ed : Mo wc wd := Mo.trans Mor.out Md
            have lM3' : wc.heap.size ≤ M3 := Nat.le_trans (Mo.size Mor.out) lM3
            have lM3d := V3.m.lt
            have scd := Ed.size
            have Nd := hMm.trans Ed
            have V1d := Lib.hid (V1c.out.mo Ed)
            have V2d := Lib.hid (show MatV wd M2 T2 B2 k wn (runC wn k l (m + 0)) (playM k l (m + 0)) (fun i => (wa.heap.size ≤ i ∧ i ≠ M2) ∧ (i < wc.heap.size ∨ wd.heap.size ≤ i)) from by
              have q : MatV wc M2 T2 B2 k wn (runC wn k l m) (playM k l m) (fun i => (wa.heap.size ≤ i ∧ i ≠ M2) ∧ (i < wc.heap.size ∨ wd.heap.size ≤ i)) := ⟨V2c.out.m, V2c.out.t.weak fun i hi p => ⟨p, .inl hi⟩, fun q => q.1.2 rfl⟩
              exact q.mo Ed)
            have V3d := Lib.hid (show MatV wd M3 T3 B3 k wn (runC wn k l m) (playM k l m) (fun i => (wc.heap.size ≤ i ∧ i ≠ M3) ∧ i < wd.heap.size) from ⟨V3.m, V3.t.weak fun i hi p => ⟨⟨Nat.le_trans (Mo.size Mor.out) p.1, p.2⟩, hi⟩, fun q => q.1.2 rfl⟩)
            clear V3 Md lM3 CP V1c V2c
            obtain ⟨fr, hfr'⟩ : ∃ x, x = m := ⟨_, rfl⟩
            subst hfr'
            obtain ⟨A3, dh, h1, h1'⟩ := HD.out.high fr (by rw [HL.out]; exact frl)
            rw [HL.out] at h1 h1'
            have DH := Lib.hid dh
            clear dh hMm
            go_wp2_with fail
            go_loopw [214] (fun i wx => ∃ m : Nat, m ≤ (j - fr) ∧ i = .int .i64 m ∧ Mo W wx ∧ wd.heap.size ≤ wx.heap.size ∧ MatV wx M2 T2 B2 k wn (runC wn k l (fr + m)) (playM k l (fr + m)) (fun i => (wa.heap.size ≤ i ∧ i ≠ M2) ∧ (i < wc.heap.size ∨ wd.heap.size ≤ i)) ∧ MatV wx M T B k wn (runC wn k l j) (playM k l j) (fun i => (w1.heap.size ≤ i ∧ i ≠ M) ∧ i < wa.heap.size) ∧ MatV wx M3 T3 B3 k wn (runC wn k l fr) (playM k l fr) (fun i => (wc.heap.size ≤ i ∧ i ≠ M3) ∧ i < wd.heap.size)) (fun i _ => (j - fr) - (intOf i).toNat)
            case atStart => exact ⟨0, by omega, rfl, Nd, Nat.le_refl _, V2d.out, V1d.out, V3d.out⟩
            case round =>
              obtain ⟨m, hm, rfl, hMm, hsz, hX, hO0, hO1⟩ := hrel
              have HX := Lib.hid hX
              have HO0 := Lib.hid hO0
              have HO1 := Lib.hid hO1
              clear hX hO0 hO1
              by_cases cm : m < (j - fr)
              · have hmt : m < (l.drop fr).length := by rw [List.length_drop, HL.out]; omega
                obtain ⟨g, off, B1, bc, rfl, ldW, hb⟩ := DH.out.get2 m hmt
                have ld := ldW _ hMm
                have hbr := hb.mo hMm
                simp only [List.getElem_drop] at ld hbr
                clear ldW hb
                have hjl : (fr + m) < l.length := by rw [HL.out]; omega
                have XO := HD.out.ok _ (List.getElem_mem hjl)
                have i0' : (0 : Int) ≤ m := by omega
                have i1 : (m : Int) < (j - fr) := by omega
                have za := sz_wide XO.at_
                have zs := sz_ends XO.src
                have zt := sz_ends XO.dst
                have oa := one_of_fits XO.at_
                have os := one_of_fits XO.src
                have ot := one_of_fits XO.dst
                have PL := playM_len (room := k) (by omega) l (fr + m)
                have PE := playM_succ k l (fr + m) hjl
                have RC := runC_succ wn k l (fr + m) hjl
                have RB := runC_bd wn k l (fr + m)
                have HX2 := Lib.hid (show MatV wr M2 T2 B2 k wn (runC wn k l (fr + m)) (playM k l (fr + m)) (fun i => ((fun i => (wa.heap.size ≤ i ∧ i ≠ M2) ∧ (i < wc.heap.size ∨ wd.heap.size ≤ i))) i ∧ i < wr.heap.size) from ⟨HX.out.m, HX.out.t.weak fun i hi p => ⟨p, hi⟩, fun q => HX.out.np q.1⟩)
                have TK := Lib.hid (fun w (mm : Mo wr w) => mtake_any M2 T2 B2 k wn (runC wn k l (fr + m)) (playM k l (fr + m)) _ l[(fr + m)] _ w (HX2.out.mo mm) ⟨B1, bc, rfl, hbr.mo mm⟩ XO (by omega) (fun i => by have := RB i; omega) (by omega) (by omega))
                rw [← PE, ← RC] at TK
                have lm := HX.out.m.lt
                generalize smM wn (playM k l (fr + m)) l[(fr + m)] = SM at *
                generalize clsM wn (playM k l (fr + m)) l[(fr + m)] = q at *
                generalize l[(fr + m)].at_ = da at *
                generalize l[(fr + m)].src = ds at *
                generalize l[(fr + m)].dst = dd at *
                generalize l[(fr + m)].bs.length = n at *
                have hw : IntKind.i64.wrap ((m : Int) + 1) = m + 1 := by rw [IntKind.wrap_i64]; omega
                clear hjl XO PE RC PL hbr hmt
                go_wp2_with fail
                refine (TK.out _ Mor.out).mono ?_
                rintro e w5 ⟨rfl, V5, K5⟩
                have N5 : Mo W w5 := K5.mo (hMm.trans Mor.out) fun i hi s => by
                  rcases s with s | rfl
                  · have := s.1; omega
                  · omega
                have s5 : wr.heap.size + 1 ≤ w5.heap.size := Nat.le_trans (by simp) K5.size
                have V5' := Lib.hid (show MatV w5 M2 T2 B2 k wn (runC wn k l (fr + (m + 1))) (playM k l (fr + (m + 1))) (fun i => (wa.heap.size ≤ i ∧ i ≠ M2) ∧ (i < wc.heap.size ∨ wd.heap.size ≤ i)) from ⟨V5.m, V5.t.weak fun i _ p => by
                  rcases p with p | p
                  · exact p.1
                  · have h1 : wr.heap.size + 1 ≤ i := by simpa using p
                    omega, HX.out.np⟩)
                have U0 := Lib.hid ((HO0.out.mo (Mor.out : Mo wr (wr.alloc (.cells (dgC da ds dd (.slice B1 n bc)) 41)))).keep K5 (fun s => by
                  have := HO0.out.m.lt
                  rcases s with s | s
                  · have := s.1; omega
                  · omega) (fun i hi p s => by
                  rcases s with s | s
                  · have := s.1; omega
                  · omega))
                have U1 := Lib.hid ((HO1.out.mo (Mor.out : Mo wr (wr.alloc (.cells (dgC da ds dd (.slice B1 n bc)) 41)))).keep K5 (fun s => by
                  have := HO1.out.m.lt
                  rcases s with s | s
                  · have := s.1; omega
                  · omega) (fun i hi p s => by
                  rcases s with s | s
                  · have := s.1; omega
                  · omega))
                clear V5 K5 TK HX HX2
                go_wp2_with fail
                go_roundw
                case rel => exact ⟨m + 1, by omega, by go_num, N5.trans Mor.out, by omega, V5'.out.mo Mor.out, U0.out.mo Mor.out, U1.out.mo Mor.out⟩
                case measure => simp [intOf]; omega
              · obtain rfl : m = (j - fr) := by omega
                obtain ⟨we, hwe⟩ : ∃ w, w = wr := ⟨_, rfl⟩
                subst hwe
                have ej : fr + (j - fr) = j := by omega
                have V2x := HX.out
                rw [ej] at V2x
                have V1e := Lib.hid HO0.out
                have V2e := Lib.hid (show MatV we M2 T2 B2 k wn (runC wn k l j) (playM k l j) (fun i => ((wa.heap.size ≤ i ∧ i ≠ M2) ∧ (i < wc.heap.size ∨ wd.heap.size ≤ i)) ∧ i < we.heap.size) from ⟨V2x.m, V2x.t.weak fun i hi p => ⟨p, hi⟩, fun q => q.1.1.2 rfl⟩)
                have V3e := Lib.hid (show MatV we M3 T3 B3 k wn (runC wn k l (fr + 0)) (playM k l (fr + 0)) (fun i => (wc.heap.size ≤ i ∧ i ≠ M3) ∧ (i < wd.heap.size ∨ we.heap.size ≤ i)) from ⟨HO1.out.m, HO1.out.t.weak fun i hi p => ⟨p.1, .inl p.2⟩, fun q => q.1.2 rfl⟩)
                have Ne := hMm
                have RBj := runC_bd wn k l j
                have PLf := playM_len (room := k) (by omega) l fr
                have lM2e := V2x.m.lt
                have lM3e := HO1.out.m.lt
                have lMe := HO0.out.m.lt
                have FC := Lib.hid (fits_cnC (c := runC wn k l j) fun i => by have := RBj i; omega)
                have CT2 := Lib.hid (fun w (mm : Mo we w) => mcounts_any M2 T2 B2 k wn _ _ _ w (V2e.out.mo mm))
                have CT1 := Lib.hid (fun w (mm : Mo we w) => mcounts_any M T B k wn _ _ _ w (V1e.out.mo mm))
                have LN3 := Lib.hid (fun w (mm : Mo we w) => mlen_any M3 T3 B3 k wn _ _ _ w (V3e.out.mo mm))
                rw [Nat.add_zero] at LN3
                have dln : decide (k < ((playM k l fr).length : Int)) = false := decide_eq_false (by omega)
                have zc : SzA (cnC (runC wn k l j)) 9 := ⟨rfl⟩
                have nq := fun w => run_neq_self fl_cnt w FC.out
                have eqc := fun w => run_eqlF_self fl_cnt w FC.out
                generalize hcc : cnC (runC wn k l j) = CC at CT1 CT2 nq eqc zc
                have HCC := Lib.hid hcc
                generalize ((playM k l fr).length : Int) = lnf at LN3 dln
                clear HX HO0 HO1 V2x hcc V1d V2d V3d RBj PLf
                go_wp2_with fail
                refine (CT2.out _ Mor.out).mono ?_
                rintro e w31 ⟨rfl, M31⟩
                have K1 := (Mor.out : Mo we _).trans M31
                go_wp2_with fail
                refine (CT1.out _ (K1.trans Mor.out)).mono ?_
                rintro e w32 ⟨rfl, M32⟩
                have K2 := (K1.trans Mor.out).trans M32
                go_wp2_with fail
                refine (LN3.out _ (K2.trans Mor.out)).mono ?_
                rintro e w33 ⟨rfl, M33⟩
                have K3 := (K2.trans Mor.out).trans M33
                clear M31 M32 M33 K1 K2 CT1 CT2 LN3
                have V1f := Lib.hid (V1e.out.mo K3)
                have V2f := Lib.hid (V2e.out.mo K3)
                have V3f := Lib.hid (V3e.out.mo K3)
                have Nf := Ne.trans K3
                have s3e := K3.size
                go_wp2_with fail
                go_loopw [237] (fun i wx => ∃ m : Nat, m ≤ (j - fr) ∧ i = .int .i64 m ∧ Mo W wx ∧ we.heap.size ≤ wx.heap.size ∧ MatV wx M3 T3 B3 k wn (runC wn k l (fr + m)) (playM k l (fr + m)) (fun i => (wc.heap.size ≤ i ∧ i ≠ M3) ∧ (i < wd.heap.size ∨ we.heap.size ≤ i)) ∧ MatV wx M T B k wn (runC wn k l j) (playM k l j) (fun i => (w1.heap.size ≤ i ∧ i ≠ M) ∧ i < wa.heap.size) ∧ MatV wx M2 T2 B2 k wn (runC wn k l j) (playM k l j) (fun i => ((wa.heap.size ≤ i ∧ i ≠ M2) ∧ (i < wc.heap.size ∨ wd.heap.size ≤ i)) ∧ i < we.heap.size)) (fun i _ => (j - fr) - (intOf i).toNat)
                case atStart => exact ⟨0, by omega, rfl, Nf, s3e, V3f.out, V1f.out, V2f.out⟩
                case round =>
                  obtain ⟨m, hm, rfl, hMm, hsz, hX, hO0, hO1⟩ := hrel
                  have HX := Lib.hid hX
                  have HO0 := Lib.hid hO0
                  have HO1 := Lib.hid hO1
                  clear hX hO0 hO1
                  by_cases cm : m < (j - fr)
                  · have hmt : m < (l.drop fr).length := by rw [List.length_drop, HL.out]; omega
                    obtain ⟨g, off, B1, bc, rfl, ldW, hb⟩ := DH.out.get2 m hmt
                    have ld := ldW _ hMm
                    have hbr := hb.mo hMm
                    simp only [List.getElem_drop] at ld hbr
                    clear ldW hb
                    have hjl : (fr + m) < l.length := by rw [HL.out]; omega
                    have XO := HD.out.ok _ (List.getElem_mem hjl)
                    have i0' : (0 : Int) ≤ m := by omega
                    have i1 : (m : Int) < (j - fr) := by omega
                    have za := sz_wide XO.at_
                    have zs := sz_ends XO.src
                    have zt := sz_ends XO.dst
                    have oa := one_of_fits XO.at_
                    have os := one_of_fits XO.src
                    have ot := one_of_fits XO.dst
                    have PL := playM_len (room := k) (by omega) l (fr + m)
                    have PE := playM_succ k l (fr + m) hjl
                    have RC := runC_succ wn k l (fr + m) hjl
                    have RB := runC_bd wn k l (fr + m)
                    have HX2 := Lib.hid (show MatV wr M3 T3 B3 k wn (runC wn k l (fr + m)) (playM k l (fr + m)) (fun i => ((fun i => (wc.heap.size ≤ i ∧ i ≠ M3) ∧ (i < wd.heap.size ∨ we.heap.size ≤ i))) i ∧ i < wr.heap.size) from ⟨HX.out.m, HX.out.t.weak fun i hi p => ⟨p, hi⟩, fun q => HX.out.np q.1⟩)
                    have TK := Lib.hid (fun w (mm : Mo wr w) => mtake_any M3 T3 B3 k wn (runC wn k l (fr + m)) (playM k l (fr + m)) _ l[(fr + m)] _ w (HX2.out.mo mm) ⟨B1, bc, rfl, hbr.mo mm⟩ XO (by omega) (fun i => by have := RB i; omega) (by omega) (by omega))
                    rw [← PE, ← RC] at TK
                    have lm := HX.out.m.lt
                    generalize smM wn (playM k l (fr + m)) l[(fr + m)] = SM at *
                    generalize clsM wn (playM k l (fr + m)) l[(fr + m)] = q at *
                    generalize l[(fr + m)].at_ = da at *
                    generalize l[(fr + m)].src = ds at *
                    generalize l[(fr + m)].dst = dd at *
                    generalize l[(fr + m)].bs.length = n at *
                    have hw : IntKind.i64.wrap ((m : Int) + 1) = m + 1 := by rw [IntKind.wrap_i64]; omega
                    clear hjl XO PE RC PL hbr hmt
                    go_wp2_with fail
                    refine (TK.out _ Mor.out).mono ?_
                    rintro e w5 ⟨rfl, V5, K5⟩
                    have N5 : Mo W w5 := K5.mo (hMm.trans Mor.out) fun i hi s => by
                      rcases s with s | rfl
                      · have := s.1; omega
                      · omega
                    have s5 : wr.heap.size + 1 ≤ w5.heap.size := Nat.le_trans (by simp) K5.size
                    have V5' := Lib.hid (show MatV w5 M3 T3 B3 k wn (runC wn k l (fr + (m + 1))) (playM k l (fr + (m + 1))) (fun i => (wc.heap.size ≤ i ∧ i ≠ M3) ∧ (i < wd.heap.size ∨ we.heap.size ≤ i)) from ⟨V5.m, V5.t.weak fun i _ p => by
                      rcases p with p | p
                      · exact p.1
                      · have h1 : wr.heap.size + 1 ≤ i := by simpa using p
                        omega, HX.out.np⟩)
                    have U0 := Lib.hid ((HO0.out.mo (Mor.out : Mo wr (wr.alloc (.cells (dgC da ds dd (.slice B1 n bc)) 41)))).keep K5 (fun s => by
                      have := HO0.out.m.lt
                      rcases s with s | s
                      · have := s.1; omega
                      · omega) (fun i hi p s => by
                      rcases s with s | s
                      · have := s.1; omega
                      · omega))
                    have U1 := Lib.hid ((HO1.out.mo (Mor.out : Mo wr (wr.alloc (.cells (dgC da ds dd (.slice B1 n bc)) 41)))).keep K5 (fun s => by
                      have := HO1.out.m.lt
                      rcases s with s | s
                      · have := s.1; omega
                      · omega) (fun i hi p s => by
                      rcases s with s | s
                      · have := s.1; omega
                      · omega))
                    clear V5 K5 TK HX HX2
                    go_wp2_with fail
                    go_roundw
                    case rel => exact ⟨m + 1, by omega, by go_num, N5.trans Mor.out, by omega, V5'.out.mo Mor.out, U0.out.mo Mor.out, U1.out.mo Mor.out⟩
                    case measure => simp [intOf]; omega
                  · obtain rfl : m = (j - fr) := by omega
                    have V3x := HX.out
                    rw [ej] at V3x
                    have CT3 := Lib.hid (fun w (mm : Mo wr w) => mcounts_any M3 T3 B3 k wn _ _ _ w (V3x.mo mm))
                    have CT1 := Lib.hid (fun w (mm : Mo wr w) => mcounts_any M T B k wn _ _ _ w (HO0.out.mo mm))
                    have LN3 := Lib.hid (fun w (mm : Mo wr w) => mlen_any M3 T3 B3 k wn _ _ _ w (V3x.mo mm))
                    have LN1 := Lib.hid (fun w (mm : Mo wr w) => mlen_any M T B k wn _ _ _ w (HO0.out.mo mm))
                    rw [HCC.out] at CT3 CT1
                    generalize ((playM k l j).length : Int) = lnj at LN3 LN1
                    have dll : (lnj == lnj) = true := by simp
                    clear V3x HX HO0 HO1
                    go_wp2_with fail
                    refine (CT3.out _ Mor.out).mono ?_
                    rintro e w41 ⟨rfl, M41⟩
                    have K1 := (Mor.out : Mo wr _).trans M41
                    go_wp2_with fail
                    refine (CT1.out _ (K1.trans Mor.out)).mono ?_
                    rintro e w42 ⟨rfl, M42⟩
                    have K2 := (K1.trans Mor.out).trans M42
                    go_wp2_with fail
                    refine (LN3.out _ (K2.trans Mor.out)).mono ?_
                    rintro e w43 ⟨rfl, M43⟩
                    have K3' := (K2.trans Mor.out).trans M43
                    go_wp2_with fail
                    refine (LN1.out _ (K3'.trans Mor.out)).mono ?_
                    rintro e w44 ⟨rfl, M44⟩
                    have K4 := (K3'.trans Mor.out).trans M44
                    go_wp2_with fail
                    refine (WK.out _).mono ?_
                    rintro e w45 ⟨rfl, M45⟩
                    have K5 := (K4.trans Mor.out).trans M45
                    go_wp2_with fail
                    go_ret
                    exact ⟨rfl, hMm.trans (K5.trans Mor.out)⟩
end Go.Proofs.Ytcflebggepmmcaa
