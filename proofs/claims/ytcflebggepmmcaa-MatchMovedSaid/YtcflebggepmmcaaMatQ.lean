/- match: samples and counts are what their types say; comparing them. -/
import Derived.Test.YtcflebggepmmcaaMatX
namespace Go.Proofs.Ytcflebggepmmcaa
open Go.RowKit

set_option maxRecDepth 20000 in
theorem hiW_in {x : Int} (h : InW x) : (-9223372036854775808 ≤ hiW x ∧ hiW x ≤ 9223372036854775807) ∧ 0 ≤ loW x ∧ loW x ≤ 18446744073709551615 := by
  have h1 := h.1
  have h2 := h.2
  unfold hiW loW
  omega
set_option maxRecDepth 20000 in
theorem wf_i64 {x : Int} (h : -9223372036854775808 ≤ x ∧ x ≤ 9223372036854775807) : Lit.wf (.int .i64 x) = true := by
  simp [Lit.wf, IntKind.min, IntKind.max, IntKind.signed, IntKind.bits]
  omega
set_option maxRecDepth 20000 in
theorem wf_u64 {x : Int} (h : 0 ≤ x ∧ x ≤ 18446744073709551615) : Lit.wf (.int .u64 x) = true := by
  simp [Lit.wf, IntKind.min, IntKind.max, IntKind.signed, IntKind.bits]
  omega
set_option maxRecDepth 20000 in
theorem wf_u8 {x : Int} (h : 0 ≤ x ∧ x ≤ 255) : Lit.wf (.int .u8 x) = true := by
  simp [Lit.wf, IntKind.min, IntKind.max, IntKind.signed, IntKind.bits]
  omega
set_option maxRecDepth 20000 in
theorem fits_smC {f : Array Value} {t1 t2 t3 t4 o d s st : Int} (hf : Fits (ksOf 38 ++ ksOf 38) f.toList) (i1 : InW t1) (i2 : InW t2) (i3 : InW t3) (i4 : InW t4)
    (ho : -9223372036854775808 ≤ o ∧ o ≤ 9223372036854775807) (hd : -9223372036854775808 ≤ d ∧ d ≤ 9223372036854775807) (hs : -9223372036854775808 ≤ s ∧ s ≤ 9223372036854775807) (ht : 0 ≤ st ∧ st ≤ 255) : Fits (ksOf 45) (smC f t1 t2 t3 t4 o d s st).toList := by
  have e1 : ksOf 38 = .b :: (List.replicate 16 (.i .u8) ++ [.i .u16]) := by kernel_rfl
  have e : ksOf 45 = (ksOf 38 ++ ksOf 38) ++ [.i .i64, .i .u64, .i .i64, .i .u64, .i .i64, .i .u64, .i .i64, .i .u64, .i .i64, .i .i64, .i .i64, .i .u8] := by rw [e1]; kernel_rfl
  rw [e]
  unfold smC
  rw [Array.toList_append]
  refine fits_append hf ?_
  have a1 := hiW_in i1
  have a2 := hiW_in i2
  have a3 := hiW_in i3
  have a4 := hiW_in i4
  exact ⟨⟨rfl, wf_i64 a1.1⟩, ⟨rfl, wf_u64 a1.2⟩, ⟨rfl, wf_i64 a2.1⟩, ⟨rfl, wf_u64 a2.2⟩, ⟨rfl, wf_i64 a3.1⟩, ⟨rfl, wf_u64 a3.2⟩, ⟨rfl, wf_i64 a4.1⟩, ⟨rfl, wf_u64 a4.2⟩, ⟨rfl, wf_i64 ho⟩, ⟨rfl, wf_i64 hd⟩, ⟨rfl, wf_i64 hs⟩, ⟨rfl, wf_u8 ht⟩, trivial⟩
set_option maxRecDepth 20000 in
theorem fits_sm0 : Fits (ksOf 45) sm0.toList := by
  unfold sm0
  refine fits_smC ?_ inW_0 inW_0 inW_0 inW_0 (by omega) (by omega) (by omega) (by omega)
  rw [Array.toList_append]
  exact fits_append fits_en0 fits_en0
set_option maxRecDepth 20000 in
theorem fits_smpC {d : Dg} (kd : DgOk d) {h : Hd} (ok : HdOk h) : Fits (ksOf 45) (smpC (d.dst ++ d.src) h.o h (wI d.at_)).toList := by
  have hw := (wd_fits kd.at_).2
  have r0 := ok.r
  have q0 := ok.x
  have p0 := ok.o
  have b := ok.s
  unfold smpC
  refine fits_smC ?_ (unf_in p0.1 (by omega) hw) (unf_in r0.1 (by omega) hw) (unf_in q0.1 (by omega) hw) hw (clipO_bd _) (clipO_bd _) (clipO_bd _) b
  rw [Array.toList_append]
  exact fits_append kd.dst kd.src
set_option maxRecDepth 20000 in
theorem fits_smM {win : Int} {E : List En} {d : Dg} (kd : DgOk d) (ok : HdOk (classP d.bs).1.h) : Fits (ksOf 45) (smM win E d).toList := by
  unfold smM
  split
  · exact fits_smpC kd ok
  · exact fits_sm0
set_option maxRecDepth 20000 in
theorem fits_cnC {c : Nat → Int} (h : ∀ i, 0 ≤ c i ∧ c i ≤ 1000000) : Fits (ksOf 29) (cnC c).toList := by
  have e : ksOf 29 = [.i .i64, .i .i64, .i .i64, .i .i64, .i .i64, .i .i64, .i .i64, .i .i64, .i .i64] := by kernel_rfl
  rw [e]
  have k : ∀ i, -9223372036854775808 ≤ c i ∧ c i ≤ 9223372036854775807 := fun i => by have := h i; omega
  exact ⟨⟨rfl, wf_i64 (k 0)⟩, ⟨rfl, wf_i64 (k 1)⟩, ⟨rfl, wf_i64 (k 2)⟩, ⟨rfl, wf_i64 (k 3)⟩, ⟨rfl, wf_i64 (k 4)⟩, ⟨rfl, wf_i64 (k 5)⟩, ⟨rfl, wf_i64 (k 6)⟩, ⟨rfl, wf_i64 (k 7)⟩, ⟨rfl, wf_i64 (k 8)⟩, trivial⟩
set_option maxRecDepth 20000 in
theorem eqlF_samp (x y : Value) : binOp .eql 45 x y = eqlF 45 x y := rfl
set_option maxRecDepth 20000 in
theorem eqlF_cnt (x y : Value) : binOp .eql 29 x y = eqlF 29 x y := rfl
set_option maxRecDepth 20000 in
theorem neqF_samp (x y : Value) : binOp .neq 45 x y = neqF 45 x y := rfl
set_option maxRecDepth 20000 in
theorem neqF_cnt (x y : Value) : binOp .neq 29 x y = neqF 29 x y := rfl
set_option maxRecDepth 20000 in
theorem run_eql_sm0 (w : World) : (eqlF 45 (.agg sm0) (.agg sm0)).run Try.prog w = .ok (.bool true) w := run_eqlF_self fl_samp w fits_sm0
set_option maxRecDepth 20000 in
theorem run_neq_self {T : TypeId} {n : Nat} (h : FlatT T n) (w : World) {xs : Array Value} (hx : Fits (ksOf T) xs.toList) : (neqF T (.agg xs) (.agg xs)).run Try.prog w = .ok (.bool false) w := by
  have := run_neq_flat h w hx hx
  rw [eqA_self] at this
  exact this
set_option maxRecDepth 20000 in
theorem cn_get (c : Nat → Int) (q : Int) (h0 : 0 ≤ q) (h1 : q ≤ 8) : (cnC c)[q.toNat]? = some (.int .i64 (c q.toNat)) := by
  obtain ⟨n, rfl⟩ := Int.eq_ofNat_of_zero_le h0
  have : n ≤ 8 := by omega
  rw [Int.toNat_natCast]
  rcases n with _ | _ | _ | _ | _ | _ | _ | _ | _ | n
  all_goals first | rfl | omega
set_option maxRecDepth 20000 in
theorem cn_set (c : Nat → Int) (q : Int) (h0 : 0 ≤ q) (h1 : q ≤ 8) : (cnC c).setIfInBounds q.toNat (.int .i64 (c q.toNat + 1)) = cnC (upC c q) := by
  obtain ⟨n, rfl⟩ := Int.eq_ofNat_of_zero_le h0
  have : n ≤ 8 := by omega
  rw [Int.toNat_natCast]
  rcases n with _ | _ | _ | _ | _ | _ | _ | _ | _ | n
  all_goals first | omega | (unfold upC; simp)
set_option maxRecDepth 20000 in
theorem DgsS.get2 {W : World} {A : Option Addr} {cap : Nat} {l : List Dg} (h : DgsS W A cap l) (i : Nat) (hi : i < l.length) : ∃ g off B bc, A = some ⟨g, off, none⟩ ∧
    (∀ w, Mo W w → (loadF 41 (.pointer (some ⟨g, off + i * 39, none⟩))).run Try.prog w = .ok (.agg (dgC l[i].at_ l[i].src l[i].dst (.slice B l[i].bs.length bc))) w) ∧ ByteS W B bc l[i].bs := by
  rcases h.at_ with e | ⟨g, off, rfl, hc⟩
  · rw [e] at hi; cases hi
  · obtain ⟨B, bc, hb, hv⟩ := hc i hi
    have ok := h.ok _ (List.getElem_mem hi)
    refine ⟨g, off, B, bc, rfl, fun w M => ?_, hb⟩
    refine run_loadC 41 39 w g (off + i * 39) _ (dg_sz (sz_wide ok.at_) (sz_ends ok.src) (sz_ends ok.dst)) (fun j v hj => ?_)
    have h1 := hv j v hj
    have : LtW g W := LtW.of_cell h1
    rw [M.cell, h1]
end Go.Proofs.Ytcflebggepmmcaa
