/- Whole structs over this program: loaded, stored, compared. -/
import Derived.Test.YtdgmcgfkammioaaFlat
namespace Go.Proofs.Ytdgmcgfkammioaa
open Go.RowKit

noncomputable def ksOf (T : TypeId) : List CK := (kinds Try.prog (Try.prog.types.size + 1) T).getD []
/-- are two rows of cells one? -/
noncomputable def eqA (xs ys : Array Value) : Bool := @decide (xs = ys) (Classical.propDecidable _)
set_option maxRecDepth 20000 in
theorem eqA_iff {xs ys : Array Value} : eqA xs ys = true ↔ xs = ys := by unfold eqA; exact @decide_eq_true_iff _ (Classical.propDecidable _)
set_option maxRecDepth 20000 in
theorem eqA_self (xs : Array Value) : eqA xs xs = true := eqA_iff.2 rfl
/-- a struct or an array that can be a key: of n cells -/
class FlatT (T : TypeId) (n : outParam Nat) : Prop where
  whole : wholeB Try.prog T = true
  key : Try.prog.keyType T = true
  lt : decide (T < Try.prog.types.size) = true
  ks : kinds Try.prog (Try.prog.types.size + 1) T = some (ksOf T)
  len : (ksOf T).length = n
  info : (Try.prog.info? T).map (·.size) = some n
/-- a struct or an array of n cells -/
class RowT (T : TypeId) (n : outParam Nat) : Prop where
  row : (match Try.prog.underlying T with | some d => d.isRow | none => false) = true
  info : (Try.prog.info? T).map (·.size) = some n
class SzA (cs : Array Value) (n : outParam Nat) : Prop where
  out : cs.size = n
class OneA (cs : Array Value) : Prop where
  out : cs.all (·.oneCell') = true
set_option maxRecDepth 20000 in
theorem smallP : Try.prog.types.size + 2 ≤ 10000 := by decide
set_option maxRecDepth 20000 in
theorem laidP : laidOutB Try.prog = true := by kernel_rfl
set_option maxRecDepth 20000 in
theorem law_flat {T : TypeId} {n : Nat} (h : FlatT T n) : Maps.Keyed Try.prog T := by
  have hw := h.whole
  unfold wholeB at hw
  exact Maps.Keyed.of_law (deep_law_gate laidP smallP (of_decide_eq_true h.lt) h.key hw)
set_option maxRecDepth 20000 in
theorem key_flat {T : TypeId} {n : Nat} (h : FlatT T n) {cs : Array Value} (hc : Fits (ksOf T) cs.toList) : ∃ l, keyOf Try.prog T (.agg cs) = some l :=
  keyOf_fits h.whole h.key rfl h.ks hc
set_option maxRecDepth 20000 in
theorem run_eql_flat {T : TypeId} {n : Nat} (h : FlatT T n) (w : World) {xs ys : Array Value} (hx : Fits (ksOf T) xs.toList) (hy : Fits (ksOf T) ys.toList) :
    (binOp .eql T (.agg xs) (.agg ys)).run Try.prog w = .ok (.bool (eqA xs ys)) w := by
  obtain ⟨lx, ex⟩ := key_flat h hx
  obtain ⟨ly, ey⟩ := key_flat h hy
  have hw := h.whole
  unfold wholeB at hw
  obtain ⟨r, hr, hiff⟩ := run_equal_deep (P := Try.prog) w (m := Try.prog.types.size + 1) (by have := smallP; omega) h.key hw ex ey
  rw [run_eql_struct]
  have hr' : (Op.equalIn 10000 T (.agg xs) (.agg ys)).run Try.prog w = .ok r w := hr
  rw [hr', Result.andThen_ok]
  have e : r = eqA xs ys := by
    rw [Bool.eq_iff_iff, hiff, eqA_iff]
    constructor
    · intro e
      have := (law_flat h).inj ex (e ▸ ey)
      injection this
    · intro e
      subst e
      rw [ex] at ey
      injection ey
  rw [e]
set_option maxRecDepth 20000 in
theorem run_neq_flat {T : TypeId} {n : Nat} (h : FlatT T n) (w : World) {xs ys : Array Value} (hx : Fits (ksOf T) xs.toList) (hy : Fits (ksOf T) ys.toList) :
    (binOp .neq T (.agg xs) (.agg ys)).run Try.prog w = .ok (.bool (!eqA xs ys)) w := by
  have e := run_eql_flat h w hx hy
  rw [run_eql_struct] at e
  rw [run_neq_struct]
  cases hq : (Op.equalIn 10000 T (.agg xs) (.agg ys)).run Try.prog w with
  | ok b w' =>
    rw [hq, Result.andThen_ok] at e
    rw [Result.andThen_ok]
    injection e with e1 e2
    injection e1 with e1
    rw [e1, e2]
  | _ => rw [hq] at e; cases e
/-- folded operations: their laws speak of whole structs -/
def loadF (T : TypeId) (v : Value) : Sem Value := Instr.loadAt T v
def storeF (T : TypeId) (v x : Value) : Sem Unit := Instr.storeAt T v x
def eqlF (T : TypeId) (x y : Value) : Sem Value := binOp .eql T x y
def neqF (T : TypeId) (x y : Value) : Sem Value := binOp .neq T x y
def buildF (T : TypeId) (l : Array (Nat × Value)) : Sem Value := Instr.build T l
/-- cells from o on, n of them, in the place of what was there -/
def splice (cs : Array Value) (o : Nat) (v : Array Value) : Array Value := cs.extract 0 o ++ v ++ cs.extract (o + v.size) cs.size
set_option maxRecDepth 20000 in
theorem run_loadF (T : TypeId) (n : Nat) [h : RowT T n] (w : World) (g o : Nat) (t : TypeId) (cs : Array Value) (k : Nat) [b : Blk w g t cs] [z : SzA cs k] (hk : o + n ≤ k) :
    (loadF T (.pointer (some ⟨g, o, none⟩))).run Try.prog w = .ok (.agg (cs.extract o (o + n))) w := by
  have hr := h.row
  split at hr
  case h_2 => cases hr
  case h_1 d hu =>
    have hz := z.out
    have e : cs.extract o (o + n) = ((cs.toList.drop o).take n).toArray := by
      apply Array.toList_inj.1
      simp [Array.toList_extract]
    rw [e]
    refine run_loadAt_mid w g o T _ d ?_ hu hr ?_
    · intro j v hv
      rw [blk_cell b]
      rw [List.getElem?_take] at hv
      split at hv
      · rw [List.getElem?_drop] at hv
        rw [← hv]; simp
      · cases hv
    · rw [h.info]
      congr 1
      simp
      omega
set_option maxRecDepth 20000 in
theorem run_loadF0 (T : TypeId) (n : Nat) [h : RowT T n] (w : World) (g : Nat) (t : TypeId) (cs : Array Value) [b : Blk w g t cs] [z : SzA cs n] :
    (loadF T (.pointer (some ⟨g, 0, none⟩))).run Try.prog w = .ok (.agg cs) w := by
  have := run_loadF T n w g 0 t cs n (Nat.le_of_eq (Nat.zero_add n))
  have hz := z.out
  rw [this]
  congr 2
  simp [← hz]
set_option maxRecDepth 20000 in
theorem run_storeF0 (T : TypeId) (n : Nat) [h : RowT T n] (w : World) (g : Nat) (t : TypeId) (cs v : Array Value) [b : Blk w g t cs] [z : SzA cs n] [y : SzA v n] [o : OneA v] :
    (storeF T (.pointer (some ⟨g, 0, none⟩)) (.agg v)).run Try.prog w = .ok () (w.setRow g v) := by
  unfold storeF Instr.storeAt
  simp only [Instr.sureAddr, Sem.run_bind, Sem.run_pure, Result.andThen_ok]
  exact run_storeVar_row w g t T cs v b.out (by rw [y.out]; exact h.info) (by rw [z.out, y.out]) o.out

set_option maxRecDepth 20000 in
instance fl_wide : FlatT 33 2 := ⟨by kernel_rfl, by kernel_rfl, by kernel_rfl, by kernel_rfl, by kernel_rfl, by kernel_rfl⟩
set_option maxRecDepth 20000 in
instance row_wide : RowT 33 2 := ⟨by kernel_rfl, by kernel_rfl⟩
end Go.Proofs.Ytdgmcgfkammioaa
