/- Whole structs stored into whole blocks, by the world's form: what no program's type enters. -/
import Derived.Test.YtdgmcgfkammioaaBlk
import Derived.Laws.ResultCell
namespace Go.Proofs.Ytdgmcgfkammioaa
open Go.RowKit

set_option maxRecDepth 20000 in
/-- a cell of a block that is known whole (as local rules of go_sem) -/
theorem blk_cell' (w : World) (g i : Nat) (t : TypeId) (cs : Array Value) [h : Blk w g t cs] : w.cell? ⟨g, i, none⟩ = cs[i]? := blk_cell h i
set_option maxRecDepth 20000 in
theorem blk_frozen' (w : World) (g i : Nat) (t : TypeId) (cs : Array Value) [h : Blk w g t cs] : w.frozen? ⟨g, i, none⟩ = false := blk_frozen h i
class One1 (v : Value) : Prop where
  out : v.oneCell' = true
set_option maxRecDepth 20000 in
instance (k : IntKind) (n : Int) : One1 (.int k n) := ⟨rfl⟩
set_option maxRecDepth 20000 in
instance (b : Bool) : One1 (.bool b) := ⟨rfl⟩
set_option maxRecDepth 20000 in
instance (a : Option Addr) (n c : Nat) : One1 (.slice a n c) := ⟨rfl⟩
set_option maxRecDepth 20000 in
instance (a : Option Addr) : One1 (.pointer a) := ⟨rfl⟩
class OneL (l : List Value) : Prop where
  out : ∀ v ∈ l, v.oneCell' = true
set_option maxRecDepth 20000 in
instance : OneL [] := ⟨by simp⟩
set_option maxRecDepth 20000 in
instance (v : Value) (l : List Value) [a : One1 v] [b : OneL l] : OneL (v :: l) := ⟨fun x hx => by
  rcases List.mem_cons.1 hx with rfl | h
  · exact a.out
  · exact b.out x h⟩
class LenL (l : List Value) (n : outParam Nat) : Prop where
  out : l.length = n
set_option maxRecDepth 20000 in
instance : LenL [] 0 := ⟨rfl⟩
set_option maxRecDepth 20000 in
instance (v : Value) (l : List Value) (n : Nat) [h : LenL l n] : LenL (v :: l) (n + 1) := ⟨by rw [List.length_cons, h.out]⟩
set_option maxRecDepth 20000 in
theorem run_storeG (T : TypeId) (n : Nat) (hi : (Try.prog.info? T).map (·.size) = some n) (w : World) (g : Nat) (t : TypeId) (l l' : List Value) [b : Blk w g t l'.toArray] (h1 : l.length = n) (h2 : l'.length = n) [o : OneL l] :
    (Instr.storeAt T (.pointer (some ⟨g, 0, none⟩)) (.agg l.toArray)).run Try.prog w = .ok () (w.setRow g l.toArray) := by
  unfold Instr.storeAt
  simp only [Instr.sureAddr, Sem.run_bind, Sem.run_pure, Result.andThen_ok]
  exact run_storeVar_row w g t T l'.toArray l.toArray b.out (by simpa [h1] using hi) (by simp [h1, h2]) (by simpa using o.out)
set_option maxRecDepth 20000 in
/-- a result that is a struct in a cell, and another one -/
theorem ret_cell_tmp {fn : Func} {p u : Tmp} {T : TypeId} {R : Ending → World → Prop} {a : Act} {w : World} (hr : fn.results = #[.cell p T, .tmp u]) (g : Nat) (v : Value) (hp : a.tmps.getD p undef = .pointer (some ⟨g, 0, none⟩)) (hd : a.defers = [])
    (hl : (loadVar T ⟨g, 0, none⟩).run Try.prog w = .ok v w) (hR : R (.returned (.tuple #[v, a.tmps.getD u undef])) w) : bodyPost Try.prog fn R .ret a w :=
  bodyPost_ret (v := .tuple #[v, a.tmps.getD u undef]) (by
    rw [results_cell_tmp hr, hp]
    have e : (asAddr (.pointer (some ⟨g, 0, none⟩))).run Try.prog w = .ok (⟨g, 0, none⟩ : Addr) w := rfl
    rw [e, Result.andThen_ok, hl, Result.andThen_ok]) hd hR
end Go.Proofs.Ytdgmcgfkammioaa
