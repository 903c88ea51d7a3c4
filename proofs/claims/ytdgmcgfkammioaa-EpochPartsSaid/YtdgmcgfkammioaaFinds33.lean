/- horologelaw33.TruthFinds: the walk. -/
import Derived.Test.YtdgmcgfkammioaaOf33
namespace Go.Proofs.Ytdgmcgfkammioaa
open Go.RowKit

def eqR (x y : Value) : Sem Value := binOp .eql 79 x y
def neR (x y : Value) : Sem Value := binOp .neq 79 x y
def eqT (x y : Value) : Sem Value := binOp .eql 97 x y
set_option maxRecDepth 20000 in
theorem eqR_fold (x y : Value) : binOp .eql 79 x y = eqR x y := rfl
set_option maxRecDepth 20000 in
theorem neR_fold (x y : Value) : binOp .neq 79 x y = neR x y := rfl
set_option maxRecDepth 20000 in
theorem eqT_fold (x y : Value) : binOp .eql 97 x y = eqT x y := rfl
set_option maxRecDepth 20000 in
theorem eqR_same {a b : Int} (ha : Is64 a) (hb : Is64 b) (w : World) : (eqR (.agg #[.int .i64 a, .int .i64 b]) (.agg #[.int .i64 a, .int .i64 b])).run Try.prog w = .ok (.bool true) w := eql_riv ha hb w
set_option maxRecDepth 20000 in
theorem neR_same {a b : Int} (ha : Is64 a) (hb : Is64 b) (w : World) : (neR (.agg #[.int .i64 a, .int .i64 b]) (.agg #[.int .i64 a, .int .i64 b])).run Try.prog w = .ok (.bool false) w := neq_riv ha hb w
set_option maxRecDepth 20000 in
theorem eqT_same {a b : Int} (ha : Is64 a) (hb : Is64 b) (w : World) : (eqT (.agg #[.int .i64 a, .int .i64 b]) (.agg #[.int .i64 a, .int .i64 b])).run Try.prog w = .ok (.bool true) w := eql_iv ha hb w
set_option maxRecDepth 20000 in
theorem agr_64 {l : List Iv} {m : Nat} {i : Iv} (hb : ∀ x ∈ l, Is64 x.lo ∧ Is64 x.hi) (h : IsAgr l m (some i)) : Is64 i.lo ∧ Is64 i.hi := by
  obtain ⟨⟨⟨x, hx, ex⟩, _⟩, ⟨⟨y, hy, ey⟩, _⟩⟩ := h
  rw [← ex, ← ey]
  exact ⟨(hb x hx).1, (hb y hy).2⟩
attribute [local go_sem ↓] eqR_fold neR_fold eqT_fold
attribute [local go_sem] blk_cell' blk_frozen'
end Go.Proofs.Ytdgmcgfkammioaa
