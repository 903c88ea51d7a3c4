/- Regions that draw their order, whose operations read and whose calls make blocks alone: one walk of the text's order serves. -/
import Derived.Test.YtdgmcgfkammioaaPlain
import Derived.WalkKit
import Derived.WalkSpells
import Derived.WalkLawsBesides
import Derived.Handy
import Derived.Lib.Hide
import Derived.Deep.RegionHeld3
import Derived.Deep.QuietTactic
import Derived.BigQuiet
import Derived.Deep.DeepCutAuto
namespace Go.Proofs.Ytdgmcgfkammioaa
open Go.RowKit

structure JD where
  J : Array Obj
  d : Nat
set_option maxRecDepth 20000 in
instance : Inhabited JD := ⟨⟨#[], 0⟩⟩
set_option maxRecDepth 20000 in
theorem wp_region_mo {P : Program} {id : Nat} {Q : Exit → Act → World → Prop} {a : Act} {w : World} {l : List Oper} (hm : P.follows .mixedOrders = true) (hB : Region.lexB .any l.toArray = true)
    (h : wpQuiet P l.toArray (fun w' => ∃ x : JD, w' = more w x.J x.d) (fun a' => ∀ w', (∃ x : JD, w' = more w x.J x.d) → Q .normal a' w') l a) : (Code.region id l.toArray true).wp P Q a w :=
  wp_region_quiet (C := fun w' => ∃ x : JD, w' = more w x.J x.d) hm hB ⟨⟨#[], w.drawn + 1⟩, by simp [more]⟩ (by simpa using h)
set_option maxRecDepth 20000 in
theorem wp_region_mo' {P : Program} {id : Nat} {Q : Exit → Act → World → Prop} {a : Act} {w : World} {J : Array Obj} {d : Nat} {l : List Oper} (hm : P.follows .mixedOrders = true) (hB : Region.lexB .any l.toArray = true)
    (h : wpQuiet P l.toArray (fun w' => ∃ x : JD, w' = more w x.J x.d) (fun a' => ∀ w', (∃ x : JD, w' = more w x.J x.d) → Q .normal a' w') l a) : (Code.region id l.toArray true).wp P Q a (more w J d) :=
  wp_region_quiet (C := fun w' => ∃ x : JD, w' = more w x.J x.d) hm hB ⟨⟨J, d + 1⟩, rfl⟩ (by simpa using h)
set_option maxRecDepth 20000 in
theorem quiet_mo {P : Program} {f : FuncId} {args : Array Value} {w : World} {J : Array Obj} {d : Nat} {v : Value}
    (h : Calls P f args (more w J d) fun e w' => e = .returned v ∧ Mo (more w J d) w') : Calls P f args (more w J d) fun e w'' => e = .returned v ∧ ∃ x : JD, w'' = more w x.J x.d :=
  h.mono fun _ _ ⟨he, J', d', hm⟩ => ⟨he, ⟨J ++ J', d'⟩, by rw [hm, more_more]⟩
set_option maxRecDepth 20000 in
theorem quiet_mo_same {P : Program} {f : FuncId} {args : Array Value} {w : World} {J : Array Obj} {d : Nat} {v : Value}
    (h : Calls P f args (more w J d) fun e w' => e = .returned v ∧ more w J d = w') : Calls P f args (more w J d) fun e w'' => e = .returned v ∧ ∃ x : JD, w'' = more w x.J x.d :=
  h.mono fun _ _ ⟨he, hm⟩ => ⟨he, ⟨J, d⟩, hm.symm⟩
set_option maxRecDepth 20000 in
theorem wp_name {P : Program} {c : Code} {Q : Exit → Act → World → Prop} {a : Act} {w : World} (h : ∀ W, W = w → c.wp P Q a W) : c.wp P Q a w := h w rfl
set_option maxRecDepth 20000 in
theorem LtW.of_cell {w : World} {b i : Nat} {v : Value} (h : w.cell? ⟨b, i, none⟩ = some v) : LtW b w := ⟨by
  unfold World.cell? at h
  rcases Nat.lt_or_ge b w.heap.size with c | c
  · exact c
  · simp [Array.getElem?_eq_none c] at h⟩
set_option maxRecDepth 20000 in
theorem Mo.trans {a b c : World} (h : Mo a b) (k : Mo b c) : Mo a c := by
  obtain ⟨J, d, rfl⟩ := h
  obtain ⟨J', d', rfl⟩ := k
  exact ⟨J ++ J', d', by rw [more_more]⟩
set_option maxRecDepth 20000 in
theorem Mo.refl (a : World) : Mo a a := (Mor.out (a := a) (w := a))
set_option maxRecDepth 20000 in
theorem Mo.cell {a b : World} (h : Mo a b) {n i : Nat} [LtW n a] : b.cell? ⟨n, i, none⟩ = a.cell? ⟨n, i, none⟩ := by
  obtain ⟨J, d, rfl⟩ := h
  exact more_cell' a J d n i
end Go.Proofs.Ytdgmcgfkammioaa
