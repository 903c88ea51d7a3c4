/- What a call that writes into some blocks keeps. -/
import Derived.Test.YtdgmcgfkammioaaBlk
namespace Go.Proofs.Ytdgmcgfkammioaa
open Go.RowKit

/-! ### what a call with such blocks keeps -/
/-- w' is w, but for the blocks of S, and with more blocks -/
structure KpS (S : Nat → Prop) (w w' : World) : Prop where
  os : w'.os = w.os
  tape : w'.tape = w.tape
  output : w'.output = w.output
  size : w.heap.size ≤ w'.heap.size
  block : ∀ k, k < w.heap.size → ¬ S k → w'.heap[k]? = w.heap[k]?
set_option maxRecDepth 20000 in
theorem KpS.mono {S S' : Nat → Prop} {w w' : World} (h : KpS S w w') (k : ∀ i, i < w.heap.size → S i → S' i) : KpS S' w w' := ⟨h.os, h.tape, h.output, h.size, fun i hi n => h.block i hi fun s => n (k i hi s)⟩
set_option maxRecDepth 20000 in
theorem KpS.trans {S S' : Nat → Prop} {a b c : World} (h : KpS S a b) (k : KpS S' b c) (q : ∀ i, i < a.heap.size → S' i → S i) : KpS S a c :=
  ⟨k.os.trans h.os, k.tape.trans h.tape, k.output.trans h.output, Nat.le_trans h.size k.size, fun i hi n => (k.block i (Nat.lt_of_lt_of_le hi h.size) fun s => n (q i hi s)).trans (h.block i hi n)⟩
set_option maxRecDepth 20000 in
theorem KpS.of_mo {S : Nat → Prop} {w w' : World} (h : Mo w w') : KpS S w w' := ⟨h.below.os, h.below.tape, h.below.output, h.below.size, fun i hi _ => h.below.block i hi⟩
set_option maxRecDepth 20000 in
theorem KpS.mo {S : Nat → Prop} {V w w' : World} (h : KpS S w w') (m : Mo V w) (s : ∀ k, k < w.heap.size → S k → V.heap.size ≤ k) : Mo V w' :=
  Mo.of (m.below.trans ⟨h.os, h.tape, h.output, Nat.le_trans m.size h.size |> fun _ => h.size, fun k hk => h.block k (Nat.lt_of_lt_of_le hk m.size) fun q => by have := s k (Nat.lt_of_lt_of_le hk m.size) q; omega⟩)
set_option maxRecDepth 20000 in
theorem KpS.of_row {S : Nat → Prop} {w w' : World} {g : Nat} (h : w.grownBy w' (some g)) (s : S g) : KpS S w w' :=
  ⟨h.os, h.tape, h.output, h.size, fun i hi n => h.block i hi fun e => n (by injection e with e; rw [e]; exact s)⟩
set_option maxRecDepth 20000 in
theorem kpS_setCell {S : Nat → Prop} (w : World) (g i : Nat) (v : Value) (s : S g) : KpS S w (w.setCell ⟨g, i, none⟩ v) :=
  ⟨rfl, rfl, rfl, by simp [World.setCell], fun k _ n => heap_setCell_other w ⟨g, i, none⟩ k v fun e => n (by rw [e]; exact s)⟩
set_option maxRecDepth 20000 in
theorem kpS_setRow {S : Nat → Prop} (w : World) (g : Nat) (cs : Array Value) (s : S g) : KpS S w (w.setRow g cs) :=
  ⟨rfl, rfl, rfl, Nat.le_of_eq (setRow_size' w g cs).symm, fun k _ n => setRow_get_ne w g k cs fun e => n (by rw [← e]; exact s)⟩
set_option maxRecDepth 20000 in
theorem KpS.refl (S : Nat → Prop) (w : World) : KpS S w w := KpS.of_mo (Mo.refl w)
set_option maxRecDepth 20000 in
theorem KpS.cell {S : Nat → Prop} {w w' : World} (h : KpS S w w') {g : Nat} (s : S g) (i : Nat) (v : Value) : KpS S w (w'.setCell ⟨g, i, none⟩ v) := h.trans (kpS_setCell w' g i v s) fun _ _ q => q
set_option maxRecDepth 20000 in
theorem KpS.row {S : Nat → Prop} {w w' : World} (h : KpS S w w') {g : Nat} (s : S g) (cs : Array Value) : KpS S w (w'.setRow g cs) := h.trans (kpS_setRow w' g cs s) fun _ _ q => q
set_option maxRecDepth 20000 in
theorem KpS.blk {S : Nat → Prop} {w w' : World} (h : KpS S w w') {g : Nat} {t : TypeId} {cs : Array Value} (b : Blk w g t cs) (n : ¬ S g) : Blk w' g t cs := ⟨(h.block g b.lt n).trans b.out⟩

end Go.Proofs.Ytdgmcgfkammioaa
