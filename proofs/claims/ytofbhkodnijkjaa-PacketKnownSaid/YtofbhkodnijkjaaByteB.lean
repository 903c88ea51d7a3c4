/- Bytes appended to a row that the call owns; slices.Clone and slices.Equal of bytes. -/
import Derived.Test.YtofbhkodnijkjaaByteA
import Derived.Laws.AppendOwn
import Derived.Laws.AppendOwnNone
namespace Go.Proofs.Ytofbhkodnijkjaa
open Go.RowKit

abbrev byteL (bs : List Int) : List Value := bs.map fun c => .int .u8 c
set_option maxRecDepth 20000 in
theorem infoB : (Try.prog.info? 5).map (fun i => (i.zero, i.size, i.bytes)) = some (some (.int .u8 0), 1, 1) := by kernel_rfl
set_option maxRecDepth 20000 in
theorem byteL_one (bs : List Int) : ∀ u ∈ byteL bs, u.oneCell' = true := by
  intro u hu
  obtain ⟨c, _, rfl⟩ := List.mem_map.1 hu
  rfl
/-- a slice value that reads as bytes -/
def ByteV (W : World) (v : Value) (bs : List Int) : Prop := ∃ A cap, v = .slice A bs.length cap ∧ ByteS W A cap bs
set_option maxRecDepth 20000 in
theorem ByteV.mo {W w : World} {v : Value} {bs : List Int} (h : ByteV W v bs) (k : Mo W w) : ByteV w v bs := by
  obtain ⟨A, cap, e, hb⟩ := h
  exact ⟨A, cap, e, hb.mo k⟩
set_option maxRecDepth 20000 in
theorem byteV_nil (W : World) : ByteV W (.slice none 0 0) [] := ⟨none, 0, rfl, by simp, by simp, by simp, fun _ => rfl, .inl rfl⟩
set_option maxRecDepth 20000 in
theorem byte_news {W : World} {a : Addr} {cap : Nat} {bs : List Int} (h : ByteS W (some a) cap bs) : ∀ j u, (byteL bs)[j]? = some u → W.cell? (a.add j) = some u := by
  intro j u hj
  have hlt : j < bs.length := by have := (List.getElem?_eq_some_iff.1 hj).1; simpa using this
  obtain ⟨g, off, e, _, hc⟩ := h.get (by omega)
  obtain rfl : a = ⟨g, off, none⟩ := by simpa using e
  rw [Go.WideShapes.add_plain, (hc j hlt).1, ← hj]
  simp [hlt]
set_option maxRecDepth 20000 in
theorem owns_form {w : World} {base : Nat} {e : TypeId} {size : Nat} {v : Value} {n : Nat} {xs : List Value} (h : w.ownsRow base e size v n xs) (hn : 0 < n) : ∃ g cap, v = .slice (some ⟨g, 0, none⟩) n cap ∧ base ≤ g ∧ g < w.heap.size := by
  rcases h.2 with ⟨_, h0⟩ | ⟨g, cap, cur, hv, hb, hg, _⟩
  · omega
  · exact ⟨g, cap, hv, hb, (Array.getElem?_eq_some_iff.1 hg).1⟩
set_option maxRecDepth 20000 in
theorem owns_base {w : World} {b b' : Nat} {e : TypeId} {size : Nat} {v : Value} {n : Nat} {xs : List Value} (h : w.ownsRow b e size v n xs) (hb : b' ≤ b) : w.ownsRow b' e size v n xs := by
  refine ⟨h.1, ?_⟩
  rcases h.2 with hn | ⟨g, cap, cur, rfl, hg, rest⟩
  · exact .inl hn
  · exact .inr ⟨g, cap, cur, rfl, Nat.le_trans hb hg, rest⟩
set_option maxRecDepth 20000 in
theorem owns_block {w w' : World} {b : Nat} {e : TypeId} {size : Nat} {v : Value} {n : Nat} {xs : List Value} (h : w.ownsRow b e size v n xs) (hk : ∀ g, b ≤ g → v.ownBlock = some g → w'.heap[g]? = w.heap[g]?) : w'.ownsRow b e size v n xs := by
  refine ⟨h.1, ?_⟩
  rcases h.2 with hn | ⟨g, cap, cur, rfl, hb, hg, rest⟩
  · exact .inl hn
  · exact .inr ⟨g, cap, cur, rfl, hb, (hk g hb rfl).trans hg, rest⟩
set_option maxRecDepth 20000 in
theorem owns_setCell {w : World} {b : Nat} {e : TypeId} {size : Nat} {v : Value} {n : Nat} {xs : List Value} (h : w.ownsRow b e size v n xs) (g i : Nat) (u : Value) (hg : g < b) : (w.setCell ⟨g, i, none⟩ u).ownsRow b e size v n xs :=
  owns_block h fun k hk _ => Below.heap_setCell _ _ _ k (by show k ≠ g; omega)
set_option maxRecDepth 20000 in
theorem news_of_blk {w : World} {g : Nat} {t : TypeId} {cs : Array Value} (h : Blk w g t cs) (l : List Value) (hl : l = cs.toList) : ∀ j u, l[j]? = some u → w.cell? ((⟨g, 0, none⟩ : Addr).add j) = some u := by
  intro j u hj
  have e : (⟨g, 0, none⟩ : Addr).add j = ⟨g, j, none⟩ := by rw [Addr.add_mid, Nat.zero_add]
  rw [e, blk_cell h, ← Array.getElem?_toList, ← hl]
  exact hj
set_option maxRecDepth 20000 in
/-- bytes that a call owns -/
theorem owns_byteS {w : World} {base n : Nat} {v : Value} {bs : List Int} (h : w.ownsRow base 5 1 v n (byteL bs)) (hn : n ≤ 140737488355328) (hb : ∀ c ∈ bs, 0 ≤ c ∧ c ≤ 255) : ByteV w v bs := by
  have hl : bs.length = n := by have := h.1; simp at this; omega
  obtain ⟨h1, h2⟩ := h
  rcases h2 with ⟨rfl, h0⟩ | ⟨g, cap, cur, rfl, hbb, hg, h3, h4, h5, h6⟩
  · subst h0
    rw [List.eq_nil_of_length_eq_zero hl]
    exact byteV_nil w
  · subst hl
    refine ⟨_, _, rfl, h3, hn, hb, fun e => (by cases e), .inr ⟨g, 0, rfl, fun i hi => ?_⟩⟩
    have hB : Blk w g 5 cur := ⟨hg⟩
    have e : (byteL bs)[i]? = some (.int .u8 bs[i]) := by simp [hi]
    rw [Nat.zero_add, blk_cell hB, ← Array.getElem?_toList, ← e, ← h6, List.getElem?_take_of_lt (by omega)]
set_option maxRecDepth 20000 in
/-- 'b = append(b, s...)' of a row that the call owns -/
theorem wpList_append_bytes {w : World} {ops : Array Oper} {rest : List Oper} {o : Oper} {a : Act} {Q : Exit → Act → World → Prop} (hgd : o.guard = none) (s x : Operand)
    (ho : o.op = .call { callee := .builtin .append, args := #[s, x], argTypes := #[31, 31] })
    (base : Nat) (v : Value) (n : Nat) (xs : List Value) (hs : a.eval s = v) (hown : w.ownsRow base 5 1 v n xs)
    (A : Option Addr) (m cap : Nat) (bs : List Int) (hm : bs.length = m) (hx : a.eval x = .slice A m cap) (hb : ByteS w A cap bs)
    (hle : n + m ≤ 140737488355328) (hbase : base ≤ w.heap.size)
    (h : ∀ v' w', w'.ownsRow base 5 1 v' (n + m) (xs ++ byteL bs) → w.grownBy w' v.ownBlock → wpList Try.prog ops Q rest (a.put o.dst v') w') : wpList Try.prog ops Q (o :: rest) a w := by
  obtain ⟨i0, hi, hz0, hz1, hz2⟩ := info_parts infoB
  cases A with
  | none =>
    have hc := hb.nil rfl
    have hle' := hb.le
    subst hc
    obtain rfl : m = 0 := by omega
    obtain rfl : bs = [] := List.eq_nil_of_length_eq_zero hm
    exact wpList_append_own_none hgd s x _ ho base 5 i0 1 Try.underlying31 hi v n xs hs hown hx (h v w (by simpa using hown) (World.grownBy.refl w _))
  | some ad =>
    exact wpList_append_own w hgd s x _ ho base 5 i0 (.int .u8 0) 1 1 Try.underlying31 hi hz0 hz1 hz2 rfl (by decide) v n xs hs hown ad m cap (byteL bs) hx (by simp [hm]) (byte_news hb) (byteL_one bs) (by unfold maxLen; omega) (by omega) hbase (fun v' w' h1 h2 _ => h v' w' h1 h2)
set_option maxRecDepth 20000 in
set_option maxHeartbeats 1000000 in
theorem cloneB_any (A : Option Addr) (n cap : Nat) (bs : List Int) (W : World) (hn : bs.length = n) (h : ByteS W A cap bs) :
    Calls Try.prog 34 #[.slice A n cap] W fun e w' => ∃ v, e = .returned v ∧ ByteV w' v bs ∧ Mo W w' := by
  have hlim := h.lim
  have hle := h.le
  rw [hn] at hlim hle
  have HN := Lib.hid hn
  cases A with
  | none =>
    have hc := h.nil rfl
    subst hc
    obtain rfl : n = 0 := by omega
    have hbs : bs = [] := List.eq_nil_of_length_eq_zero hn
    subst hbs
    clear hn
    have he : ∀ w : World, (binOp .eql 31 (.slice none 0 0) (.slice none 0 0)).run Try.prog w = .ok (.bool true) w := fun _ => rfl
    go_enter Try.func34, Try.ntmps34
    go_wp2_with fail
    go_ret
    exact ⟨_, rfl, byteV_nil W, Mor.out⟩
  | some a =>
    clear hn
    have HB := Lib.hid h
    clear h
    have he : ∀ w : World, (binOp .eql 31 (.slice (some a) n cap) (.slice none 0 0)).run Try.prog w = .ok (.bool false) w := fun _ => rfl
    go_enter Try.func34, Try.ntmps34
    go_wp2_with (at_builtin; refine wpList_append_bytes rfl _ _ rfl W.heap.size _ _ _ rfl (World.ownsRow_made W #[] 0 (Nat.le_refl _) (Nat.zero_le _) rfl) _ _ _ _ HN.out rfl (HB.out.mo Mor.out) ?c1 ?c2 ?_)
    case c1 => omega
    case c2 => simp
    intro v' w2 hown hgrow
    have hM : Mo W w2 := mo_grown (Mor.out : Mo W (W.alloc (Obj.cells #[] 5))) hgrow (by intro k hk; simp [Value.ownBlock] at hk; omega)
    clear hgrow
    go_wp2_with fail
    go_ret
    exact ⟨_, rfl, owns_byteS (by simpa using hown) (by omega) HB.out.byte, hM⟩
set_option maxRecDepth 20000 in
set_option maxHeartbeats 1000000 in
/-- of bytes that are no nil slice the copy is the call's own -/
theorem cloneB_own (a : Addr) (n cap : Nat) (bs : List Int) (W : World) (hn : bs.length = n) (h : ByteS W (some a) cap bs) :
    Calls Try.prog 34 #[.slice (some a) n cap] W fun e w' => ∃ v, e = .returned v ∧ w'.ownsRow W.heap.size 5 1 v n (byteL bs) ∧ Mo W w' := by
  have hlim := h.lim
  have hle := h.le
  rw [hn] at hlim hle
  have HN := Lib.hid hn
  clear hn
  have HB := Lib.hid h
  clear h
  have he : ∀ w : World, (binOp .eql 31 (.slice (some a) n cap) (.slice none 0 0)).run Try.prog w = .ok (.bool false) w := fun _ => rfl
  go_enter Try.func34, Try.ntmps34
  go_wp2_with (at_builtin; refine wpList_append_bytes rfl _ _ rfl W.heap.size _ _ _ rfl (World.ownsRow_made W #[] 0 (Nat.le_refl _) (Nat.zero_le _) rfl) _ _ _ _ HN.out rfl (HB.out.mo Mor.out) ?c1 ?c2 ?_)
  case c1 => omega
  case c2 => simp
  intro v' w2 hown hgrow
  have hM : Mo W w2 := mo_grown (Mor.out : Mo W (W.alloc (Obj.cells #[] 5))) hgrow (by intro k hk; simp [Value.ownBlock] at hk; omega)
  clear hgrow
  go_wp2_with fail
  go_ret
  exact ⟨_, rfl, by simpa using hown, hM⟩
end Go.Proofs.Ytofbhkodnijkjaa
