/- Structs and arrays of bools and integers, of however many cells, kept whole: which cells they have, how they are compared, how they come in. -/
import Derived.Test.YtdgmcgfkammioaaBlk
import Derived.DeepKeys5
import Derived.Deep.MidRow
import Derived.Maps.Keyed
namespace Go.Proofs.Ytdgmcgfkammioaa
open Go.RowKit

/-- the kind of a cell: a bool, or an integer -/
inductive CK where
  | b
  | i (k : IntKind)
def CK.fits : CK → Value → Prop
  | .b, .bool _ => True
  | .i k, .int q n => q = k ∧ (Lit.int k n).wf = true
  | _, _ => False
def Fits : List CK → List Value → Prop
  | [], [] => True
  | k :: ks, v :: vs => k.fits v ∧ Fits ks vs
  | _, _ => False
set_option maxRecDepth 20000 in
theorem Fits.len : ∀ {ks : List CK} {vs : List Value}, Fits ks vs → vs.length = ks.length
  | [], [], _ => rfl
  | _ :: _, _ :: _, h => by rw [List.length_cons, List.length_cons, h.2.len]
  | [], _ :: _, h => h.elim
  | _ :: _, [], h => h.elim
set_option maxRecDepth 20000 in
theorem fits_append : ∀ {a b : List CK} {u v : List Value}, Fits a u → Fits b v → Fits (a ++ b) (u ++ v)
  | [], _, [], _, _, h => h
  | _ :: _, _, _ :: _, _, g, h => ⟨g.1, fits_append g.2 h⟩
  | [], _, _ :: _, _, g, _ => g.elim
  | _ :: _, _, [], _, g, _ => g.elim
set_option maxRecDepth 20000 in
theorem fits_split : ∀ {a b : List CK} {v : List Value}, Fits (a ++ b) v → Fits a (v.take a.length) ∧ Fits b (v.drop a.length)
  | [], _, _, h => ⟨trivial, h⟩
  | _ :: _, _, _ :: _, h => ⟨⟨h.1, (fits_split h.2).1⟩, (fits_split h.2).2⟩
  | _ :: _, _, [], h => h.elim
set_option maxRecDepth 20000 in
theorem Fits.one : ∀ {ks : List CK} {vs : List Value}, Fits ks vs → ∀ v ∈ vs, v.oneCell' = true
  | [], [], _ => by simp
  | k :: ks, v :: vs, h => by
    intro x hx
    rcases List.mem_cons.1 hx with rfl | hx
    · have := h.1
      cases k <;> cases x <;> first | rfl | exact this.elim
    · exact h.2.one x hx
  | [], _ :: _, h => h.elim
  | _ :: _, [], h => h.elim

def kindsF (P : Program) (K : TypeId → Option (List CK)) : List Field → Nat → Option (List CK)
  | [], _ => some []
  | f :: r, o => if f.offset = o ∧ (f.name != "_") = true then (K f.type).bind fun a => if a.length = P.cellsOf f.type then (kindsF P K r (o + a.length)).map (a ++ ·) else none else none
/-- the kinds of a type's cells -/
def kinds (P : Program) : Nat → TypeId → Option (List CK)
  | 0, _ => none
  | d + 1, t =>
    match P.underlying t with
    | some .bool => some [.b]
    | some (.int k) => some [.i k]
    | some (.array n e) => (kinds P d e).bind fun a => if a.length = P.cellsOf e ∧ n * P.cellsOf e = P.cellsOf t then some (List.replicate n a).flatten else none
    | some (.struct fs) => (kindsF P (kinds P d) fs.toList 0).bind fun a => if a.length = P.cellsOf t then some a else none
    | _ => none
section
variable {P : Program}

set_option maxRecDepth 20000 in
theorem kindsF_lits {d : Nat} {K : TypeId → Option (List CK)} (hK : ∀ t ks, K t = some ks → ∀ cs, Fits ks cs → ∃ ls, P.keyLits d t cs = some ls) :
    ∀ (fs : List Field) (o : Nat) (ks : List CK), kindsF P K fs o = some ks → ∀ cs : List Value, Fits ks ((cs.drop o).take ks.length) →
      (∀ f ∈ fs, (f.name != "_") = true) ∧ ∃ xs, fs.mapM (fun f => P.keyLits d f.type ((cs.drop f.offset).take (P.cellsOf f.type))) = some xs
  | [], _, _, _, _, _ => ⟨by simp, [], rfl⟩
  | f :: r, o, ks, h, cs, hc => by
    unfold kindsF at h
    split at h
    case isFalse => cases h
    case isTrue hf =>
      obtain ⟨a, ha, h⟩ := Option.bind_eq_some_iff.1 h
      split at h
      case isFalse => cases h
      case isTrue hl =>
        obtain ⟨b, hb, rfl⟩ := Option.map_eq_some_iff.1 h
        obtain ⟨s1, s2⟩ := fits_split hc
        rw [List.take_take, List.length_append, Nat.min_eq_left (by omega)] at s1
        have s2' : Fits b ((cs.drop (o + a.length)).take b.length) := by
          rw [List.drop_take, List.length_append, List.drop_drop] at s2
          simpa using s2
        obtain ⟨n1, xs, hx⟩ := kindsF_lits hK r (o + a.length) b hb cs s2'
        obtain ⟨ls, hls⟩ := hK _ _ ha _ s1
        refine ⟨fun g hg => ?_, ls :: xs, ?_⟩
        · rcases List.mem_cons.1 hg with rfl | hg
          · exact hf.2
          · exact n1 g hg
        · rw [List.mapM_cons, hf.1, ← hl, hls]
          simp only [Option.bind_eq_bind, Option.bind_some, hx]
          rfl
set_option maxRecDepth 20000 in
theorem rep_lits {d : Nat} {e : TypeId} {a : List CK} {c : Nat} (hl : a.length = c) (hK : ∀ cs, Fits a cs → ∃ ls, P.keyLits d e cs = some ls) (cs : List Value) :
    ∀ (m s : Nat), Fits (List.replicate m a).flatten ((cs.drop (s * c)).take (m * c)) → ∃ xs, (List.range' s m).mapM (fun i => P.keyLits d e ((cs.drop (i * c)).take c)) = some xs
  | 0, _, _ => ⟨[], rfl⟩
  | m + 1, s, h => by
    rw [List.replicate_succ, List.flatten_cons] at h
    obtain ⟨s1, s2⟩ := fits_split h
    rw [hl] at s1 s2
    rw [List.take_take, Nat.min_eq_left (by rw [Nat.add_mul]; omega)] at s1
    have s2' : Fits (List.replicate m a).flatten ((cs.drop ((s + 1) * c)).take (m * c)) := by
      rw [List.drop_take, List.drop_drop] at s2
      rw [Nat.add_mul, Nat.one_mul]
      rw [Nat.add_mul, Nat.one_mul, Nat.add_sub_cancel] at s2
      exact s2
    obtain ⟨xs, hx⟩ := rep_lits hl hK cs m (s + 1) s2'
    obtain ⟨ls, hls⟩ := hK _ s1
    refine ⟨ls :: xs, ?_⟩
    rw [List.range'_succ, List.mapM_cons, hls]
    simp only [Option.bind_eq_bind, Option.bind_some, hx]
    rfl
set_option maxRecDepth 20000 in
theorem kinds_lits : ∀ (d : Nat) (t : TypeId) (ks : List CK), kinds P d t = some ks → ∀ cs : List Value, Fits ks cs → ∃ ls, P.keyLits d t cs = some ls
  | 0, _, _, h, _, _ => by simp [kinds] at h
  | d + 1, t, ks, h, cs, hc => by
    unfold kinds at h
    unfold Program.keyLits
    split at h
    case h_1 hu =>
      cases h
      rw [hu]
      match cs, hc with
      | [.bool b], _ => exact ⟨_, rfl⟩
    case h_2 k hu =>
      cases h
      rw [hu]
      match cs, hc with
      | [.int q n], hc => exact ⟨[.int k n], by simp [hc.1.1, hc.1.2]⟩
    case h_3 n e hu =>
      rw [hu]
      obtain ⟨a, ha, h⟩ := Option.bind_eq_some_iff.1 h
      split at h
      case isFalse => cases h
      case isTrue hl =>
        cases h
        have hlen := hc.len
        simp only [List.length_flatten, List.map_replicate, List.sum_replicate_nat] at hlen
        obtain ⟨xs, hx⟩ := rep_lits hl.1 (kinds_lits d e a ha) cs n 0 (by
          rw [Nat.zero_mul, List.drop_zero, List.take_of_length_le (by rw [hlen, hl.1]; exact Nat.le_refl _)]
          exact hc)
        refine ⟨xs.flatten, ?_⟩
        simp only
        rw [if_pos (by rw [hlen, hl.1, hl.2]), List.range_eq_range', hx]
        rfl
    case h_4 fs hu =>
      rw [hu]
      obtain ⟨a, ha, h⟩ := Option.bind_eq_some_iff.1 h
      split at h
      case isFalse => cases h
      case isTrue hl =>
        cases h
        have hlen := hc.len
        obtain ⟨n1, xs, hx⟩ := kindsF_lits (kinds_lits d) fs.toList 0 ks ha cs (by
          rw [List.drop_zero, List.take_of_length_le (by rw [hlen]; exact Nat.le_refl _)]
          exact hc)
        refine ⟨xs.flatten, ?_⟩
        simp only
        rw [if_pos ⟨by rw [hlen, hl], Array.all_eq_true_iff_forall_mem.2 fun f hf => n1 f (Array.mem_toList_iff.2 hf)⟩, hx]
        rfl
    case h_5 => cases h

set_option maxRecDepth 20000 in
theorem kindsF_trod {H : Type} {enc : TypeId × Value → H} {w : World} {base : Nat} {spare : Nat → Bool} {held : Bool} {fuel : Nat} {K : TypeId → Option (List CK)}
    (hK : ∀ t ks, K t = some ks → ∀ cs x, DataW.trod enc P w base spare held fuel t cs = some x → Fits ks cs) :
    ∀ (fs : List Field) (o : Nat) (ks : List CK), kindsF P K fs o = some ks → ∀ (cs : List Value) xs, fs.mapM (fun f => DataW.trod enc P w base spare held fuel f.type ((cs.drop f.offset).take (P.cellsOf f.type))) = some xs → Fits ks ((cs.drop o).take ks.length)
  | [], _, ks, h, cs, _, _ => by
    unfold kindsF at h
    cases h
    rw [List.length_nil, List.take_zero]
    trivial
  | f :: r, o, ks, h, cs, xs, hx => by
    unfold kindsF at h
    split at h
    case isFalse => cases h
    case isTrue hf =>
      obtain ⟨a, ha, h⟩ := Option.bind_eq_some_iff.1 h
      split at h
      case isFalse => cases h
      case isTrue hl =>
        obtain ⟨b, hb, rfl⟩ := Option.map_eq_some_iff.1 h
        rw [List.mapM_cons] at hx
        simp only [Option.bind_eq_bind] at hx
        obtain ⟨y, hy, hx⟩ := Option.bind_eq_some_iff.1 hx
        obtain ⟨ys, hys, _⟩ := Option.bind_eq_some_iff.1 hx
        have s1 := hK _ _ ha _ _ hy
        rw [hf.1, ← hl] at s1
        have s2 := kindsF_trod hK r (o + a.length) b hb cs ys hys
        have := fits_append s1 s2
        rw [List.length_append, List.take_add, List.drop_drop]
        exact this
set_option maxRecDepth 20000 in
theorem rep_trod {H : Type} {enc : TypeId × Value → H} {w : World} {base : Nat} {spare : Nat → Bool} {held : Bool} {fuel : Nat} {e : TypeId} {a : List CK} {c : Nat}
    (hK : ∀ cs x, DataW.trod enc P w base spare held fuel e cs = some x → Fits a cs) (cs : List Value) :
    ∀ (m s : Nat) xs, (List.range' s m).mapM (fun i => DataW.trod enc P w base spare held fuel e ((cs.drop (i * c)).take c)) = some xs → Fits (List.replicate m a).flatten ((cs.drop (s * c)).take (m * c))
  | 0, _, _, _ => by simp [Fits]
  | m + 1, s, xs, hx => by
    rw [List.range'_succ, List.mapM_cons] at hx
    simp only [Option.bind_eq_bind] at hx
    obtain ⟨y, hy, hx⟩ := Option.bind_eq_some_iff.1 hx
    obtain ⟨ys, hys, _⟩ := Option.bind_eq_some_iff.1 hx
    have s1 := hK _ _ hy
    have s2 := rep_trod hK cs m (s + 1) ys hys
    have := fits_append s1 s2
    rw [List.replicate_succ, List.flatten_cons, Nat.add_mul, Nat.one_mul, Nat.add_comm (m * c) c, List.take_add, List.drop_drop]
    rw [Nat.add_mul, Nat.one_mul] at this
    exact this
set_option maxRecDepth 20000 in
theorem kinds_trod {H : Type} {enc : TypeId × Value → H} {w : World} {base : Nat} {spare : Nat → Bool} {held : Bool} : ∀ (d fuel : Nat) (t : TypeId) (ks : List CK), kinds P d t = some ks → ∀ (cs : List Value) x, DataW.trod enc P w base spare held fuel t cs = some x → Fits ks cs
  | 0, _, _, _, h, _, _, _ => by simp [kinds] at h
  | d + 1, 0, _, _, _, _, _, hx => by simp [DataW.trod] at hx
  | d + 1, fuel + 1, t, ks, h, cs, x, hx => by
    unfold kinds at h
    unfold DataW.trod at hx
    split at h
    case h_1 hu =>
      cases h
      rw [hu] at hx
      split at hx <;> simp_all [Fits, CK.fits]
    case h_2 k hu =>
      cases h
      rw [hu] at hx
      split at hx <;> simp_all [Fits, CK.fits]
    case h_3 n e hu =>
      rw [hu] at hx
      obtain ⟨a, ha, h⟩ := Option.bind_eq_some_iff.1 h
      split at h
      case isFalse => cases h
      case isTrue hl =>
        cases h
        simp only at hx
        split at hx
        case isFalse => cases hx
        case isTrue hlen =>
          obtain ⟨xs, hxs, _⟩ := Option.map_eq_some_iff.1 hx
          rw [List.range_eq_range'] at hxs
          have := rep_trod (kinds_trod d fuel e a ha) cs n 0 xs hxs
          rw [Nat.zero_mul, List.drop_zero, List.take_of_length_le (by rw [hlen, hl.2]; exact Nat.le_refl _)] at this
          exact this
    case h_4 fs hu =>
      rw [hu] at hx
      obtain ⟨a, ha, h⟩ := Option.bind_eq_some_iff.1 h
      split at h
      case isFalse => cases h
      case isTrue hl =>
        cases h
        simp only at hx
        split at hx
        case isFalse => cases hx
        case isTrue hlen =>
          obtain ⟨xs, hxs, _⟩ := Option.map_eq_some_iff.1 hx
          have := kindsF_trod (kinds_trod d fuel) fs.toList 0 ks ha cs xs hxs
          rw [List.drop_zero, List.take_of_length_le (by rw [hlen, hl]; exact Nat.le_refl _)] at this
          exact this
    case h_5 => cases h
set_option maxRecDepth 20000 in
theorem kinds_len : ∀ {d : Nat} {t : TypeId} {ks : List CK}, kinds P d t = some ks → (∃ n e, P.underlying t = some (.array n e)) ∨ (∃ fs, P.underlying t = some (.struct fs)) → ks.length = P.cellsOf t
  | 0, _, _, h, _ => by simp [kinds] at h
  | d + 1, t, ks, h, hr => by
    unfold kinds at h
    rcases hr with ⟨n, e, hu⟩ | ⟨fs, hu⟩
    · rw [hu] at h
      obtain ⟨a, ha, h⟩ := Option.bind_eq_some_iff.1 h
      split at h
      case isFalse => cases h
      case isTrue hl =>
        cases h
        simp only [List.length_flatten, List.map_replicate, List.sum_replicate_nat]
        rw [hl.1, hl.2]
    · rw [hu] at h
      obtain ⟨a, ha, h⟩ := Option.bind_eq_some_iff.1 h
      split at h
      case isFalse => cases h
      case isTrue hl =>
        cases h
        exact hl
/-- whole types -/
def wholeB (P : Program) (t : TypeId) : Bool := match P.underlying t with | some (.array _ _) | some (.struct _) => true | _ => false
set_option maxRecDepth 20000 in
theorem keyOf_fits {d : Nat} {t : TypeId} {ks : List CK} (hw : wholeB P t = true) (hk : P.keyType t = true) (hd : d = P.types.size + 1) (h : kinds P d t = some ks) {cs : List Value} (hc : Fits ks cs) : ∃ l, keyOf P t (.agg cs.toArray) = some l := by
  obtain ⟨ls, hls⟩ := kinds_lits d t ks h cs hc
  subst hd
  unfold wholeB at hw
  unfold keyOf
  split at hw
  · rename_i n e hu
    have hl := kinds_len h (.inl ⟨n, e, hu⟩)
    have hf : (Value.agg cs.toArray).formed P t = true := by
      simp only [Value.formed, hu]
      simp [hc.len, hl]
    rw [hu]
    simp only [hk, hf, Bool.and_self, if_true]
    exact ⟨_, by rw [show (Value.agg cs.toArray).cells.toList = cs from rfl, hls]; rfl⟩
  · rename_i fs hu
    have hl := kinds_len h (.inr ⟨fs, hu⟩)
    have hf : (Value.agg cs.toArray).formed P t = true := by
      simp only [Value.formed, hu]
      simp [hc.len, hl]
    rw [hu]
    simp only [hk, hf, Bool.and_self, if_true]
    exact ⟨_, by rw [show (Value.agg cs.toArray).cells.toList = cs from rfl, hls]; rfl⟩
  · cases hw
end
end Go.Proofs.Ytdgmcgfkammioaa
