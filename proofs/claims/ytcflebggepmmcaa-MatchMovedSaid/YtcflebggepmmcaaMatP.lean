/- match, plain: what becomes of a datagram, told as the document tells it. -/
import Derived.Test.YtcflebggepmmcaaMatX
import Derived.Test.YtcflebggepmmcaaPendG
namespace Go.Proofs.Ytcflebggepmmcaa
open Go.RowKit

noncomputable def doM (d : Dg) : Do := ⟨if (classP d.bs).2 = 1 then 0 else if (classP d.bs).2 = 4 then 1 else 2, keyC d (classP d.bs).1.h, d.at_⟩
set_option maxRecDepth 20000 in
theorem doM_0 {d : Dg} : (doM d).kd = 0 ↔ (classP d.bs).2 = 1 := by
  unfold doM
  simp only
  split
  · rename_i c; exact ⟨fun _ => c, fun _ => rfl⟩
  · rename_i c; split <;> exact ⟨fun h => absurd h (by decide), fun h => absurd h c⟩
set_option maxRecDepth 20000 in
theorem doM_1 {d : Dg} : (doM d).kd = 1 ↔ (classP d.bs).2 = 4 := by
  unfold doM
  simp only
  split
  · rename_i c; exact ⟨fun h => absurd h (by decide), fun h => absurd (c.symm.trans h) (by decide)⟩
  · split
    · rename_i c; exact ⟨fun _ => c, fun _ => rfl⟩
    · rename_i c; exact ⟨fun h => absurd h (by decide), fun h => absurd h c⟩
set_option maxRecDepth 20000 in
theorem entM_step (room : Int) (E : List En) (d : Dg) : entM room E d = stepE room E (doM d) := by
  unfold entM stepE
  by_cases c : (classP d.bs).2 = 1
  · rw [if_pos c, if_pos (doM_0.2 c)]; rfl
  · rw [if_neg c, if_neg (fun h => c (doM_0.1 h))]
    by_cases c : (classP d.bs).2 = 4
    · rw [if_pos c, if_pos (doM_1.2 c)]; rfl
    · rw [if_neg c, if_neg (fun h => c (doM_1.1 h))]
set_option maxRecDepth 20000 in
theorem playM_eq (room : Int) (l : List Dg) : ∀ n, playM room l n = playE room (l.map doM) n
  | 0 => rfl
  | n + 1 => by
    have ih := playM_eq room l n
    rw [playM, playE, List.getElem?_map]
    cases l[n]? with
    | none => exact ih
    | some d => simp only [Option.map_some]; rw [ih, entM_step]
/-- where a key was asked last, ahead of a place, if it is kept; else -1 -/
noncomputable def askedM (room : Int) (l : List Dg) (n : Nat) (k : Array Value) : Int := askedE room (l.map doM) n k
set_option maxRecDepth 20000 in
theorem map_get {l : List Dg} {j : Nat} {y : Do} (h : (l.map doM)[j]? = some y) : ∃ d, l[j]? = some d ∧ doM d = y := by
  rw [List.getElem?_map] at h
  cases e : l[j]? with
  | none => rw [e] at h; cases h
  | some d => rw [e] at h; injection h with h; exact ⟨d, rfl, h⟩
set_option maxRecDepth 20000 in
theorem cls_rest {win : Int} {E : List En} {d : Dg} (c1 : (classP d.bs).2 ≠ 1) (c4 : (classP d.bs).2 ≠ 4) : clsM win E d = (classP d.bs).2 := by
  unfold clsM
  rw [if_neg c1, if_neg c4]
set_option maxRecDepth 20000 in
theorem cls_req {win room : Int} (h1 : 1 ≤ room) {l : List Dg} {n : Nat} (hn : n < l.length) (c1 : (classP l[n].bs).2 = 1) : clsM win (playM room l n) l[n] = if 0 ≤ askedM room l n (keyC l[n] (classP l[n].bs).1.h) then 2 else 1 := by
  unfold clsM askedM
  rw [if_pos c1, hasE_find, playM_eq]
  rcases find_asked h1 (l.map doM) (keyC l[n] (classP l[n].bs).1.h) n (by rw [List.length_map]; omega) with ⟨e, h⟩ | ⟨m, y, b, e, _, _, h, _⟩
  · rw [h, e]; rfl
  · have hm : (0 : Int) ≤ (m : Int) := by omega
    rw [h, e, if_pos hm]; rfl
set_option maxRecDepth 20000 in
theorem cls_bogus {win room : Int} (h1 : 1 ≤ room) {l : List Dg} {n : Nat} (hn : n < l.length) (c4 : (classP l[n].bs).2 = 4) (h : askedM room l n (keyC l[n] (classP l[n].bs).1.h) < 0) : clsM win (playM room l n) l[n] = 7 := by
  unfold askedM at h
  unfold clsM
  rw [if_neg (by rw [c4]; decide), if_pos c4, playM_eq]
  rcases find_asked h1 (l.map doM) (keyC l[n] (classP l[n].bs).1.h) n (by rw [List.length_map]; omega) with ⟨e, h⟩ | ⟨m, y, b, e, _, _, _, _⟩
  · rw [h]
  · omega
set_option maxRecDepth 20000 in
theorem cls_replay {win room : Int} (h1 : 1 ≤ room) {l : List Dg} {n : Nat} (hn : n < l.length) (c4 : (classP l[n].bs).2 = 4) {m j : Nat} (h : askedM room l n (keyC l[n] (classP l[n].bs).1.h) = m) (j1 : m < j) (j2 : j < n) (hj : (classP (l[j]'(by omega)).bs).2 = 4) (hk : keyC (l[j]'(by omega)) (classP (l[j]'(by omega)).bs).1.h = keyC l[n] (classP l[n].bs).1.h) : clsM win (playM room l n) l[n] = 6 := by
  unfold askedM at h
  unfold clsM
  rw [if_neg (by rw [c4]; decide), if_pos c4, playM_eq]
  rcases find_asked h1 (l.map doM) (keyC l[n] (classP l[n].bs).1.h) n (by rw [List.length_map]; omega) with ⟨e, _⟩ | ⟨m', y, b, e, p1, p2, p3, p4⟩
  · omega
  · have : m' = m := by omega
    subst this
    rw [p3]
    have : b = true := p4.2 ⟨j, doM (l[j]'(by omega)), j1, j2, by rw [List.getElem?_map, List.getElem?_eq_getElem (by omega)]; rfl, hk, doM_1.2 hj⟩
    subst this
    rfl
set_option maxRecDepth 20000 in
theorem cls_last {win room : Int} (h1 : 1 ≤ room) {l : List Dg} {n : Nat} (hn : n < l.length) (c4 : (classP l[n].bs).2 = 4) {m : Nat} (h : askedM room l n (keyC l[n] (classP l[n].bs).1.h) = m) (no : ∀ j (hj : j < l.length), m < j → j < n → (classP l[j].bs).2 = 4 → keyC l[j] (classP l[j].bs).1.h ≠ keyC l[n] (classP l[n].bs).1.h) :
    ∃ hm : m < l.length, m < n ∧ clsM win (playM room l n) l[n] = if insB win (wI l[m].at_) (wI l[n].at_) = true then 4 else 5 := by
  unfold askedM at h
  unfold clsM
  rw [if_neg (by rw [c4]; decide), if_pos c4, playM_eq]
  rcases find_asked h1 (l.map doM) (keyC l[n] (classP l[n].bs).1.h) n (by rw [List.length_map]; omega) with ⟨e, _⟩ | ⟨m', y, b, e, p1, p2, p3, p4⟩
  · omega
  · have : m' = m := by omega
    subst this
    refine ⟨by omega, p1, ?_⟩
    rw [p3]
    have : ¬ b = true := fun hb => by
      obtain ⟨j, z, q1, q2, q3, q4, q5⟩ := p4.1 hb
      obtain ⟨d, hd, rfl⟩ := map_get q3
      have hj : j < l.length := by omega
      rw [List.getElem?_eq_getElem hj] at hd
      injection hd with hd
      subst hd
      exact no j hj q1 q2 (doM_1.1 q5) q4
    simp only [this]
    obtain ⟨d, hd, rfl⟩ := map_get p2
    rw [List.getElem?_eq_getElem (by omega)] at hd
    injection hd with hd
    subst hd
    rfl
set_option maxRecDepth 20000 in
theorem asked_lt {room : Int} (h1 : 1 ≤ room) {l : List Dg} {n : Nat} (hn : n ≤ l.length) (k : Array Value) : askedM room l n k = -1 ∨ ∃ m : Nat, m < n ∧ askedM room l n k = m := by
  unfold askedM
  rcases find_asked h1 (l.map doM) k n (by rw [List.length_map]; omega) with ⟨e, _⟩ | ⟨m', y, b, e, p1, _⟩
  · exact .inl e
  · exact .inr ⟨m', p1, e⟩
end Go.Proofs.Ytcflebggepmmcaa
