/- An NTP header as numbers, its bytes, and back: plain, no program walked. -/
import Derived.Test.YtofbhkodnijkjaaByteB
namespace Go.Proofs.Ytofbhkodnijkjaa
open Go.RowKit

/-- the n low bytes of a number, the highest first -/
def be : Nat → Int → List Int
  | 0, _ => []
  | n + 1, x => (x / 256 ^ n) % 256 :: be n x
/-- the number that bytes are -/
def ofB (bs : List Int) : Int := bs.foldl (fun a c => a * 256 + c) 0
set_option maxRecDepth 20000 in
theorem be_len (n : Nat) (x : Int) : (be n x).length = n := by
  induction n with
  | zero => rfl
  | succ n ih => simp [be, ih]
set_option maxRecDepth 20000 in
theorem be_byte (n : Nat) (x : Int) : ∀ c ∈ be n x, 0 ≤ c ∧ c ≤ 255 := by
  induction n with
  | zero => intro c hc; simp [be] at hc
  | succ n ih =>
    intro c hc
    simp only [be, List.mem_cons] at hc
    rcases hc with rfl | hc
    · omega
    · exact ih c hc
set_option maxRecDepth 20000 in
theorem ofB_snoc (bs : List Int) (c : Int) : ofB (bs ++ [c]) = ofB bs * 256 + c := by unfold ofB; rw [List.foldl_append]; rfl
set_option maxRecDepth 20000 in
theorem ofB_acc (bs : List Int) : ∀ a : Int, bs.foldl (fun a c => a * 256 + c) a = a * 256 ^ bs.length + ofB bs := by
  induction bs with
  | nil => intro a; simp [ofB]
  | cons c cs ih =>
    intro a
    unfold ofB
    rw [List.foldl_cons, List.foldl_cons, ih, ih (0 * 256 + c), List.length_cons, Int.pow_succ, Int.zero_mul, Int.zero_add, Int.add_mul, Int.mul_assoc, Int.mul_comm 256]
    omega
set_option maxRecDepth 20000 in
theorem ofB_cons (c : Int) (cs : List Int) : ofB (c :: cs) = c * 256 ^ cs.length + ofB cs := by
  show List.foldl _ (0 * 256 + c) cs = _
  rw [ofB_acc, Int.zero_mul, Int.zero_add]
set_option maxRecDepth 20000 in
theorem ofB_bd (bs : List Int) (h : ∀ c ∈ bs, 0 ≤ c ∧ c ≤ 255) : 0 ≤ ofB bs ∧ ofB bs < 256 ^ bs.length := by
  induction bs with
  | nil => simp [ofB]
  | cons c cs ih =>
    obtain ⟨h1, h2⟩ := ih fun d hd => h d (by simp [hd])
    obtain ⟨h3, h4⟩ := h c (by simp)
    rw [ofB_cons, List.length_cons, Int.pow_succ]
    have hp : (0 : Int) < 256 ^ cs.length := Int.pow_pos (by omega)
    generalize (256 : Int) ^ cs.length = p at *
    have h5 : 0 ≤ c * p := Int.mul_nonneg h3 (by omega)
    have h6 : c * p ≤ 255 * p := Int.mul_le_mul_of_nonneg_right h4 (by omega)
    omega
set_option maxRecDepth 20000 in
theorem emod_two (x p : Int) (hp : 0 < p) : x % (p * 256) = x / p % 256 * p + x % p := by
  have h1 := Int.mul_ediv_add_emod x p
  have h2 := Int.mul_ediv_add_emod (x / p) 256
  have h3 := Int.emod_nonneg x (by omega : p ≠ 0)
  have h4 := Int.emod_lt_of_pos x hp
  have h5 := Int.emod_nonneg (x / p) (by omega : (256 : Int) ≠ 0)
  have h6 := Int.emod_lt_of_pos (x / p) (by omega : (0 : Int) < 256)
  generalize x % p = s at *
  generalize x / p % 256 = r at *
  generalize x / p / 256 = u at *
  have e : x = (r * p + s) + (p * 256) * u := by
    rw [← h1, ← h2, Int.mul_add, Int.mul_assoc p 256 u, Int.mul_comm p r]
    omega
  rw [e, Int.add_mul_emod_self_left, Int.emod_eq_of_lt]
  · have := Int.mul_nonneg h5 (by omega : 0 ≤ p)
    omega
  · have : r * p ≤ 255 * p := Int.mul_le_mul_of_nonneg_right (by omega) (by omega)
    omega
set_option maxRecDepth 20000 in
theorem ofB_be (n : Nat) (x : Int) (h0 : 0 ≤ x) (h1 : x < 256 ^ n) : ofB (be n x) = x := by
  have key : ∀ n : Nat, ofB (be n x) = x % 256 ^ n := by
    intro n
    induction n with
    | zero => simp [be, ofB, Int.emod_one]
    | succ n ih =>
      simp only [be]
      rw [ofB_cons, be_len, ih, Int.pow_succ]
      have hp : (0 : Int) < 256 ^ n := Int.pow_pos (by omega)
      generalize (256 : Int) ^ n = p at *
      exact (emod_two x p hp).symm
  rw [key, Int.emod_eq_of_lt h0 h1]
set_option maxRecDepth 20000 in
theorem be_ofB (bs : List Int) (h : ∀ c ∈ bs, 0 ≤ c ∧ c ≤ 255) : be bs.length (ofB bs) = bs := by
  have key : ∀ (bs : List Int), (∀ c ∈ bs, 0 ≤ c ∧ c ≤ 255) → ∀ (m : Int), be bs.length (m * 256 ^ bs.length + ofB bs) = bs := by
    intro bs
    induction bs with
    | nil => intro _ m; rfl
    | cons c cs ih =>
      intro h m
      obtain ⟨h3, h4⟩ := h c (by simp)
      have hb := ofB_bd cs fun d hd => h d (by simp [hd])
      rw [List.length_cons, be, ofB_cons, Int.pow_succ]
      have e : m * (256 ^ cs.length * 256) + (c * 256 ^ cs.length + ofB cs) = (m * 256 + c) * 256 ^ cs.length + ofB cs := by
        rw [Int.add_mul, Int.mul_assoc m 256, Int.mul_comm 256]; omega
      rw [e, ih (fun d hd => h d (by simp [hd]))]
      have hp : (0 : Int) < 256 ^ cs.length := Int.pow_pos (by omega)
      congr 1
      generalize (256 : Int) ^ cs.length = p at *
      rw [Int.add_comm, Int.add_mul_ediv_right _ _ (by omega), Int.ediv_eq_zero_of_lt hb.1 hb.2]
      omega
  have := key bs h 0
  simpa using this

structure Hd where
  l : Int
  v : Int
  m : Int
  s : Int
  po : Int
  pr : Int
  rd : Int
  rp : Int
  a : Int
  b : Int
  c : Int
  d : Int
  f : Int
  o : Int
  r : Int
  x : Int
  deriving DecidableEq
structure HdOk (h : Hd) : Prop where
  l : 0 ≤ h.l ∧ h.l ≤ 255
  v : 0 ≤ h.v ∧ h.v ≤ 255
  m : 0 ≤ h.m ∧ h.m ≤ 255
  s : 0 ≤ h.s ∧ h.s ≤ 255
  po : -128 ≤ h.po ∧ h.po ≤ 127
  pr : -128 ≤ h.pr ∧ h.pr ≤ 127
  rd : 0 ≤ h.rd ∧ h.rd ≤ 4294967295
  rp : 0 ≤ h.rp ∧ h.rp ≤ 4294967295
  a : 0 ≤ h.a ∧ h.a ≤ 255
  b : 0 ≤ h.b ∧ h.b ≤ 255
  c : 0 ≤ h.c ∧ h.c ≤ 255
  d : 0 ≤ h.d ∧ h.d ≤ 255
  f : 0 ≤ h.f ∧ h.f ≤ 18446744073709551615
  o : 0 ≤ h.o ∧ h.o ≤ 18446744073709551615
  r : 0 ≤ h.r ∧ h.r ≤ 18446744073709551615
  x : 0 ≤ h.x ∧ h.x ≤ 18446744073709551615
abbrev hdC (h : Hd) : Array Value := #[.int .u8 h.l, .int .u8 h.v, .int .u8 h.m, .int .u8 h.s, .int .i8 h.po, .int .i8 h.pr, .int .u32 h.rd, .int .u32 h.rp, .int .u8 h.a, .int .u8 h.b, .int .u8 h.c, .int .u8 h.d, .int .u64 h.f, .int .u64 h.o, .int .u64 h.r, .int .u64 h.x]
abbrev hdV (h : Hd) : Value := .agg #[.int .u8 h.l, .int .u8 h.v, .int .u8 h.m, .int .u8 h.s, .int .i8 h.po, .int .i8 h.pr, .int .u32 h.rd, .int .u32 h.rp, .int .u8 h.a, .int .u8 h.b, .int .u8 h.c, .int .u8 h.d, .int .u64 h.f, .int .u64 h.o, .int .u64 h.r, .int .u64 h.x]
def hd0 : Hd := ⟨0, 0, 0, 0, 0, 0, 0, 0, 0, 0, 0, 0, 0, 0, 0, 0⟩
def mayH (h : Hd) : Bool := decide (h.l < 4) && decide (h.v < 8) && decide (h.m < 8)
/-- the bytes -/
def hdB (h : Hd) : List Int := [h.l * 64 + h.v * 8 + h.m, h.s, h.po % 256, h.pr % 256] ++ be 4 h.rd ++ be 4 h.rp ++ [h.a, h.b, h.c, h.d] ++ be 8 h.f ++ be 8 h.o ++ be 8 h.r ++ be 8 h.x
def sgn8 (c : Int) : Int := if 127 < c then c - 256 else c
/-- what 48 bytes tell -/
def hdOf (bs : List Int) : Hd := ⟨bs.getD 0 0 / 64, bs.getD 0 0 / 8 % 8, bs.getD 0 0 % 8, bs.getD 1 0, sgn8 (bs.getD 2 0), sgn8 (bs.getD 3 0), ofB ((bs.drop 4).take 4), ofB ((bs.drop 8).take 4), bs.getD 12 0, bs.getD 13 0, bs.getD 14 0, bs.getD 15 0, ofB ((bs.drop 16).take 8), ofB ((bs.drop 24).take 8), ofB ((bs.drop 32).take 8), ofB ((bs.drop 40).take 8)⟩
set_option maxRecDepth 20000 in
theorem hdB_len (h : Hd) : (hdB h).length = 48 := by unfold hdB; simp [be_len]
set_option maxRecDepth 20000 in
theorem hdB_byte (h : Hd) (ok : HdOk h) (may : mayH h = true) : ∀ c ∈ hdB h, 0 ≤ c ∧ c ≤ 255 := by
  unfold mayH at may
  simp only [Bool.and_eq_true, decide_eq_true_eq] at may
  have h1 := ok.l
  have h2 := ok.v
  have h3 := ok.m
  have h4 := ok.s
  have h5 := ok.a
  have h6 := ok.b
  have h7 := ok.c
  have h8 := ok.d
  unfold hdB
  intro c hc
  simp only [List.mem_append, List.mem_cons, List.not_mem_nil, or_false] at hc
  rcases hc with ((((((((rfl | rfl | rfl | rfl) | hc) | hc) | (rfl | rfl | rfl | rfl)) | hc) | hc) | hc) | hc)
  all_goals first
    | exact be_byte _ _ _ hc
    | omega
set_option maxRecDepth 20000 in
theorem pow4 : (256 : Int) ^ 4 = 4294967296 := by decide
set_option maxRecDepth 20000 in
theorem pow8 : (256 : Int) ^ 8 = 18446744073709551616 := by decide
set_option maxRecDepth 20000 in
theorem hdOf_ok (bs : List Int) (hb : ∀ c ∈ bs, 0 ≤ c ∧ c ≤ 255) (hl : 48 ≤ bs.length) : HdOk (hdOf bs) ∧ mayH (hdOf bs) = true := by
  have g : ∀ i, i < bs.length → 0 ≤ bs.getD i 0 ∧ bs.getD i 0 ≤ 255 := fun i hi => by
    rw [List.getD_eq_getElem?_getD, List.getElem?_eq_getElem hi]
    exact hb _ (List.getElem_mem hi)
  have q : ∀ k n, k + n ≤ bs.length → 0 ≤ ofB ((bs.drop k).take n) ∧ ofB ((bs.drop k).take n) < 256 ^ n := fun k n h => by
    have := ofB_bd ((bs.drop k).take n) fun c hc => hb c (List.mem_of_mem_drop (List.mem_of_mem_take hc))
    have e : ((bs.drop k).take n).length = n := by rw [List.length_take, List.length_drop]; omega
    rwa [e] at this
  have g0 := g 0 (by omega)
  have g1 := g 1 (by omega)
  have g2 := g 2 (by omega)
  have g3 := g 3 (by omega)
  have q1 := q 4 4 (by omega)
  have q2 := q 8 4 (by omega)
  have q3 := q 16 8 (by omega)
  have q4 := q 24 8 (by omega)
  have q5 := q 32 8 (by omega)
  have q6 := q 40 8 (by omega)
  rw [pow4] at q1 q2
  rw [pow8] at q3 q4 q5 q6
  constructor
  · unfold hdOf
    constructor <;> simp only
    · omega
    · omega
    · omega
    · exact g1
    · unfold sgn8; split <;> omega
    · unfold sgn8; split <;> omega
    · omega
    · omega
    · exact g 12 (by omega)
    · exact g 13 (by omega)
    · exact g 14 (by omega)
    · exact g 15 (by omega)
    · omega
    · omega
    · omega
    · omega
  · unfold mayH hdOf
    simp only [Bool.and_eq_true, decide_eq_true_eq]
    omega
set_option maxRecDepth 20000 in
theorem split48 {bs : List Int} (h : 48 ≤ bs.length) : bs = [bs.getD 0 0, bs.getD 1 0, bs.getD 2 0, bs.getD 3 0] ++ (bs.drop 4).take 4 ++ (bs.drop 8).take 4 ++ [bs.getD 12 0, bs.getD 13 0, bs.getD 14 0, bs.getD 15 0] ++ (bs.drop 16).take 8 ++ (bs.drop 24).take 8 ++ (bs.drop 32).take 8 ++ (bs.drop 40).take 8 ++ bs.drop 48 := by
  have s4 : ∀ k, k + 4 ≤ bs.length → bs.drop k = [bs.getD k 0, bs.getD (k + 1) 0, bs.getD (k + 2) 0, bs.getD (k + 3) 0] ++ bs.drop (k + 4) := fun k hk => by
    have e : ∀ j, j < bs.length → bs.drop j = bs.getD j 0 :: bs.drop (j + 1) := fun j hj => by
      rw [List.drop_eq_getElem_cons hj]
      simp [List.getD, hj]
    rw [e k (by omega), e (k + 1) (by omega), e (k + 2) (by omega), e (k + 3) (by omega)]
    rfl
  have st : ∀ k n, bs.drop k = (bs.drop k).take n ++ bs.drop (k + n) := fun k n => by
    rw [← List.drop_drop, List.take_append_drop]
  have e0 := s4 0 (by omega)
  rw [List.drop_zero] at e0
  have e1 := st 4 4
  have e2 := st 8 4
  have e3 := s4 12 (by omega)
  have e4 := st 16 8
  have e5 := st 24 8
  have e6 := st 32 8
  have e7 := st 40 8
  simp only [Nat.zero_add, Nat.reduceAdd] at e0 e1 e2 e3 e4 e5 e6 e7
  conv => lhs; rw [e0, e1, e2, e3, e4, e5, e6, e7]
  simp only [List.append_assoc]
set_option maxRecDepth 20000 in
theorem sgn8_mod (c : Int) (h : 0 ≤ c ∧ c ≤ 255) : sgn8 c % 256 = c := by unfold sgn8; split <;> omega
set_option maxRecDepth 20000 in
/-- what is taken is put as its bytes -/
theorem hdB_of (bs : List Int) (hb : ∀ c ∈ bs, 0 ≤ c ∧ c ≤ 255) (hl : 48 ≤ bs.length) : hdB (hdOf bs) ++ bs.drop 48 = bs := by
  have g : ∀ i, i < bs.length → 0 ≤ bs.getD i 0 ∧ bs.getD i 0 ≤ 255 := fun i hi => by
    rw [List.getD_eq_getElem?_getD, List.getElem?_eq_getElem hi]
    exact hb _ (List.getElem_mem hi)
  have q : ∀ k n, k + n ≤ bs.length → be n (ofB ((bs.drop k).take n)) = (bs.drop k).take n := fun k n h => by
    have := be_ofB ((bs.drop k).take n) fun c hc => hb c (List.mem_of_mem_drop (List.mem_of_mem_take hc))
    have e : ((bs.drop k).take n).length = n := by rw [List.length_take, List.length_drop]; omega
    rwa [e] at this
  have g0 := g 0 (by omega)
  conv => rhs; rw [split48 hl]
  unfold hdB hdOf
  simp only
  rw [q 4 4 (by omega), q 8 4 (by omega), q 16 8 (by omega), q 24 8 (by omega), q 32 8 (by omega), q 40 8 (by omega), sgn8_mod _ (g 2 (by omega)), sgn8_mod _ (g 3 (by omega))]
  have e : bs.getD 0 0 / 64 * 64 + bs.getD 0 0 / 8 % 8 * 8 + bs.getD 0 0 % 8 = bs.getD 0 0 := by omega
  rw [e]
set_option maxRecDepth 20000 in
/-- what is put is taken as it was -/
theorem hdOf_put (h : Hd) (ok : HdOk h) (may : mayH h = true) (t : List Int) : hdOf (hdB h ++ t) = h := by
  unfold mayH at may
  simp only [Bool.and_eq_true, decide_eq_true_eq] at may
  have h1 := ok.l
  have h2 := ok.v
  have h3 := ok.m
  have h4 := ok.po
  have h5 := ok.pr
  have e1 := ofB_be 4 h.rd ok.rd.1 (by rw [pow4]; have := ok.rd.2; omega)
  have e2 := ofB_be 4 h.rp ok.rp.1 (by rw [pow4]; have := ok.rp.2; omega)
  have e3 := ofB_be 8 h.f ok.f.1 (by rw [pow8]; have := ok.f.2; omega)
  have e4 := ofB_be 8 h.o ok.o.1 (by rw [pow8]; have := ok.o.2; omega)
  have e5 := ofB_be 8 h.r ok.r.1 (by rw [pow8]; have := ok.r.2; omega)
  have e6 := ofB_be 8 h.x ok.x.1 (by rw [pow8]; have := ok.x.2; omega)
  cases h with
  | mk l v m s po pr rd rp a b c d f o r x =>
    simp only [be] at e1 e2 e3 e4 e5 e6
    unfold hdOf hdB
    simp only [be, List.cons_append, List.nil_append, List.drop_succ_cons, List.drop_zero, List.take_succ_cons, List.take_zero, List.getD_cons_zero, List.getD_cons_succ]
    simp only at h1 h2 h3 h4 h5 may
    rw [e1, e2, e3, e4, e5, e6]
    have a1 : (l * 64 + v * 8 + m) / 64 = l := by omega
    have a2 : (l * 64 + v * 8 + m) / 8 % 8 = v := by omega
    have a3 : (l * 64 + v * 8 + m) % 8 = m := by omega
    have a4 : sgn8 (po % 256) = po := by unfold sgn8; split <;> omega
    have a5 : sgn8 (pr % 256) = pr := by unfold sgn8; split <;> omega
    rw [a1, a2, a3, a4, a5]
end Go.Proofs.Ytofbhkodnijkjaa
