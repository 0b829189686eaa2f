/-
  CRC-32 over bit vectors: the register's half step is linear and loses nothing; feeding bits one by one; bursts of up to 32 bits; what a text with its own sum behind it has for a sum. No program in sight.
-/
import Derived.Laws.BitsLemmas
namespace Go.Proofs.Ytkipbilnhpeacaa.CrcMath
def poly : BitVec 32 := 3988292384#32
def ones : BitVec 32 := 4294967295#32
def half (r : BitVec 32) : BitVec 32 := if r.getLsbD 0 then (r >>> 1) ^^^ poly else r >>> 1

theorem half_xor (a b : BitVec 32) : half (a ^^^ b) = half a ^^^ half b := by
  unfold half
  cases ha : a.getLsbD 0 <;> cases hb : b.getLsbD 0 <;> simp only [BitVec.getLsbD_xor, ha, hb] <;> apply BitVec.eq_of_getLsbD_eq <;> intro i hi <;> simp <;> cases a.getLsbD (1 + i) <;> cases b.getLsbD (1 + i) <;> cases poly.getLsbD i <;> rfl
theorem half_zero : half 0#32 = 0#32 := by decide
theorem half_ne {x : BitVec 32} (h : half x = 0#32) : x = 0#32 := by
  unfold half at h
  cases h0 : x.getLsbD 0 with
  | true =>
    rw [h0] at h
    have h31 : (x >>> 1 ^^^ poly).getLsbD 31 = false := by
      simp only [if_true] at h
      rw [h]; decide
    simp at h31
    exact absurd h31 (by decide)
  | false =>
    rw [h0] at h
    simp only [Bool.false_eq_true, if_false] at h
    apply BitVec.eq_of_getLsbD_eq
    intro i hi
    cases i with
    | zero => rw [h0]; decide
    | succ j =>
      have := congrArg (fun v => v.getLsbD j) h
      simp at this
      rw [Nat.add_comm 1 j] at this
      simpa using this

def halfN : Nat → BitVec 32 → BitVec 32
  | 0, r => r
  | n + 1, r => halfN n (half r)
theorem halfN_xor (n : Nat) : ∀ a b, halfN n (a ^^^ b) = halfN n a ^^^ halfN n b := by
  induction n with
  | zero => intro a b; rfl
  | succ n ih => intro a b; simp only [halfN, half_xor, ih]
theorem halfN_zero (n : Nat) : halfN n 0#32 = 0#32 := by
  induction n with
  | zero => rfl
  | succ n ih => simp only [halfN, half_zero, ih]
theorem halfN_ne (n : Nat) : ∀ {x}, halfN n x = 0#32 → x = 0#32 := by
  induction n with
  | zero => intro x h; exact h
  | succ n ih => intro x h; exact half_ne (ih h)

/-- Bits, fed one by one. -/
def bitv (d : Bool) : BitVec 32 := if d then 1#32 else 0#32
def feed : BitVec 32 → List Bool → BitVec 32
  | s, [] => s
  | s, d :: l => feed (half (s ^^^ bitv d)) l
theorem feed_append (l m : List Bool) : ∀ s, feed s (l ++ m) = feed (feed s l) m := by
  induction l with
  | nil => intro s; rfl
  | cons d l ih => intro s; simp only [List.cons_append, feed, ih]
theorem feed_zeros (n : Nat) : ∀ s, feed s (List.replicate n false) = halfN n s := by
  induction n with
  | zero => intro s; rfl
  | succ n ih => intro s; simp only [List.replicate_succ, feed, ih, halfN]; simp [bitv]
/-- The number that bits make, the lowest first. -/
def val : List Bool → Nat
  | [] => 0
  | d :: l => (if d then 1 else 0) + 2 * val l
theorem val_lt (l : List Bool) : val l < 2 ^ l.length := by
  induction l with
  | nil => simp [val]
  | cons d l ih => simp only [val, List.length_cons, Nat.pow_succ]; split <;> omega
theorem half_even (v : Nat) (h : v < 2147483648) : half (BitVec.ofNat 32 (2 * v)) = BitVec.ofNat 32 v := by
  have h0 : (BitVec.ofNat 32 (2 * v)).getLsbD 0 = false := by
    show (BitVec.ofNat 32 (2 * v)).toNat.testBit 0 = false
    rw [BitVec.toNat_ofNat, Nat.testBit_zero]
    simp
  unfold half
  rw [h0]
  simp only [Bool.false_eq_true, if_false]
  apply BitVec.eq_of_toNat_eq
  simp only [BitVec.toNat_ushiftRight, BitVec.toNat_ofNat, Nat.shiftRight_eq_div_pow]
  omega
theorem val_split (d : Bool) (v : Nat) (h : v < 2147483648) : BitVec.ofNat 32 ((if d then 1 else 0) + 2 * v) = bitv d ^^^ BitVec.ofNat 32 (2 * v) := by
  apply BitVec.eq_of_toNat_eq
  cases d with
  | false => simp [bitv]
  | true =>
    simp only [if_true, bitv, BitVec.toNat_xor, BitVec.toNat_ofNat]
    rw [Nat.mod_eq_of_lt (by omega : 1 + 2 * v < 2 ^ 32), Nat.mod_eq_of_lt (by omega : 2 * v < 2 ^ 32), Nat.mod_eq_of_lt (by omega : 1 < 2 ^ 32)]
    have := Nat.two_pow_add_eq_or_of_lt (i := 1) (b := 1) (by omega) v
    apply Nat.eq_of_testBit_eq
    intro i
    rw [Nat.testBit_xor]
    cases i with
    | zero => simp [Nat.testBit_zero]
    | succ i =>
      rw [Nat.testBit_succ, Nat.testBit_succ, Nat.testBit_succ]
      simp
      have : (1 + 2 * v) / 2 = v := by omega
      rw [this]
theorem feed_val (l : List Bool) : l.length ≤ 32 → ∀ s, feed s l = halfN l.length (s ^^^ BitVec.ofNat 32 (val l)) := by
  induction l with
  | nil => intro _ s; simp [feed, halfN, val]
  | cons d l ih =>
    intro hl s
    simp only [List.length_cons] at hl
    have hv := val_lt l
    have hv' : val l < 2147483648 := by
      have : 2 ^ l.length ≤ 2 ^ 31 := Nat.pow_le_pow_right (by decide) (by omega)
      omega
    simp only [feed, List.length_cons, halfN, val]
    rw [ih (by omega), val_split _ _ hv', ← BitVec.xor_assoc, half_xor (s ^^^ bitv d), half_even _ hv']
/-- The bits of a number, so many, the lowest first. -/
def bitsOf : Nat → Nat → List Bool
  | 0, _ => []
  | n + 1, v => (v % 2 == 1) :: bitsOf n (v / 2)
theorem bitsOf_length (n : Nat) : ∀ v, (bitsOf n v).length = n := by
  induction n with
  | zero => intro v; rfl
  | succ n ih => intro v; simp [bitsOf, ih]
theorem val_bitsOf (n : Nat) : ∀ v, v < 2 ^ n → val (bitsOf n v) = v := by
  induction n with
  | zero => intro v h; simp at h; simp [bitsOf, val, h]
  | succ n ih =>
    intro v h
    rw [Nat.pow_succ] at h
    simp only [bitsOf, val]
    rw [ih (v / 2) (by omega)]
    by_cases h2 : v % 2 = 1
    · simp [h2]; omega
    · simp [h2]; omega
/-- A byte taken. -/
def take (r : BitVec 32) (c : Nat) : BitVec 32 := halfN 8 (r ^^^ BitVec.ofNat 32 c)
theorem take_feed (r : BitVec 32) (c : Nat) (h : c < 256) : take r c = feed r (bitsOf 8 c) := by
  rw [feed_val _ (by rw [bitsOf_length]; omega), bitsOf_length, val_bitsOf 8 c (by simpa using h)]
  rfl
def reg (r : BitVec 32) (l : List Nat) : BitVec 32 := l.foldl take r
def allBits (l : List Nat) : List Bool := (l.map (bitsOf 8)).flatten
theorem reg_feed (l : List Nat) : (∀ c ∈ l, c < 256) → ∀ r, reg r l = feed r (allBits l) := by
  induction l with
  | nil => intro _ r; rfl
  | cons c l ih =>
    intro h r
    have := ih (fun x hx => h x (by simp [hx])) (take r c)
    simp only [reg, List.foldl_cons, allBits, List.map_cons, List.flatten_cons] at this ⊢
    rw [feed_append, ← take_feed r c (h c (by simp))]
    exact this
def sum (l : List Nat) : BitVec 32 := reg ones l ^^^ ones

theorem take_xor (r s : BitVec 32) (c d : Nat) (hc : c < 256) (hd : d < 256) : take (r ^^^ s) (c ^^^ d) = take r c ^^^ take s d := by
  unfold take
  rw [← halfN_xor]
  congr 1
  have : BitVec.ofNat 32 (c ^^^ d) = BitVec.ofNat 32 c ^^^ BitVec.ofNat 32 d := by
    apply BitVec.eq_of_toNat_eq
    simp only [BitVec.toNat_xor, BitVec.toNat_ofNat]
    rw [Nat.mod_eq_of_lt (by omega : c < 2 ^ 32), Nat.mod_eq_of_lt (by omega : d < 2 ^ 32)]
    exact Nat.mod_eq_of_lt (Nat.xor_lt_two_pow (n := 32) (by omega) (by omega))
  rw [this]
  apply BitVec.eq_of_getLsbD_eq
  intro i hi
  simp only [BitVec.getLsbD_xor]
  cases r.getLsbD i <;> cases s.getLsbD i <;> cases (BitVec.ofNat 32 c).getLsbD i <;> cases (BitVec.ofNat 32 d).getLsbD i <;> rfl
/-- Two texts of one length, side by side. -/
theorem reg_xor (l : List Nat) : ∀ (m : List Nat), l.length = m.length → (∀ c ∈ l, c < 256) → (∀ c ∈ m, c < 256) → ∀ r s, reg (r ^^^ s) (l.zipWith (· ^^^ ·) m) = reg r l ^^^ reg s m := by
  induction l with
  | nil => intro m h _ _ r s; cases m with
    | nil => rfl
    | cons => simp at h
  | cons c l ih =>
    intro m h hl hm r s
    cases m with
    | nil => simp at h
    | cons d m =>
      simp only [reg, List.zipWith_cons_cons, List.foldl_cons]
      rw [take_xor r s c d (hl c (by simp)) (hm d (by simp))]
      exact ih m (by simpa using h) (fun x hx => hl x (by simp [hx])) (fun x hx => hm x (by simp [hx])) _ _
/-- A burst: up to 32 bits side by side, one of them at least, and nothing else. -/
theorem burst (p q v : Nat) (hv : v < 2 ^ 32) (h0 : v ≠ 0) : feed 0#32 (List.replicate p false ++ bitsOf 32 v ++ List.replicate q false) ≠ 0#32 := by
  intro h
  rw [feed_append, feed_append, feed_zeros, feed_zeros, halfN_zero] at h
  have h1 := halfN_ne q h
  rw [feed_val _ (by rw [bitsOf_length]; omega), bitsOf_length, val_bitsOf 32 v hv] at h1
  have h2 := halfN_ne 32 h1
  have h3 := congrArg BitVec.toNat h2
  simp at h3
  omega
/-- A text with its own sum behind it. -/
theorem rest (l : List Nat) (a b c d : Nat) (hl : ∀ x ∈ l, x < 256) (ha : a < 256) (hb : b < 256) (hc : c < 256) (hd : d < 256) (hs : (sum l).toNat = a + 256 * b + 65536 * c + 16777216 * d) :
    sum (l ++ [a, b, c, d]) = 558161692#32 := by
  have e : reg ones (l ++ [a, b, c, d]) = reg (reg ones l) [a, b, c, d] := by simp [reg]
  have f : allBits [a, b, c, d] = bitsOf 32 (sum l).toNat := by
    rw [hs]
    have step : ∀ (x y : Nat), x < 256 → ∀ n, bitsOf (8 + n) (x + 256 * y) = bitsOf 8 x ++ bitsOf n y := by
      intro x y hx n
      rw [Nat.add_comm 8 n]
      simp only [bitsOf, List.cons_append, List.nil_append, List.cons.injEq]
      refine ⟨?_, ?_, ?_, ?_, ?_, ?_, ?_, ?_, ?_⟩ <;> first | (congr 1; omega) | (rw [show (x + 256 * y) / 2 / 2 / 2 / 2 / 2 / 2 / 2 / 2 = y from by omega])
    have e1 : a + 256 * b + 65536 * c + 16777216 * d = a + 256 * (b + 256 * (c + 256 * d)) := by omega
    rw [e1, step a _ ha 24, step b _ hb 16, step c _ hc 8]
    simp [allBits]
  unfold sum at *
  rw [e, reg_feed [a, b, c, d] (by intro x hx; simp at hx; rcases hx with rfl | rfl | rfl | rfl <;> assumption), f, feed_val _ (by rw [bitsOf_length]; omega), bitsOf_length, val_bitsOf 32 _ (BitVec.isLt _), BitVec.ofNat_toNat, BitVec.setWidth_eq, ← BitVec.xor_assoc, BitVec.xor_self, BitVec.zero_xor]
  decide +kernel
end Go.Proofs.Ytkipbilnhpeacaa.CrcMath
