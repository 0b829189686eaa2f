/-
  CrcTurned: where up to 32 bits side by side are turned, one at least, in a text of 5 to 300 bytes, the sum is another one. For every text, place and bits; other texts are let be.
-/
import Derived.Test.YtggffmcfkcjeaaaCrcPure
namespace Go.Proofs.Ytggffmcfkcjeaaa.Pure
open Go.RowKit Go.Proofs.Ytggffmcfkcjeaaa.PCrc Go.Proofs.YtggffmcfkcjeaaaW.PrintWords Go.Proofs.Ytggffmcfkcjeaaa.CrcP Go.Proofs.Ytggffmcfkcjeaaa.CrcMath
/-- Bit i of a text. -/
def bitAt (l : List Int) (i : Nat) : Bool := (rd l ((i / 8 : Nat) : Int)).toNat.testBit (i % 8)
/-- What is turned so far. -/
def turned (p v : Nat) (k : Nat) (i : Nat) : Bool := decide (p ≤ i ∧ i < p + k) && v.testBit (i - p)
theorem bitsOf_get (n : Nat) : ∀ (v i : Nat), i < n → (bitsOf n v)[i]? = some (v.testBit i) := by
  induction n with
  | zero => intro v i h; omega
  | succ n ih =>
    intro v i h
    cases i with
    | zero => simp only [bitsOf, List.getElem?_cons_zero, Nat.testBit_zero]; congr 1
    | succ i => simp only [bitsOf, List.getElem?_cons_succ]; rw [ih (v / 2) i (by omega), Nat.testBit_succ]
theorem allBits_length (l : List Nat) : (allBits l).length = 8 * l.length := by
  induction l with
  | nil => rfl
  | cons c l ih => simp only [allBits, List.map_cons, List.flatten_cons, List.length_append, bitsOf_length, List.length_cons] at ih ⊢; omega
theorem allBits_get (l : List Nat) : ∀ (i : Nat), i < 8 * l.length → (allBits l)[i]? = some ((l.getD (i / 8) 0).testBit (i % 8)) := by
  induction l with
  | nil => intro i h; simp at h
  | cons c l ih =>
    intro i h
    simp only [allBits, List.map_cons, List.flatten_cons]
    by_cases h8 : i < 8
    · rw [List.getElem?_append_left (by rw [bitsOf_length]; exact h8), bitsOf_get 8 c i h8]
      have : i / 8 = 0 := by omega
      have h2 : i % 8 = i := by omega
      rw [this, h2]; rfl
    · rw [List.getElem?_append_right (by rw [bitsOf_length]; omega), bitsOf_length]
      have := ih (i - 8) (by simp only [List.length_cons] at h; omega)
      simp only [allBits] at this
      rw [this]
      have e1 : i / 8 = (i - 8) / 8 + 1 := by omega
      have e2 : i % 8 = (i - 8) % 8 := by omega
      rw [e1, e2]; rfl
theorem burst_get (p q v i : Nat) (h : i < p + 32 + q) : (List.replicate p false ++ bitsOf 32 v ++ List.replicate q false)[i]? = some (turned p v 32 i) := by
  unfold turned
  by_cases h1 : i < p
  · rw [List.append_assoc, List.getElem?_append_left (by simpa using h1), List.getElem?_replicate, if_pos h1]
    simp; omega
  · by_cases h2 : i < p + 32
    · rw [List.getElem?_append_left (by simp [bitsOf_length]; omega), List.getElem?_append_right (by simp; omega), List.length_replicate, bitsOf_get 32 v _ (by omega)]
      simp; omega
    · rw [List.getElem?_append_right (by simp [bitsOf_length]; omega), List.getElem?_replicate, if_pos (by simp [bitsOf_length]; omega)]
      simp; omega
theorem xor_u8 (a : Nat) (j : Nat) (ha : a < 256) (hj : j < 8) : Go.bits .xor .u8 (a : Int) (shl .u8 1 (j : Int)) = ((a ^^^ 2 ^ j : Nat) : Int) := by
  have : ∀ a : Fin 256, ∀ j : Fin 8, Go.bits .xor .u8 ((a.val : Nat) : Int) (shl .u8 1 ((j.val : Nat) : Int)) = ((a.val ^^^ 2 ^ j.val : Nat) : Int) := by decide +kernel
  exact this ⟨a, ha⟩ ⟨j, hj⟩
theorem u32_bit (v k : Nat) (hv : v < 2 ^ 32) (hk : k < 32) : (Go.bits .and .u32 (shr .u32 (v : Int) (k : Int)) 1 = 1) ↔ v.testBit k = true := by
  have e : shr .u32 (v : Int) (k : Int) = ((v / 2 ^ k : Nat) : Int) := by
    unfold shr
    rw [show min ((k : Int).toNat) IntKind.u32.bits = k from by have : IntKind.u32.bits = 32 := rfl; omega]
    exact_mod_cast rfl
  have h2 : v / 2 ^ k < 2 ^ 32 := Nat.lt_of_le_of_lt (Nat.div_le_self _ _) hv
  have := and_one (BitVec.ofNat 32 (v / 2 ^ k))
  rw [BitVec.toNat_ofNat, Nat.mod_eq_of_lt h2] at this
  rw [e, this, Nat.testBit_eq_decide_div_mod_eq, decide_eq_true_eq]
  generalize v / 2 ^ k = q
  omega
theorem turned_succ (p v k i : Nat) : turned p v (k + 1) i = (turned p v k i != (decide (i = p + k) && v.testBit k)) := by
  unfold turned
  by_cases h : i = p + k
  · subst h
    simp
  · have e : decide (p ≤ i ∧ i < p + (k + 1)) = decide (p ≤ i ∧ i < p + k) := by
      apply decide_eq_decide.2; omega
    rw [e]
    simp [h]
def Inv (l : List Int) (p v k : Nat) (c : List Int) : Prop := c.length = l.length ∧ Bytes c ∧ ∀ i, i < 8 * l.length → bitAt c i = (bitAt l i != turned p v k i)
theorem rd_set (c : List Int) (q : Nat) (x : Int) (j : Nat) (hq : q < c.length) : rd (c.set q x) ((j : Nat) : Int) = if j = q then x else rd c (j : Int) := by
  unfold rd
  rw [List.getD_eq_getElem?_getD, List.getD_eq_getElem?_getD, List.getElem?_set]
  simp only [Int.toNat_natCast]
  by_cases h : q = j
  · subst h; rw [if_pos rfl, if_pos hq, if_pos rfl]; rfl
  · rw [if_neg h, if_neg (Ne.symm h)]
theorem inv_keep {l c : List Int} {p v k : Nat} (h : Inv l p v k c) (hb : v.testBit k = false) : Inv l p v (k + 1) c := by
  refine ⟨h.1, h.2.1, fun i hi => ?_⟩
  rw [h.2.2 i hi, turned_succ, hb]
  simp
theorem inv_turn {l c : List Int} {p v k : Nat} (h : Inv l p v k c) (hb : v.testBit k = true) (hp : p + k < 8 * l.length) :
    Inv l p v (k + 1) (c.set ((p + k) / 8) (Go.bits .xor .u8 (rd c (((p + k) / 8 : Nat) : Int)) (shl .u8 1 (((p + k) % 8 : Nat) : Int)))) := by
  obtain ⟨h1, h2, h3⟩ := h
  have hq : (p + k) / 8 < c.length := by omega
  obtain ⟨x, hx, he, hm⟩ := rd_at c (((p + k) / 8 : Nat) : Int) (by omega) (by omega)
  have hx2 := h2 x hm
  obtain ⟨a, rfl⟩ := Int.eq_ofNat_of_zero_le hx2.1
  rw [he, xor_u8 a _ (by omega) (Nat.mod_lt _ (by decide))]
  have hlt : a ^^^ 2 ^ ((p + k) % 8) < 256 := Nat.xor_lt_two_pow (n := 8) (by omega) (by
    have : (p + k) % 8 < 8 := Nat.mod_lt _ (by decide)
    exact Nat.pow_lt_pow_right (by decide) this)
  refine ⟨by rw [List.length_set]; exact h1, fun y hy => ?_, fun i hi => ?_⟩
  · rcases List.mem_or_eq_of_mem_set hy with hy | rfl
    · exact h2 y hy
    · omega
  · have h4 := h3 i hi
    rw [turned_succ, hb, ← Bool.bne_assoc, ← h4]
    unfold bitAt
    rw [rd_set c _ _ _ hq]
    by_cases e : i / 8 = (p + k) / 8
    · rw [if_pos e, e, he, Int.toNat_natCast, Int.toNat_natCast, Nat.testBit_xor, Nat.testBit_two_pow]
      congr 1
      simp
      omega
    · rw [if_neg e]
      have : i ≠ p + k := fun h => e (by rw [h])
      simp [this]
theorem wrapq (p k : Nat) (h : p + k < 100000) : wrap64 (Int.tdiv (wrap64 ((p : Int) + (k : Int))) 8) = (((p + k) / 8 : Nat) : Int) ∧ Int.tmod (wrap64 ((p : Int) + (k : Int))) 8 = (((p + k) % 8 : Nat) : Int) := by
  have e : wrap64 ((p : Int) + (k : Int)) = ((p + k : Nat) : Int) := by unfold wrap64; omega
  rw [e]
  constructor
  · rw [Int.tdiv_eq_ediv_of_nonneg (by omega)]
    unfold wrap64; omega
  · rw [Int.tmod_eq_emod_of_nonneg (by omega)]
    omega
theorem sums_differ {l c : List Int} {p v : Nat} (hl : Bytes l) (h : Inv l p v 32 c) (hp : p + 32 ≤ 8 * l.length) (hv : v < 2 ^ 32) (h0 : v ≠ 0) : sum (nats c) ≠ sum (nats l) := by
  intro he
  obtain ⟨h1, h2, h3⟩ := h
  have hx : reg 0#32 ((nats c).zipWith (· ^^^ ·) (nats l)) = 0#32 := by
    have e := reg_xor (nats c) (nats l) (by simp [nats, h1]) (nats_lt h2) (nats_lt hl) ones ones
    rw [BitVec.xor_self] at e
    rw [e]
    have e2 : reg ones (nats c) = reg ones (nats l) := by
      unfold sum at he
      have := congrArg (· ^^^ ones) he
      simpa [BitVec.xor_assoc] using this
    rw [e2, BitVec.xor_self]
  have hlt : ∀ x ∈ (nats c).zipWith (· ^^^ ·) (nats l), x < 256 := by
    intro x hx
    rw [List.mem_iff_getElem?] at hx
    obtain ⟨i, hi⟩ := hx
    rw [List.getElem?_zipWith] at hi
    cases h5 : (nats c)[i]? with
    | none => rw [h5] at hi; simp at hi
    | some y =>
      cases h6 : (nats l)[i]? with
      | none => rw [h5, h6] at hi; simp at hi
      | some z =>
        rw [h5, h6] at hi
        simp at hi
        subst hi
        exact Nat.xor_lt_two_pow (n := 8) (nats_lt h2 y (List.mem_of_getElem? h5)) (nats_lt hl z (List.mem_of_getElem? h6))
  rw [reg_feed _ hlt] at hx
  refine burst p (8 * l.length - (p + 32)) v hv h0 ?_
  rw [← hx]
  congr 1
  apply List.ext_getElem?
  intro i
  have hlen : ((nats c).zipWith (· ^^^ ·) (nats l)).length = l.length := by simp [nats, h1]
  by_cases hi : i < 8 * l.length
  · rw [burst_get p _ v i (by omega), allBits_get _ i (by rw [hlen]; exact hi)]
    congr 1
    have h4 := h3 i hi
    unfold bitAt at h4
    have hi8 : i / 8 < l.length := by omega
    obtain ⟨x, hx, ex, _⟩ := rd_at c ((i / 8 : Nat) : Int) (by omega) (by omega)
    obtain ⟨y, hy, ey, _⟩ := rd_at l ((i / 8 : Nat) : Int) (by omega) (by omega)
    rw [ex, ey] at h4
    simp only [Int.toNat_natCast] at hx hy
    have hz : ((nats c).zipWith (· ^^^ ·) (nats l)).getD (i / 8) 0 = x.toNat ^^^ y.toNat := by
      rw [List.getD_eq_getElem?_getD, List.getElem?_zipWith]
      simp [nats, hx, hy]
    rw [hz, Nat.testBit_xor, h4]
    cases y.toNat.testBit (i % 8) <;> cases turned p v 32 i <;> rfl
  · rw [List.getElem?_eq_none (by simp [bitsOf_length]; omega), List.getElem?_eq_none (by rw [allBits_length, hlen]; omega)]
theorem loop (l : List Int) (hl : Bytes l) (hn : l.length ≤ 300) (p v : Nat) (hp : p + 32 ≤ 8 * l.length) (hv : v < 2 ^ 32) (h0 : v ≠ 0) (d : Nat) : ∀ (f k : Nat) (c : List Int), k + d = 32 → Inv l p v k c → d + 320 < f →
    diwanlaw2_CrcTurned.l0 f l (v : Int) (p : Int) c (k : Int) = some true := by
  induction d with
  | zero =>
    intro f k c hk hi hf
    obtain ⟨f, rfl⟩ : ∃ m, f = m + 1 := ⟨f - 1, by omega⟩
    obtain rfl : k = 32 := by omega
    have hne := sums_differ hl hi hp hv h0
    simp only [diwanlaw2_CrcTurned.l0]
    rw [if_neg (by omega), sum_f c hi.2.1 (by have := hi.1; omega) f (by have := hi.1; omega)]
    simp only [Option.bind_some]
    rw [sum_f l hl (by omega) f (by omega)]
    simp only [Option.bind_some]
    refine congrArg some (bne_iff_ne.2 fun h => hne ?_)
    exact BitVec.eq_of_toNat_eq (by exact_mod_cast h)
  | succ d ih =>
    intro f k c hk hi hf
    obtain ⟨f, rfl⟩ : ∃ m, f = m + 1 := ⟨f - 1, by omega⟩
    have hw := wrapq p k (by omega)
    simp only [diwanlaw2_CrcTurned.l0]
    rw [if_pos (by omega), if_pos (by omega), hw.1, hw.2, wrap_one (by omega) (by omega), show ((k : Nat) : Int) + 1 = ((k + 1 : Nat) : Int) from rfl]
    cases hb : v.testBit k with
    | true =>
      rw [if_pos ((u32_bit v k hv (by omega)).2 hb), if_pos (by omega), if_pos (by have := hi.1; omega), if_pos (by omega)]
      simp only [Int.toNat_natCast]
      exact ih f (k + 1) _ (by omega) (inv_turn hi hb (by omega)) (by omega)
    | false =>
      rw [if_neg (fun h => by rw [(u32_bit v k hv (by omega)).1 h] at hb; cases hb)]
      exact ih f (k + 1) _ (by omega) (inv_keep hi hb) (by omega)
theorem j0_true (f : Nat) (l : List Int) (a b : Int) : diwanlaw2_CrcTurned.j0 (f + 1) l a b true = some true := by
  simp only [diwanlaw2_CrcTurned.j0]; rw [if_pos trivial]
theorem CrcTurned : diwanlaw2_CrcTurned.Pure := by
  intro l a v _ _ hw ha hv
  have hb := bytes_of hw
  simp only [Lit.wf, Bool.and_eq_true, decide_eq_true_eq] at ha hv
  have m1 : IntKind.u16.min = 0 := rfl
  have m2 : IntKind.u16.max = 65535 := rfl
  have m3 : IntKind.u32.min = 0 := rfl
  have m4 : IntKind.u32.max = 4294967295 := rfl
  refine ⟨401, ?_⟩
  unfold diwanlaw2_CrcTurned.f
  rw [begun_f]
  simp only [Option.bind_some]
  rw [if_pos trivial]
  by_cases h5 : (l.length : Int) < 5
  · rw [if_pos h5]; exact j0_true 400 l a v
  · rw [if_neg h5]
    by_cases h3 : (l.length : Int) > 300
    · rw [if_pos h3]; exact j0_true 400 l a v
    · rw [if_neg h3]
      by_cases hz : v = 0
      · subst hz; exact j0_true 400 l a 0
      · have e : (v == 0) = false := beq_eq_false_iff_ne.2 hz
        have e1 : wrap64 (wrap64 (8 * (l.length : Int)) - 31) = 8 * (l.length : Int) - 31 := by unfold wrap64; omega
        have e2 : wrap64 a = a := by unfold wrap64; omega
        rw [e]
        simp only [diwanlaw2_CrcTurned.j0]
        rw [if_neg (by decide), e1, if_neg (by omega), e2]
        simp only [Option.bind_some, List.nil_append, List.length_nil, Nat.zero_add]
        rw [if_pos (by omega), Int.tmod_eq_emod_of_nonneg (by omega)]
        obtain ⟨n, rfl⟩ := Int.eq_ofNat_of_zero_le hv.1
        have hm := Int.emod_nonneg a (b := 8 * (l.length : Int) - 31) (by omega)
        have hm2 := Int.emod_lt_of_pos a (b := 8 * (l.length : Int) - 31) (by omega)
        obtain ⟨p, hp⟩ := Int.eq_ofNat_of_zero_le hm
        rw [hp] at hm2 ⊢
        refine loop l hb (by omega) p n (by omega) (by omega) (by omega) 32 400 0 l (by omega) ⟨rfl, hb, fun i _ => ?_⟩ (by omega)
        have : turned p n 0 i = false := by unfold turned; simp; omega
        rw [this]; simp
end Go.Proofs.Ytggffmcfkcjeaaa.Pure
