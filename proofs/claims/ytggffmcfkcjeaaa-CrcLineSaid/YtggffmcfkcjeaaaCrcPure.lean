/-
  What the printed functions of layer 2 come to: crc.Sum and the reference's Sum are CrcMath.sum of the bytes; from that the pure statements of CrcForms, CrcRest, CrcTurned.
-/
import Derived.Test.YtggffmcfkcjeaaaPCrcx2
import Derived.Test.YtggffmcfkcjeaaaPCrcx1
import Derived.Test.YtggffmcfkcjeaaaCrcMath
namespace Go.Proofs.Ytggffmcfkcjeaaa.CrcP
open Go.RowKit Go.Proofs.Ytggffmcfkcjeaaa.PCrc Go.Proofs.YtggffmcfkcjeaaaW.PrintWords Go.Proofs.Ytggffmcfkcjeaaa.CrcMath

theorem ofInt_nat (r : BitVec 32) : BitVec.ofInt 32 (r.toNat : Int) = r := by
  rw [BitVec.ofInt_natCast, BitVec.ofNat_toNat, BitVec.setWidth_eq]
theorem xor_nat (a b : BitVec 32) : Go.bits .xor .u32 (a.toNat : Int) (b.toNat : Int) = ((a ^^^ b).toNat : Int) := by
  have h : Go.bits .xor .u32 (a.toNat : Int) (b.toNat : Int) = IntKind.u32.wrap ((BitVec.ofInt 32 (a.toNat : Int) ^^^ BitVec.ofInt 32 (b.toNat : Int)).toNat : Int) := rfl
  rw [h, ofInt_nat, ofInt_nat, IntKind.wrap_u32]
  have := (a ^^^ b).isLt
  omega
theorem and_one (a : BitVec 32) : Go.bits .and .u32 (a.toNat : Int) 1 = ((a.toNat % 2 : Nat) : Int) := by
  have h : Go.bits .and .u32 (a.toNat : Int) 1 = IntKind.u32.wrap ((BitVec.ofInt 32 (a.toNat : Int) &&& 1#32).toNat : Int) := rfl
  rw [h, ofInt_nat, IntKind.wrap_u32]
  have : (a &&& 1#32).toNat = a.toNat % 2 := by
    rw [BitVec.toNat_and]
    exact Nat.and_one_is_mod _
  rw [this]
  omega
theorem lsb (a : BitVec 32) : a.getLsbD 0 = (a.toNat % 2 == 1) := by
  rw [BitVec.getLsbD, Nat.testBit_zero]
  by_cases h : a.toNat % 2 = 1 <;> simp [h]
theorem half_f (r : BitVec 32) : crc_register_half.f (r.toNat : Int) = some ((half r).toNat : Int) := by
  unfold crc_register_half.f half
  rw [and_one, lsb]
  have e : ((r.toNat : Int) / (2 : Int)) = (((r >>> 1).toNat : Nat) : Int) := by
    rw [BitVec.toNat_ushiftRight, Nat.shiftRight_eq_div_pow]; omega
  by_cases h : r.toNat % 2 = 1
  · rw [if_pos (by omega), if_pos (by simp [h]), e]
    have := xor_nat (r >>> 1) poly
    rw [show ((poly.toNat : Nat) : Int) = 3988292384 from rfl] at this
    rw [this]
  · rw [if_neg (by omega), if_neg (by simp [h]), e]

theorem wrap_one {i : Int} (h0 : 0 ≤ i) (h : i < 9223372036854775807) : wrap64 (i + 1) = i + 1 := by
  unfold wrap64
  omega
theorem take_l0 (d : Nat) : ∀ (k : Nat) (r : BitVec 32) (j : Int), 0 ≤ j → j ≤ 8 → 8 - j = d → d < k → crc_register_take.l0 k (r.toNat : Int) j = some ((halfN d r).toNat : Int) := by
  induction d with
  | zero =>
    intro k r j h0 h8 hd hk
    obtain ⟨k, rfl⟩ : ∃ m, k = m + 1 := ⟨k - 1, by omega⟩
    simp only [crc_register_take.l0]
    rw [if_neg (by omega)]
    rfl
  | succ d ih =>
    intro k r j h0 h8 hd hk
    obtain ⟨k, rfl⟩ : ∃ m, k = m + 1 := ⟨k - 1, by omega⟩
    simp only [crc_register_take.l0]
    rw [if_pos (by omega), half_f]
    simp only [Option.bind_some]
    rw [wrap_one h0 (by omega)]
    exact ih k (half r) (j + 1) (by omega) (by omega) (by omega) (by omega)
theorem take_f (k : Nat) (hk : 8 < k) (r : BitVec 32) (c : Int) (h0 : 0 ≤ c) (h : c < 256) : crc_register_take.f k (r.toNat : Int) c = some ((take r c.toNat).toNat : Int) := by
  unfold crc_register_take.f take
  have e : c % 4294967296 = ((BitVec.ofNat 32 c.toNat).toNat : Int) := by
    rw [BitVec.toNat_ofNat]; omega
  rw [e, xor_nat]
  exact take_l0 8 k _ 0 (by omega) (by omega) (by omega) hk
def Bytes (l : List Int) : Prop := ∀ x ∈ l, 0 ≤ x ∧ x < 256
def nats (l : List Int) : List Nat := l.map Int.toNat
theorem nats_lt {l : List Int} (h : Bytes l) : ∀ c ∈ nats l, c < 256 := by
  intro c hc
  obtain ⟨x, hx, rfl⟩ := List.mem_map.1 hc
  have := h x hx
  omega
theorem rd_at (l : List Int) (i : Int) (_h0 : 0 ≤ i) (h : i < l.length) : ∃ x, l[i.toNat]? = some x ∧ rd l i = x ∧ x ∈ l := by
  have hl : i.toNat < l.length := by omega
  refine ⟨l[i.toNat], List.getElem?_eq_getElem hl, ?_, List.getElem_mem hl⟩
  unfold rd
  rw [List.getD_eq_getElem?_getD, List.getElem?_eq_getElem hl]
  rfl
theorem drop_at {l : List Int} {i : Nat} {x : Int} (h : l[i]? = some x) : l.drop i = x :: l.drop (i + 1) := by
  obtain ⟨hi, rfl⟩ := List.getElem?_eq_some_iff.1 h
  exact List.drop_eq_getElem_cons hi
theorem sum_l0 (l : List Int) (hb : Bytes l) (hn : l.length ≤ 140737488351232) (d : Nat) : ∀ (k : Nat) (r : BitVec 32) (i : Int), 0 ≤ i → i ≤ l.length → (l.length : Int) - i = d → d + 9 < k →
    crc_Sum.l0 k (r.toNat : Int) l (l.length : Int) i = some ((reg r (nats (l.drop i.toNat)) ^^^ ones).toNat : Int) := by
  induction d with
  | zero =>
    intro k r i h0 h1 hd hk
    obtain ⟨k, rfl⟩ : ∃ m, k = m + 1 := ⟨k - 1, by omega⟩
    simp only [crc_Sum.l0]
    rw [if_neg (by omega), show (4294967295 : Int) = ((ones.toNat : Nat) : Int) from rfl, xor_nat, List.drop_eq_nil_of_le (by omega)]
    rfl
  | succ d ih =>
    intro k r i h0 h1 hd hk
    obtain ⟨k, rfl⟩ : ∃ m, k = m + 1 := ⟨k - 1, by omega⟩
    obtain ⟨x, hx, he, hm⟩ := rd_at l i h0 (by omega)
    have hx2 := hb x hm
    simp only [crc_Sum.l0]
    rw [if_pos (by omega), if_pos h0, if_pos (by omega), he, take_f k (by omega) r x hx2.1 hx2.2]
    simp only [Option.bind_some]
    rw [wrap_one h0 (by omega), ih k _ (i + 1) (by omega) (by omega) (by omega) (by omega), drop_at hx, show (i + 1).toNat = i.toNat + 1 from by omega]
    rfl
theorem sum_f (l : List Int) (hb : Bytes l) (hn : l.length ≤ 140737488351232) (k : Nat) (hk : l.length + 9 < k) : crc_Sum.f k l = some ((sum (nats l)).toNat : Int) := by
  unfold crc_Sum.f
  rw [show (4294967295 : Int) = ((ones.toNat : Nat) : Int) from rfl, sum_l0 l hb hn l.length k ones 0 (by omega) (by omega) (by omega) hk]
  rfl

/-! ### the reference's -/
theorem ref_half (r : BitVec 32) : (if Int.tmod (r.toNat : Int) 2 = 1 then (Go.bits .xor .u32 ((Int.tdiv (r.toNat : Int) 2) % 4294967296) 3988292384) else ((Int.tdiv (r.toNat : Int) 2) % 4294967296)) = ((half r).toNat : Int) := by
  have hr := r.isLt
  have e : ((Int.tdiv (r.toNat : Int) (2 : Int)) % (4294967296 : Int)) = (((r >>> 1).toNat : Nat) : Int) := by
    rw [BitVec.toNat_ushiftRight, Nat.shiftRight_eq_div_pow, Int.tdiv_eq_ediv_of_nonneg (by omega)]
    omega
  have m : Int.tmod (r.toNat : Int) 2 = ((r.toNat % 2 : Nat) : Int) := by
    rw [Int.tmod_eq_emod_of_nonneg (by omega)]
    omega
  unfold half
  rw [e, m, lsb]
  by_cases h : r.toNat % 2 = 1
  · rw [if_pos (by omega), if_pos (by simp [h])]
    exact xor_nat (r >>> 1) poly
  · rw [if_neg (by omega), if_neg (by simp [h])]
theorem ref_l1 (l : List Int) (d : Nat) : ∀ (k : Nat) (r : BitVec 32) (i j : Int), 0 ≤ j → j ≤ 8 → 8 - j = d → d < k →
    diwanref1_Sum.l1 k l (r.toNat : Int) i j = diwanref1_Sum.l0 (k - d - 1) l ((halfN d r).toNat : Int) (wrap64 (i + 1)) := by
  induction d with
  | zero =>
    intro k r i j h0 h8 hd hk
    obtain ⟨k, rfl⟩ : ∃ m, k = m + 1 := ⟨k - 1, by omega⟩
    simp only [diwanref1_Sum.l1]
    rw [if_neg (by omega)]
    rfl
  | succ d ih =>
    intro k r i j h0 h8 hd hk
    obtain ⟨k, rfl⟩ : ∃ m, k = m + 1 := ⟨k - 1, by omega⟩
    have hr := ref_half r
    simp only [diwanref1_Sum.l1]
    rw [if_pos (by omega), wrap_one h0 (by omega)]
    have := ih k (half r) i (j + 1) (by omega) (by omega) (by omega) (by omega)
    rw [← hr] at this
    rw [show k + 1 - (d + 1) - 1 = k - d - 1 from by omega]
    by_cases h : Int.tmod (r.toNat : Int) 2 = 1
    · rw [if_pos h] at this ⊢
      exact this
    · rw [if_neg h] at this ⊢
      exact this
theorem ref_l0 (l : List Int) (hb : Bytes l) (hn : l.length ≤ 140737488351232) (d : Nat) : ∀ (k : Nat) (r : BitVec 32) (i : Int), 0 ≤ i → i ≤ l.length → (l.length : Int) - i = d → 10 * d < k →
    diwanref1_Sum.l0 k l (r.toNat : Int) i = some ((reg r (nats (l.drop i.toNat)) ^^^ ones).toNat : Int) := by
  induction d with
  | zero =>
    intro k r i h0 h1 hd hk
    obtain ⟨k, rfl⟩ : ∃ m, k = m + 1 := ⟨k - 1, by omega⟩
    simp only [diwanref1_Sum.l0]
    rw [if_neg (by omega), show (4294967295 : Int) = ((ones.toNat : Nat) : Int) from rfl, xor_nat, List.drop_eq_nil_of_le (by omega)]
    rfl
  | succ d ih =>
    intro k r i h0 h1 hd hk
    obtain ⟨k, rfl⟩ : ∃ m, k = m + 1 := ⟨k - 1, by omega⟩
    obtain ⟨x, hx, he, hm⟩ := rd_at l i h0 (by omega)
    have hx2 := hb x hm
    have e : x % 4294967296 = ((BitVec.ofNat 32 x.toNat).toNat : Int) := by
      rw [BitVec.toNat_ofNat]; omega
    simp only [diwanref1_Sum.l0]
    rw [if_pos (by omega), if_pos h0, he, e, xor_nat, ref_l1 l 8 k _ i 0 (by omega) (by omega) (by omega) (by omega), wrap_one h0 (by omega),
      ih _ _ (i + 1) (by omega) (by omega) (by omega) (by omega), drop_at hx, show (i + 1).toNat = i.toNat + 1 from by omega]
    rfl
theorem ref_f (l : List Int) (hb : Bytes l) (hn : l.length ≤ 140737488351232) (k : Nat) (hk : 10 * l.length < k) : diwanref1_Sum.f k l = some ((sum (nats l)).toNat : Int) := by
  unfold diwanref1_Sum.f
  rw [show (4294967295 : Int) = ((ones.toNat : Nat) : Int) from rfl, ref_l0 l hb hn l.length k ones 0 (by omega) (by omega) (by omega) hk]
  rfl

theorem bytes_of {l : List Int} (h : ∀ x ∈ l, (Lit.int .u8 x).wf = true) : Bytes l := by
  intro x hx
  have := h x hx
  simp only [Lit.wf, Bool.and_eq_true, decide_eq_true_eq] at this
  have h1 : IntKind.u8.min = 0 := rfl
  have h2 : IntKind.u8.max = 255 := rfl
  omega
theorem bytes_lit (l : List Int) (h : l.all (fun x => decide (0 ≤ x) && decide (x < 256)) = true) : Bytes l := by
  intro x hx
  have := List.all_eq_true.1 h x hx
  simpa using this
theorem begun_f : diwanlaw2_begun.f = some true := rfl
end Go.Proofs.Ytggffmcfkcjeaaa.CrcP
