/-
  crc.Sum as it is printed beside layer 3 is CrcMath.sum of the bytes; one byte turned turns it.
-/
import Derived.Test.YtkipbilnhpeacaaPFramex1
import Derived.Test.YtkipbilnhpeacaaCrcMath
namespace Go.Proofs.Ytkipbilnhpeacaa.CrcP
open Go.RowKit Go.Proofs.Ytkipbilnhpeacaa.PFrame Go.Proofs.YtkipbilnhpeacaaW.PrintWords Go.Proofs.Ytkipbilnhpeacaa.CrcMath

theorem ofInt_nat (r : BitVec 32) : BitVec.ofInt 32 (r.toNat : Int) = r := by
  rw [BitVec.ofInt_natCast, BitVec.ofNat_toNat, BitVec.setWidth_eq]
theorem xor_nat (a b : BitVec 32) : Go.bits .xor .u32 (a.toNat : Int) (b.toNat : Int) = ((a ^^^ b).toNat : Int) := by
  have h : Go.bits .xor .u32 (a.toNat : Int) (b.toNat : Int) = IntKind.u32.wrap ((BitVec.ofInt 32 (a.toNat : Int) ^^^ BitVec.ofInt 32 (b.toNat : Int)).toNat : Int) := rfl
  rw [h, ofInt_nat, ofInt_nat, IntKind.wrap_u32]
  have := (a ^^^ b).isLt
  omega
theorem and_one (a : BitVec 32) : Go.bits .and .u32 (a.toNat : Int) 1 = ((a.toNat % 2 : Nat) : Int) := by
  have h : Go.bits .and .u32 (a.toNat : Int) 1 = IntKind.u32.wrap ((BitVec.ofInt 32 (a.toNat : Int) &&& 1#32).toNat : Int) := rfl
  rw [h, ofInt_nat, IntKind.wrap_u32]
  have : (a &&& 1#32).toNat = a.toNat % 2 := by
    rw [BitVec.toNat_and]
    exact Nat.and_one_is_mod _
  rw [this]
  omega
theorem lsb (a : BitVec 32) : a.getLsbD 0 = (a.toNat % 2 == 1) := by
  rw [BitVec.getLsbD, Nat.testBit_zero]
  by_cases h : a.toNat % 2 = 1 <;> simp [h]
theorem half_f (r : BitVec 32) : crc_register_half.f (r.toNat : Int) = some ((half r).toNat : Int) := by
  unfold crc_register_half.f half
  rw [and_one, lsb]
  have e : ((r.toNat : Int) / (2 : Int)) = (((r >>> 1).toNat : Nat) : Int) := by
    rw [BitVec.toNat_ushiftRight, Nat.shiftRight_eq_div_pow]; omega
  by_cases h : r.toNat % 2 = 1
  · rw [if_pos (by omega), if_pos (by simp [h]), e]
    have := xor_nat (r >>> 1) poly
    rw [show ((poly.toNat : Nat) : Int) = 3988292384 from rfl] at this
    rw [this]
  · rw [if_neg (by omega), if_neg (by simp [h]), e]

theorem wrap_one {i : Int} (h0 : 0 ≤ i) (h : i < 9223372036854775807) : wrap64 (i + 1) = i + 1 := by
  unfold wrap64
  omega
theorem take_l0 (d : Nat) : ∀ (k : Nat) (r : BitVec 32) (j : Int), 0 ≤ j → j ≤ 8 → 8 - j = d → d < k → crc_register_take.l0 k (r.toNat : Int) j = some ((halfN d r).toNat : Int) := by
  induction d with
  | zero =>
    intro k r j h0 h8 hd hk
    obtain ⟨k, rfl⟩ : ∃ m, k = m + 1 := ⟨k - 1, by omega⟩
    simp only [crc_register_take.l0]
    rw [if_neg (by omega)]
    rfl
  | succ d ih =>
    intro k r j h0 h8 hd hk
    obtain ⟨k, rfl⟩ : ∃ m, k = m + 1 := ⟨k - 1, by omega⟩
    simp only [crc_register_take.l0]
    rw [if_pos (by omega), half_f]
    simp only [Option.bind_some]
    rw [wrap_one h0 (by omega)]
    exact ih k (half r) (j + 1) (by omega) (by omega) (by omega) (by omega)
theorem take_f (k : Nat) (hk : 8 < k) (r : BitVec 32) (c : Int) (h0 : 0 ≤ c) (h : c < 256) : crc_register_take.f k (r.toNat : Int) c = some ((take r c.toNat).toNat : Int) := by
  unfold crc_register_take.f take
  have e : c % 4294967296 = ((BitVec.ofNat 32 c.toNat).toNat : Int) := by
    rw [BitVec.toNat_ofNat]; omega
  rw [e, xor_nat]
  exact take_l0 8 k _ 0 (by omega) (by omega) (by omega) hk
def Bytes (l : List Int) : Prop := ∀ x ∈ l, 0 ≤ x ∧ x < 256
def nats (l : List Int) : List Nat := l.map Int.toNat
theorem nats_lt {l : List Int} (h : Bytes l) : ∀ c ∈ nats l, c < 256 := by
  intro c hc
  obtain ⟨x, hx, rfl⟩ := List.mem_map.1 hc
  have := h x hx
  omega
theorem rd_at (l : List Int) (i : Int) (_h0 : 0 ≤ i) (h : i < l.length) : ∃ x, l[i.toNat]? = some x ∧ rd l i = x ∧ x ∈ l := by
  have hl : i.toNat < l.length := by omega
  refine ⟨l[i.toNat], List.getElem?_eq_getElem hl, ?_, List.getElem_mem hl⟩
  unfold rd
  rw [List.getD_eq_getElem?_getD, List.getElem?_eq_getElem hl]
  rfl
theorem drop_at {l : List Int} {i : Nat} {x : Int} (h : l[i]? = some x) : l.drop i = x :: l.drop (i + 1) := by
  obtain ⟨hi, rfl⟩ := List.getElem?_eq_some_iff.1 h
  exact List.drop_eq_getElem_cons hi
theorem sum_l0 (l : List Int) (hb : Bytes l) (hn : l.length ≤ 140737488351232) (d : Nat) : ∀ (k : Nat) (r : BitVec 32) (i : Int), 0 ≤ i → i ≤ l.length → (l.length : Int) - i = d → d + 9 < k →
    crc_Sum.l0 k (r.toNat : Int) l (l.length : Int) i = some ((reg r (nats (l.drop i.toNat)) ^^^ ones).toNat : Int) := by
  induction d with
  | zero =>
    intro k r i h0 h1 hd hk
    obtain ⟨k, rfl⟩ : ∃ m, k = m + 1 := ⟨k - 1, by omega⟩
    simp only [crc_Sum.l0]
    rw [if_neg (by omega), show (4294967295 : Int) = ((ones.toNat : Nat) : Int) from rfl, xor_nat, List.drop_eq_nil_of_le (by omega)]
    rfl
  | succ d ih =>
    intro k r i h0 h1 hd hk
    obtain ⟨k, rfl⟩ : ∃ m, k = m + 1 := ⟨k - 1, by omega⟩
    obtain ⟨x, hx, he, hm⟩ := rd_at l i h0 (by omega)
    have hx2 := hb x hm
    simp only [crc_Sum.l0]
    rw [if_pos (by omega), if_pos h0, if_pos (by omega), he, take_f k (by omega) r x hx2.1 hx2.2]
    simp only [Option.bind_some]
    rw [wrap_one h0 (by omega), ih k _ (i + 1) (by omega) (by omega) (by omega) (by omega), drop_at hx, show (i + 1).toNat = i.toNat + 1 from by omega]
    rfl
theorem sum_f (l : List Int) (hb : Bytes l) (hn : l.length ≤ 140737488351232) (k : Nat) (hk : l.length + 9 < k) : crc_Sum.f k l = some ((sum (nats l)).toNat : Int) := by
  unfold crc_Sum.f
  rw [show (4294967295 : Int) = ((ones.toNat : Nat) : Int) from rfl, sum_l0 l hb hn l.length k ones 0 (by omega) (by omega) (by omega) hk]
  rfl

theorem bytes_of {l : List Int} (h : ∀ x ∈ l, (Lit.int .u8 x).wf = true) : Bytes l := by
  intro x hx
  have := h x hx
  simp only [Lit.wf, Bool.and_eq_true, decide_eq_true_eq] at this
  have h1 : IntKind.u8.min = 0 := rfl
  have h2 : IntKind.u8.max = 255 := rfl
  omega

theorem halfN_inj {n : Nat} {a b : BitVec 32} (h : halfN n a = halfN n b) : a = b := by
  have h2 : halfN n (a ^^^ b) = 0#32 := by rw [halfN_xor, h, BitVec.xor_self]
  have := halfN_ne n h2
  exact BitVec.xor_eq_zero_iff.1 this
theorem take_inj {r s : BitVec 32} {c d : Nat} (h : CrcMath.take r c = CrcMath.take s d) : r ^^^ BitVec.ofNat 32 c = s ^^^ BitVec.ofNat 32 d := halfN_inj h
theorem reg_inj (l : List Nat) : ∀ {r s : BitVec 32}, reg r l = reg s l → r = s := by
  induction l with
  | nil => intro r s h; exact h
  | cons c l ih =>
    intro r s h
    have h1 := take_inj (ih (r := CrcMath.take r c) (s := CrcMath.take s c) h)
    have := congrArg (· ^^^ BitVec.ofNat 32 c) h1
    simpa [BitVec.xor_assoc] using this
theorem reg_append (l m : List Nat) (r : BitVec 32) : reg r (l ++ m) = reg (reg r l) m := List.foldl_append ..
/-- One byte turned: another sum. -/
theorem sum_set_ne (l : List Nat) (i : Nat) (c v : Nat) (hi : l[i]? = some c) (hc : c < 256) (hv : v < 256) (hne : v ≠ c) : sum (l.set i v) ≠ sum l := by
  intro h
  obtain ⟨hlt, rfl⟩ := List.getElem?_eq_some_iff.1 hi
  have e1 : l.set i v = l.take i ++ v :: l.drop (i + 1) := List.set_eq_take_append_cons_drop.trans (if_pos hlt)
  have e2 : l = l.take i ++ l[i] :: l.drop (i + 1) := by rw [← List.drop_eq_getElem_cons hlt, List.take_append_drop]
  unfold sum at h
  have h1 : reg ones (l.set i v) = reg ones l := by
    have := congrArg (· ^^^ ones) h
    simpa [BitVec.xor_assoc] using this
  rw [e1] at h1
  conv at h1 => rhs; rw [e2]
  rw [reg_append, reg_append] at h1
  have h2 := take_inj (reg_inj (l.drop (i + 1)) (r := CrcMath.take _ v) (s := CrcMath.take _ l[i]) h1)
  have h3 : BitVec.ofNat 32 v = BitVec.ofNat 32 l[i] := by
    have := congrArg (reg ones (l.take i) ^^^ ·) h2
    simpa [← BitVec.xor_assoc] using this
  have h4 := congrArg BitVec.toNat h3
  rw [BitVec.toNat_ofNat, BitVec.toNat_ofNat] at h4
  omega
end Go.Proofs.Ytkipbilnhpeacaa.CrcP
