/-
  CrcLine: what three texts of twenty bytes come to, place by place, has the three sums together as its sum.
-/
import Derived.Test.YtggffmcfkcjeaaaCrcPure
import Derived.Test.YtggffmcfkcjeaaaPCrcx2
namespace Go.Proofs.Ytggffmcfkcjeaaa.Pure
open Go.RowKit Go.Proofs.Ytggffmcfkcjeaaa.PCrc Go.Proofs.YtggffmcfkcjeaaaW.PrintWords Go.Proofs.Ytggffmcfkcjeaaa.CrcP Go.Proofs.Ytggffmcfkcjeaaa.CrcMath
theorem ofInt8 (a : Nat) : BitVec.ofInt 8 (a : Int) = BitVec.ofNat 8 a := BitVec.ofInt_natCast _ _
theorem xor8 (a b : Nat) (ha : a < 256) (hb : b < 256) : Go.bits .xor .u8 (a : Int) (b : Int) = ((a ^^^ b : Nat) : Int) := by
  have h : Go.bits .xor .u8 (a : Int) (b : Int) = IntKind.u8.wrap ((BitVec.ofInt 8 (a : Int) ^^^ BitVec.ofInt 8 (b : Int)).toNat : Int) := rfl
  have hx : a ^^^ b < 256 := Nat.xor_lt_two_pow (n := 8) ha hb
  rw [h, ofInt8, ofInt8, BitVec.toNat_xor, BitVec.toNat_ofNat, BitVec.toNat_ofNat, Nat.mod_eq_of_lt ha, Nat.mod_eq_of_lt hb, IntKind.wrap_u8]
  omega
theorem nats_xorThree (a b c : List Int) (ha : a.length = 20) (hb : b.length = 20) (hc : c.length = 20) (wa : Bytes a) (wb : Bytes b) (wc : Bytes c) :
    nats (xorThree a b c) = ((nats a).zipWith (· ^^^ ·) (nats b)).zipWith (· ^^^ ·) (nats c) ∧ Bytes (xorThree a b c) := by
  have key : ∀ i, i < 20 → ∃ x y z : Nat, (nats a)[i]? = some x ∧ (nats b)[i]? = some y ∧ (nats c)[i]? = some z ∧ (xorThree a b c)[i]? = some (((x ^^^ y) ^^^ z : Nat) : Int) ∧ (x ^^^ y) ^^^ z < 256 := by
    intro i hi
    obtain ⟨x, hx, ex, mx⟩ := rd_at a (i : Int) (by omega) (by omega)
    obtain ⟨y, hy, ey, my⟩ := rd_at b (i : Int) (by omega) (by omega)
    obtain ⟨z, hz, ez, mz⟩ := rd_at c (i : Int) (by omega) (by omega)
    have bx := wa x mx
    have bY := wb y my
    have bz := wc z mz
    obtain ⟨x, rfl⟩ := Int.eq_ofNat_of_zero_le bx.1
    obtain ⟨y, rfl⟩ := Int.eq_ofNat_of_zero_le bY.1
    obtain ⟨z, rfl⟩ := Int.eq_ofNat_of_zero_le bz.1
    rw [Int.toNat_natCast] at hx hy hz
    have h1 : x ^^^ y < 256 := Nat.xor_lt_two_pow (n := 8) (by omega) (by omega)
    have h2 : (x ^^^ y) ^^^ z < 256 := Nat.xor_lt_two_pow (n := 8) h1 (by omega)
    refine ⟨x, y, z, by simp [nats, hx], by simp [nats, hy], by simp [nats, hz], ?_, h2⟩
    rw [xorThree_get a b c i hi, ex, ey, ez, xor8 x y (by omega) (by omega), xor8 _ z h1 (by omega)]
  constructor
  · apply List.ext_getElem?
    intro i
    by_cases hi : i < 20
    · obtain ⟨x, y, z, e1, e2, e3, e4, _⟩ := key i hi
      rw [List.getElem?_zipWith, List.getElem?_zipWith, e1, e2, e3]
      simp [nats, e4]
    · rw [List.getElem?_eq_none (by simp [nats, xorThree_length]; omega), List.getElem?_eq_none (by simp [nats, ha, hb, hc]; omega)]
  · intro v hv
    obtain ⟨i, hi⟩ := List.mem_iff_getElem?.1 hv
    have hl := (List.getElem?_eq_some_iff.1 hi).1
    rw [xorThree_length] at hl
    obtain ⟨x, y, z, _, _, _, e4, h⟩ := key i hl
    rw [e4] at hi
    obtain rfl := Option.some.inj hi
    omega
theorem zip_lt (l m : List Nat) (hl : ∀ c ∈ l, c < 256) (hm : ∀ c ∈ m, c < 256) : ∀ x ∈ l.zipWith (· ^^^ ·) m, x < 256 := by
  intro x hx
  obtain ⟨i, hi⟩ := List.mem_iff_getElem?.1 hx
  rw [List.getElem?_zipWith] at hi
  cases h5 : l[i]? with
  | none => rw [h5] at hi; simp at hi
  | some y =>
    cases h6 : m[i]? with
    | none => rw [h5, h6] at hi; simp at hi
    | some z =>
      rw [h5, h6] at hi
      simp at hi
      subst hi
      exact Nat.xor_lt_two_pow (n := 8) (hl y (List.mem_of_getElem? h5)) (hm z (List.mem_of_getElem? h6))
theorem CrcLine : diwanlaw2_CrcLine.Pure := by
  intro a b c ha hb hc wa wb wc
  have wa := bytes_of wa
  have wb := bytes_of wb
  have wc := bytes_of wc
  obtain ⟨e, we⟩ := nats_xorThree a b c ha hb hc wa wb wc
  refine ⟨100, _, _, _, _, sum_f _ we (by rw [xorThree_length]; omega) 100 (by rw [xorThree_length]; omega), sum_f a wa (by omega) 100 (by omega), sum_f b wb (by omega) 100 (by omega), sum_f c wc (by omega) 100 (by omega), ?_⟩
  rw [xor_nat, xor_nat, beq_iff_eq, e]
  congr 2
  have h1 := reg_xor (nats a) (nats b) (by simp [nats, ha, hb]) (nats_lt wa) (nats_lt wb) ones ones
  have h2 := reg_xor ((nats a).zipWith (· ^^^ ·) (nats b)) (nats c) (by simp [nats, ha, hb, hc]) (zip_lt _ _ (nats_lt wa) (nats_lt wb)) (nats_lt wc) (ones ^^^ ones) ones
  rw [h1] at h2
  have h3 : (ones ^^^ ones) ^^^ ones = ones := by decide
  rw [h3] at h2
  unfold sum
  rw [h2]
  generalize reg ones (nats a) = A
  generalize reg ones (nats b) = B
  generalize reg ones (nats c) = C
  generalize ones = O
  apply BitVec.eq_of_getLsbD_eq
  intro i _
  simp only [BitVec.getLsbD_xor]
  cases A.getLsbD i <;> cases B.getLsbD i <;> cases C.getLsbD i <;> cases O.getLsbD i <;> rfl
end Go.Proofs.Ytggffmcfkcjeaaa.Pure
