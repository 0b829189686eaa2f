/-
  KeyShards: each of eight bytes is summed up once, however they stand: the sum is one, and so is the shard.
-/
import Derived.Test.YtggffmcfkcjeaaaKeyPure
import Derived.Test.YtggffmcfkcjeaaaPKeyx3
namespace Go.Proofs.Ytggffmcfkcjeaaa.Pure
open Go.RowKit Go.Proofs.Ytggffmcfkcjeaaa.PKey Go.Proofs.YtggffmcfkcjeaaaW.PrintWords Go.Proofs.Ytggffmcfkcjeaaa.KeyP
def tot (s : ByteArray) : Nat → Int → Int
  | 0, _ => 0
  | d + 1, i => bt s i + tot s d (i + 1)
theorem shard_tot (s : ByteArray) (hn : s.size ≤ 1000000) (n : Int) (h1n : 1 ≤ n) (hn2 : n ≤ 1000) (d : Nat) : ∀ (k : Nat) (i x : Int), 0 ≤ i → i ≤ s.size → (s.size : Int) - i = d → d < k → 0 ≤ x → x < n →
    key_Shard.l0 k s n x (s.size : Int) i = some ((x + tot s d i) % n) := by
  induction d with
  | zero =>
    intro k i x h0 h1 hd hk hx0 hxn
    obtain ⟨k, rfl⟩ : ∃ m, k = m + 1 := ⟨k - 1, by omega⟩
    simp only [key_Shard.l0, tot]
    rw [if_neg (by omega), Int.add_zero, Int.emod_eq_of_lt hx0 hxn]
  | succ d ih =>
    intro k i x h0 h1 hd hk hx0 hxn
    obtain ⟨k, rfl⟩ : ∃ m, k = m + 1 := ⟨k - 1, by omega⟩
    obtain ⟨hb0, hb1⟩ := bt_range s i
    have hm0 := Int.emod_nonneg (bt s i) (b := n) (by omega)
    have hm1 := Int.emod_lt_of_pos (bt s i) (b := n) (by omega)
    have c1 : i < (s.size : Int) := by omega
    have cn : ¬ n = 0 := by omega
    have w1 : wrap64 (bt s i) = bt s i := by unfold wrap64; omega
    have e0 : Int.tmod (bt s i) n = bt s i % n := Int.tmod_eq_emod_of_nonneg hb0
    have w2 : wrap64 (x + bt s i % n) = x + bt s i % n := by unfold wrap64; omega
    have e1 : Int.tmod (x + bt s i % n) n = (x + bt s i % n) % n := Int.tmod_eq_emod_of_nonneg (by omega)
    have e3 : (x + bt s i % n) % n = (x + bt s i) % n := by simp
    simp only [key_Shard.l0, tot]
    rw [if_pos c1, if_pos h0, if_pos c1, if_neg cn, w1, e0, w2, e1, e3, wrap_up h0 (by omega)]
    rw [ih k (i + 1) _ (by omega) (by omega) (by omega) (by omega) (Int.emod_nonneg _ (by omega)) (Int.emod_lt_of_pos _ (by omega)), Int.emod_add_emod, Int.add_assoc]
theorem bytes_wf {l : List Int} (h : ∀ z ∈ l, (Lit.int .u8 z).wf = true) : ∀ z ∈ l, 0 ≤ z ∧ z < 256 := by
  intro z hz
  have := h z hz
  have m1 : IntKind.u8.min = 0 := rfl
  have m2 : IntKind.u8.max = 255 := rfl
  simp only [Lit.wf, Bool.and_eq_true, decide_eq_true_eq] at this
  omega
theorem str_size (xs : List Int) : (strOfNums xs).size = xs.length := by
  unfold strOfNums
  show (List.toArray _).size = _
  simp
theorem bt_str (xs : List Int) (h : ∀ z ∈ xs, 0 ≤ z ∧ z < 256) (j : Nat) (hj : j < xs.length) : bt (strOfNums xs) (j : Int) = rd xs (j : Int) := by
  have hs := str_size xs
  have hm := h _ (List.getElem_mem hj)
  unfold bt rd
  rw [Int.toNat_natCast, dif_pos (by omega), List.getD_eq_getElem?_getD, List.getElem?_eq_getElem hj]
  have e : (strOfNums xs)[j]'(by omega) = UInt8.ofNat (xs[j]).toNat := by
    unfold strOfNums
    show (List.toArray _)[j]'_ = _
    simp
  rw [e]
  simp
  omega
theorem tot8 (xs : List Int) (hl : xs.length = 8) (h : ∀ z ∈ xs, 0 ≤ z ∧ z < 256) :
    tot (strOfNums xs) 8 0 = rd xs 0 + (rd xs 1 + (rd xs 2 + (rd xs 3 + (rd xs 4 + (rd xs 5 + (rd xs 6 + (rd xs 7 + 0))))))) := by
  have b := fun j hj => bt_str xs h j (by omega : j < xs.length)
  have e0 := b 0 (by omega)
  have e1 := b 1 (by omega)
  have e2 := b 2 (by omega)
  have e3 := b 3 (by omega)
  have e4 := b 4 (by omega)
  have e5 := b 5 (by omega)
  have e6 := b 6 (by omega)
  have e7 := b 7 (by omega)
  show bt _ 0 + (bt _ 1 + (bt _ 2 + (bt _ 3 + (bt _ 4 + (bt _ 5 + (bt _ 6 + (bt _ 7 + 0))))))) = _
  rw [show bt (strOfNums xs) 0 = rd xs 0 from e0, show bt (strOfNums xs) 1 = rd xs 1 from e1, show bt (strOfNums xs) 2 = rd xs 2 from e2, show bt (strOfNums xs) 3 = rd xs 3 from e3,
    show bt (strOfNums xs) 4 = rd xs 4 from e4, show bt (strOfNums xs) 5 = rd xs 5 from e5, show bt (strOfNums xs) 6 = rd xs 6 from e6, show bt (strOfNums xs) 7 = rd xs 7 from e7]
theorem place_mod (turn : Int) (h0 : 0 ≤ turn) (h1 : turn < 256) (i : Nat) (hi : i < 8) : placeOf turn i = ((i : Int) + turn) % 8 := by
  unfold placeOf
  have e0 : wrap64 turn = turn := by unfold wrap64; omega
  have e : wrap64 ((i : Int) + turn) = (i : Int) + turn := by unfold wrap64; omega
  rw [e0, e, Int.tmod_eq_emod_of_nonneg (by omega)]
theorem turnBy_get (b : List Int) (turn : Int) (i : Nat) (hi : i < 8) : rd (turnBy b turn) (i : Int) = rd b (placeOf turn i) := by
  have : (turnBy b turn)[i]? = some (rd b (placeOf turn i)) := by
    rw [turnBy, List.getElem?_map, List.getElem?_range hi]; rfl
  conv => lhs; unfold rd
  rw [Int.toNat_natCast, List.getD_eq_getElem?_getD, this]
  rfl
theorem turn_mem (b : List Int) (hb : b.length = 8) (turn : Int) (h0 : 0 ≤ turn) (h1 : turn < 256) (hw : ∀ z ∈ b, 0 ≤ z ∧ z < 256) : ∀ z ∈ turnBy b turn, 0 ≤ z ∧ z < 256 := by
  intro z hz
  obtain ⟨i, hi⟩ := List.mem_iff_getElem?.1 hz
  have hl := (List.getElem?_eq_some_iff.1 hi).1
  rw [turnBy_length] at hl
  have hp := placeOf_in turn i hl h0 h1
  rw [turnBy, List.getElem?_map, List.getElem?_range hl] at hi
  obtain rfl := Option.some.inj hi
  show 0 ≤ rd b (placeOf turn i) ∧ rd b (placeOf turn i) < 256
  unfold rd
  rw [List.getD_eq_getElem?_getD, List.getElem?_eq_getElem (by omega)]
  exact hw _ (List.getElem_mem _)
theorem turn_tot (b : List Int) (turn : Int) (h0 : 0 ≤ turn) (h1 : turn < 256) (hw : ∀ z ∈ b, 0 ≤ z ∧ z < 256) (hb : b.length = 8) : tot (strOfNums (turnBy b turn)) 8 0 = tot (strOfNums b) 8 0 := by
  rw [tot8 _ (turnBy_length b turn) (turn_mem b hb turn h0 h1 hw), tot8 b hb hw]
  have g := fun i hi => (turnBy_get b turn i hi).trans (congrArg (rd b) (place_mod turn h0 h1 i hi))
  rw [show rd (turnBy b turn) 0 = _ from g 0 (by omega), show rd (turnBy b turn) 1 = _ from g 1 (by omega), show rd (turnBy b turn) 2 = _ from g 2 (by omega), show rd (turnBy b turn) 3 = _ from g 3 (by omega),
    show rd (turnBy b turn) 4 = _ from g 4 (by omega), show rd (turnBy b turn) 5 = _ from g 5 (by omega), show rd (turnBy b turn) 6 = _ from g 6 (by omega), show rd (turnBy b turn) 7 = _ from g 7 (by omega)]
  have key : ∀ r : Int, turn % 8 = r → ∀ i : Nat, ((i : Int) + turn) % 8 = ((i : Int) + r) % 8 := by
    intro r hr i; omega
  have hr : turn % 8 = 0 ∨ turn % 8 = 1 ∨ turn % 8 = 2 ∨ turn % 8 = 3 ∨ turn % 8 = 4 ∨ turn % 8 = 5 ∨ turn % 8 = 6 ∨ turn % 8 = 7 := by omega
  rcases hr with hr | hr | hr | hr | hr | hr | hr | hr <;>
  · have q := key _ hr
    rw [q 0, q 1, q 2, q 3, q 4, q 5, q 6, q 7]
    simp
    try omega
theorem KeyShards : diwanlaw4_KeyShards.Pure := by
  intro b turn n hb wb wt wn
  have hw := bytes_wf wb
  have m1 : IntKind.u8.min = 0 := rfl
  have m2 : IntKind.u8.max = 255 := rfl
  simp only [Lit.wf, Bool.and_eq_true, decide_eq_true_eq] at wt wn
  have ht0 : 0 ≤ turn := by omega
  have ht1 : turn < 256 := by omega
  have e1 : wrap64 (Int.tmod n 3) = n % 3 := by
    rw [Int.tmod_eq_emod_of_nonneg (by omega)]; unfold wrap64; omega
  have e2 : wrap64 (1 + n % 3) = 1 + n % 3 := by unfold wrap64; omega
  have ts := str_size b
  have tt := str_size (turnBy b turn)
  rw [turnBy_length] at tt
  have go : ∀ s : ByteArray, s.size = 8 → key_Shard.f 64 s (1 + n % 3) = some ((0 + tot s 8 0) % (1 + n % 3)) := by
    intro s hs
    unfold key_Shard.f
    rw [if_neg (by omega)]
    exact shard_tot s (by omega) _ (by omega) (by omega) 8 64 0 0 (by omega) (by omega) (by omega) (by omega) (by omega) (by omega)
  refine ⟨64, (0 + tot (strOfNums b) 8 0) % (1 + n % 3), 1 + n % 3, by decide +kernel, by rw [e1, e2], go _ (by omega), ?_, ?_, ?_, Int.emod_nonneg _ (by omega), Int.emod_lt_of_pos _ (by omega)⟩
  · rw [go _ tt, turn_tot b turn ht0 ht1 hw hb]
  · unfold key_Shard.f
    rw [if_neg (by omega)]
    exact (shard_tot ⟨#[]⟩ (by decide) _ (by omega) (by omega) 0 64 0 0 (by omega) (by decide) (by decide) (by omega) (by omega) (by omega)).trans (by simp [tot])
  · unfold key_Shard.f
    rw [if_pos (by omega)]
end Go.Proofs.Ytggffmcfkcjeaaa.Pure
