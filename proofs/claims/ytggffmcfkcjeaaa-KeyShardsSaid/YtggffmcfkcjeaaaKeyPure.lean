/-
  What the printed functions of layer 4 come to: names that may be, shards, what lies within, what rises: the program's and the document's are one.
-/
import Derived.Test.YtggffmcfkcjeaaaPKeyx2
import Derived.Test.YtggffmcfkcjeaaaOwn0
namespace Go.Proofs.Ytggffmcfkcjeaaa.KeyP
open Go.RowKit Go.Proofs.Ytggffmcfkcjeaaa.PKey Go.Proofs.YtggffmcfkcjeaaaW.PrintWords
theorem wrap_up {i : Int} (h0 : 0 ≤ i) (h : i < 9223372036854775807) : wrap64 (i + 1) = i + 1 := by
  unfold wrap64
  omega
/-! ### which names may be -/
theorem sign_f (c : Int) : key_sign.f c = some (decide (33 ≤ c) && decide (c ≤ 126)) := by
  unfold key_sign.f
  by_cases h : c ≥ 33
  · rw [if_pos h]; simp [h]
  · rw [if_neg h]; simp; omega
theorem may_l0 (s : ByteArray) (hn : s.size ≤ 140737488351232) (d : Nat) : ∀ (k : Nat) (i : Int), 0 ≤ i → i ≤ s.size → (s.size : Int) - i = d → d < k → ∃ b, key_name_may.l0 k s (s.size : Int) i = some b ∧ diwanref1_MayKey.l0 k s i = some b := by
  induction d with
  | zero =>
    intro k i h0 h1 hd hk
    obtain ⟨k, rfl⟩ : ∃ m, k = m + 1 := ⟨k - 1, by omega⟩
    simp only [key_name_may.l0, diwanref1_MayKey.l0]
    have c1 : ¬ i < (s.size : Int) := by omega
    rw [if_neg c1, if_neg c1]
    by_cases h : (s.size : Int) ≥ 1
    · rw [if_pos h]; exact ⟨_, rfl, rfl⟩
    · rw [if_neg h]; exact ⟨_, rfl, rfl⟩
  | succ d ih =>
    intro k i h0 h1 hd hk
    obtain ⟨k, rfl⟩ : ∃ m, k = m + 1 := ⟨k - 1, by omega⟩
    simp only [key_name_may.l0, diwanref1_MayKey.l0]
    rw [if_pos (by omega), if_pos h0, if_pos (by omega), if_pos (by omega), if_pos h0, sign_f]
    simp only [Option.bind_some]
    rw [wrap_up h0 (by omega)]
    by_cases ha : bt s i < 33
    · rw [if_pos ha, if_neg (by simp; omega)]; exact ⟨_, rfl, rfl⟩
    · rw [if_neg ha]
      by_cases hb : bt s i > 126
      · rw [if_pos hb, if_neg (by simp; omega)]; exact ⟨_, rfl, rfl⟩
      · rw [if_neg hb, if_pos (by simp; omega)]
        exact ih k (i + 1) (by omega) (by omega) (by omega) (by omega)
theorem may_f (s : ByteArray) (hn : s.size ≤ 140737488351232) (k : Nat) (hk : s.size < k) : ∃ b, key_May.f k s = some b ∧ key_name_may.f k s = some b ∧ diwanref1_MayKey.f k s = some b := by
  obtain ⟨b, h1, h2⟩ := may_l0 s hn s.size k 0 (by omega) (by omega) (by omega) hk
  refine ⟨b, ?_, h1, h2⟩
  unfold key_May.f key_name_may.f
  rw [h1]
  rfl
/-! ### whose they are -/
theorem shard_l0 (s : ByteArray) (hn : s.size ≤ 1000000) (n : Int) (h1n : 1 ≤ n) (hn2 : n ≤ 9223372036854775807) (d : Nat) : ∀ (k : Nat) (i x : Int), 0 ≤ i → i ≤ s.size → (s.size : Int) - i = d → d < k → 0 ≤ x → x < n → x ≤ 255 * i →
    ∃ r, key_Shard.l0 k s n x (s.size : Int) i = some r ∧ diwanref1_ShardOf.l0 k s n x i = some r ∧ 0 ≤ r ∧ r < n := by
  induction d with
  | zero =>
    intro k i x h0 h1 hd hk hx0 hxn hx
    obtain ⟨k, rfl⟩ : ∃ m, k = m + 1 := ⟨k - 1, by omega⟩
    simp only [key_Shard.l0, diwanref1_ShardOf.l0]
    rw [if_neg (by omega), if_neg (by omega)]
    exact ⟨x, rfl, rfl, hx0, hxn⟩
  | succ d ih =>
    intro k i x h0 h1 hd hk hx0 hxn hx
    obtain ⟨k, rfl⟩ : ∃ m, k = m + 1 := ⟨k - 1, by omega⟩
    obtain ⟨hb0, hb1⟩ := bt_range s i
    have hm0 := Int.emod_nonneg (bt s i) (b := n) (by omega)
    have hm1 := Int.emod_lt_of_pos (bt s i) (b := n) (by omega)
    have hm2 : bt s i % n ≤ bt s i := by
      by_cases h : bt s i < n
      · rw [Int.emod_eq_of_lt hb0 h]; omega
      · omega
    have c1 : i < (s.size : Int) := by omega
    have cn : ¬ n = 0 := by omega
    have w1 : wrap64 (bt s i) = bt s i := by unfold wrap64; omega
    have e0 : Int.tmod (bt s i) n = bt s i % n := Int.tmod_eq_emod_of_nonneg hb0
    have w2 : wrap64 (x + bt s i % n) = x + bt s i % n := by unfold wrap64; omega
    have e1 : Int.tmod (x + bt s i % n) n = (x + bt s i % n) % n := Int.tmod_eq_emod_of_nonneg (by omega)
    have w3 : wrap64 (x + bt s i) = x + bt s i := by unfold wrap64; omega
    have e2 : Int.tmod (x + bt s i) n = (x + bt s i) % n := Int.tmod_eq_emod_of_nonneg (by omega)
    have e3 : (x + bt s i % n) % n = (x + bt s i) % n := by simp
    have hx1 : (x + bt s i) % n ≤ x + bt s i := by
      by_cases h : x + bt s i < n
      · rw [Int.emod_eq_of_lt (by omega) h]; omega
      · have := Int.emod_lt_of_pos (x + bt s i) (b := n) (by omega)
        omega
    simp only [key_Shard.l0, diwanref1_ShardOf.l0]
    rw [if_pos c1, if_pos c1, if_pos h0, if_pos h0, if_pos c1, if_neg cn, if_neg cn, w1, e0, w2, e1, w3, e2, e3, wrap_up h0 (by omega)]
    exact ih k (i + 1) _ (by omega) (by omega) (by omega) (by omega) (Int.emod_nonneg _ (by omega)) (Int.emod_lt_of_pos _ (by omega)) (by omega)
theorem shard_f (s : ByteArray) (hn : s.size ≤ 1000000) (n : Int) (hn2 : n ≤ 9223372036854775807) (k : Nat) (hk : s.size < k) : ∃ r, key_Shard.f k s n = some r ∧ diwanref1_ShardOf.f k s n = some r ∧ 0 ≤ r ∧ (1 ≤ n → r < n) ∧ (n < 1 → r = 0) := by
  unfold key_Shard.f diwanref1_ShardOf.f
  by_cases h : n < 1
  · rw [if_pos h, if_pos h]
    exact ⟨0, rfl, rfl, by omega, fun h' => by omega, fun _ => rfl⟩
  · rw [if_neg h, if_neg h]
    obtain ⟨r, h1, h2, h3, h4⟩ := shard_l0 s hn n (by omega) hn2 s.size k 0 0 (by omega) (by omega) (by omega) hk (by omega) (by omega) (by omega)
    exact ⟨r, h1, h2, h3, fun _ => h4, fun h' => absurd h' h⟩
/-! ### what rises -/
theorem rising_l0 (l : List ByteArray) (hn : l.length ≤ 140737488351232) (d : Nat) : ∀ (k : Nat) (i : Int), 0 ≤ i → i ≤ l.length → (l.length : Int) - i = d → (∀ s ∈ l, s.size + d < k) → (∀ s ∈ l, s.size ≤ 140737488351232) → d < k →
    ∃ b, key_Rising.l0 k l l (l.length : Int) i = some b ∧ diwanref1_Rising.l0 k l i = some b := by
  induction d with
  | zero =>
    intro k i h0 h1 hd hk hs hk1
    obtain ⟨k, rfl⟩ : ∃ m, k = m + 1 := ⟨k - 1, by omega⟩
    have c1 : ¬ i < (l.length : Int) := by omega
    simp only [key_Rising.l0, diwanref1_Rising.l0]
    rw [if_neg c1, if_neg c1]
    exact ⟨true, rfl, rfl⟩
  | succ d ih =>
    intro k i h0 h1 hd hk hs hk1
    obtain ⟨k, rfl⟩ : ∃ m, k = m + 1 := ⟨k - 1, by omega⟩
    have c1 : i < (l.length : Int) := by omega
    have hm : rdOf ByteArray.empty l i ∈ l := by
      have hi : i.toNat < l.length := by omega
      unfold rdOf
      rw [List.getD_eq_getElem?_getD, List.getElem?_eq_getElem hi]
      exact List.getElem_mem hi
    obtain ⟨b, _, hb1, hb2⟩ := may_f _ (hs _ hm) k (by have := hk _ hm; omega)
    simp only [key_Rising.l0, diwanref1_Rising.l0]
    rw [if_pos c1, if_pos c1, if_pos h0, if_pos h0, if_pos c1, hb1, hb2]
    simp only [Option.bind_some]
    cases b with
    | false => exact ⟨false, rfl, rfl⟩
    | true =>
      have next := ih k (i + 1) (by omega) (by omega) (by omega) (fun s h => by have := hk s h; omega) hs (by omega)
      rw [if_pos rfl, if_pos rfl, wrap_up h0 (by omega)]
      by_cases hp : i > 0
      · have w1 : wrap64 (i - 1) = i - 1 := by unfold wrap64; omega
        have c2 : 0 ≤ i - 1 := by omega
        have c3 : i - 1 < (l.length : Int) := by omega
        rw [if_pos hp, if_pos hp, w1, if_pos c2, if_pos c2, if_pos c3, if_pos c3]
        cases hl : Op.bytesLess (rdOf ByteArray.empty l (i - 1)).toList (rdOf ByteArray.empty l i).toList with
        | true => rw [if_pos rfl, if_pos rfl]; exact next
        | false => rw [if_neg (by decide), if_neg (by decide)]; exact ⟨false, rfl, rfl⟩
      · rw [if_neg hp, if_neg hp]
        exact next
theorem rising_f (l : List ByteArray) (hn : l.length ≤ 140737488351232) (k : Nat) (hk : ∀ s ∈ l, s.size + l.length < k) (hs : ∀ s ∈ l, s.size ≤ 140737488351232) (hk1 : l.length < k) : ∃ b, key_Rising.f k l = some b ∧ diwanref1_Rising.f k l = some b :=
  rising_l0 l hn l.length k 0 (by omega) (by omega) (by omega) hk hs hk1
/-! ### what lies within -/
theorem within_f (a b c : ByteArray) : key_Within.f a b c = some (!(Op.bytesLess a.toList b.toList) && (c.toList.isEmpty || Op.bytesLess a.toList c.toList)) := by
  unfold key_Within.f
  cases h : Op.bytesLess a.toList b.toList with
  | true => simp
  | false =>
    cases hc : c.toList with
    | nil => simp
    | cons x y => simp
theorem within_ref (a b c : ByteArray) : diwanref1_Within.f a b c = key_Within.f a b c := rfl
end Go.Proofs.Ytggffmcfkcjeaaa.KeyP
