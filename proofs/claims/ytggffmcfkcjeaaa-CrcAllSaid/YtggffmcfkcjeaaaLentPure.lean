/-
  What diwanlaw0.Lent comes to: the bytes, with their pads behind. For texts of up to 100,000 bytes.
-/
import Derived.Test.YtggffmcfkcjeaaaPCrcx1
import Derived.Test.YtggffmcfkcjeaaaPCrcx1
namespace Go.Proofs.Ytggffmcfkcjeaaa.LentP
open Go.RowKit Go.Proofs.Ytggffmcfkcjeaaa.PCrc Go.Proofs.YtggffmcfkcjeaaaW.PrintWords
theorem wrap_up {i : Int} (h0 : 0 ≤ i) (h : i < 9223372036854775807) : wrap64 (i + 1) = i + 1 := by
  unfold wrap64
  omega
theorem rd_some {l : List Int} {i : Int} {x : Int} (h : l[i.toNat]? = some x) : rd l i = x := by
  unfold rd
  rw [List.getD_eq_getElem?_getD, h]
  rfl
theorem lent_l1 (x0 : List Int) (hn : x0.length ≤ 100000) (d : Nat) : ∀ (k : Nat) (x3 : List Int) (i : Int), 0 ≤ i → i + d = x0.length → d < k → x3.length = x0.length + 6 → (∀ j : Nat, (j : Int) < i → x3[j]? = x0[j]?) → (∀ j : Nat, i ≤ (j : Int) → j < x0.length + 6 → x3[j]? = some (pad j)) →
    diwanlaw0_Lent.l1 k x0 x3 i = some (x0 ++ pads x0.length) := by
  induction d with
  | zero =>
    intro k x3 i h0 hd hk hl ha hb
    obtain ⟨k, rfl⟩ : ∃ m, k = m + 1 := ⟨k - 1, by omega⟩
    simp only [diwanlaw0_Lent.l1]
    rw [if_neg (by omega), if_pos (by omega), if_pos (by omega)]
    congr 1
    apply List.ext_getElem?
    intro j
    by_cases h1 : j < x0.length
    · rw [List.getElem?_append_left h1]
      exact ha j (by omega)
    · by_cases h2 : j < x0.length + 6
      · rw [List.getElem?_append_right (by omega), pads_get _ _ (by omega), hb j (by omega) h2]
        exact congrArg some (congrArg pad (by omega))
      · rw [List.getElem?_eq_none (by omega), List.getElem?_eq_none (by rw [List.length_append, pads_length]; omega)]
  | succ d ih =>
    intro k x3 i h0 hd hk hl ha hb
    obtain ⟨k, rfl⟩ : ∃ m, k = m + 1 := ⟨k - 1, by omega⟩
    have hi : i.toNat < x0.length := by omega
    simp only [diwanlaw0_Lent.l1]
    rw [if_pos (by omega), if_pos h0, if_pos (by omega), wrap_up h0 (by omega), rd_some (List.getElem?_eq_getElem hi)]
    refine ih k _ (i + 1) (by omega) (by omega) (by omega) (by rw [List.length_set]; exact hl) (fun j hj => ?_) (fun j hj hj2 => ?_)
    · rw [List.getElem?_set]
      by_cases e : i.toNat = j
      · subst e
        rw [if_pos rfl, if_pos (by omega), List.getElem?_eq_getElem hi]
      · rw [if_neg e]
        exact ha j (by omega)
    · rw [List.getElem?_set, if_neg (by omega)]
      exact hb j (by omega) hj2
theorem lent_l0 (x0 : List Int) (hn : x0.length ≤ 100000) (d : Nat) : ∀ (k : Nat) (x3 : List Int) (i : Int), 0 ≤ i → i + d = x0.length + 6 → d + x0.length + 1 < k → x3.length = x0.length + 6 → (∀ j : Nat, (j : Int) < i → x3[j]? = some (pad j)) →
    diwanlaw0_Lent.l0 k x0 x3 i = some (x0 ++ pads x0.length) := by
  induction d with
  | zero =>
    intro k x3 i h0 hd hk hl ha
    obtain ⟨k, rfl⟩ : ∃ m, k = m + 1 := ⟨k - 1, by omega⟩
    simp only [diwanlaw0_Lent.l0]
    rw [if_neg (by omega)]
    exact lent_l1 x0 hn x0.length k x3 0 (by omega) (by omega) (by omega) hl (fun j hj => by omega) (fun j _ hj => ha j (by omega))
  | succ d ih =>
    intro k x3 i h0 hd hk hl ha
    obtain ⟨k, rfl⟩ : ∃ m, k = m + 1 := ⟨k - 1, by omega⟩
    simp only [diwanlaw0_Lent.l0]
    rw [if_pos (by omega), if_pos h0, wrap_up h0 (by omega)]
    refine ih k _ (i + 1) (by omega) (by omega) (by omega) (by rw [List.length_set]; exact hl) (fun j hj => ?_)
    rw [List.getElem?_set]
    by_cases e : i.toNat = j
    · subst e
      rw [if_pos rfl, if_pos (by omega)]
      refine congrArg some ?_
      have : ((i.toNat : Nat) : Int) = i := by omega
      rw [this]
      rfl
    · rw [if_neg e]
      exact ha j (by omega)
theorem lent_f (l : List Int) (hn : l.length ≤ 100000) (k : Nat) (hk : 2 * l.length + 8 < k) : diwanlaw0_Lent.f k l = some (l ++ pads l.length) := by
  have e : wrap64 ((l.length : Int) + 6) = ((l.length + 6 : Nat) : Int) := by unfold wrap64; omega
  unfold diwanlaw0_Lent.f
  rw [e, if_pos (by omega), if_pos (by omega)]
  exact lent_l0 l hn (l.length + 6) k _ 0 (by omega) (by omega) (by omega) (by rw [List.length_replicate]; omega) (fun j hj => by omega)
end Go.Proofs.Ytggffmcfkcjeaaa.LentP
