/-
  KeyAll: for keys of up to 20 bytes, and up to 8 keys of up to 20 bytes in a row, the program and the document tell the same of which keys may be, whose they are, what lies within, what rises. For every key, number of shards and row; greater ones are let be.
-/
import Derived.Test.YtggffmcfkcjeaaaKeyPure
namespace Go.Proofs.Ytggffmcfkcjeaaa.Pure
open Go.RowKit Go.Proofs.Ytggffmcfkcjeaaa.PKey Go.Proofs.YtggffmcfkcjeaaaW.PrintWords Go.Proofs.Ytggffmcfkcjeaaa.KeyP
theorem begun_f (k : Nat) (hk : 16 < k) : diwanlaw4_begun.f k = some true := by
  have h : diwanlaw4_begun.f 17 = some true := by decide +kernel
  exact at_rounds diwanlaw4_begun.mono hk h
theorem all_end (k : Nat) (a b c : ByteArray) (n : Int) (l : List ByteArray) (ha : a.size ≤ 20) (hn : n ≤ 9223372036854775807) (hl : l.length ≤ 8) (hs : ∀ s ∈ l, s.size ≤ 20) (hk : 40 < k) :
    ((key_May.f k a).bind fun t125 => ((diwanref1_MayKey.f k a).bind fun t126 => (if (t125 == t126) = true then ((key_Shard.f k a n).bind fun t127 => ((diwanref1_ShardOf.f k a n).bind fun t128 => (if t127 = t128 then ((key_Within.f a b c).bind fun t129 => ((diwanref1_Within.f a b c).bind fun t130 => (if (t129 == t130) = true then ((key_Rising.f k l).bind fun t131 => ((diwanref1_Rising.f k l).bind fun t132 => (some (t131 == t132)))) else (some false)))) else (some false)))) else (some false)))) = some true := by
  obtain ⟨x, h1, _, h2⟩ := may_f a (by omega) k (by omega)
  obtain ⟨r, h3, h4, _⟩ := shard_f a (by omega) n hn k (by omega)
  obtain ⟨y, h5, h6⟩ := rising_f l (by omega) k (fun s h => by have := hs s h; omega) (fun s h => by have := hs s h; omega) (by omega)
  rw [h1, h2]
  simp only [Option.bind_some, beq_self_eq_true, if_true]
  rw [h3, h4]
  simp only [Option.bind_some, if_true]
  rw [within_ref, within_f]
  simp only [Option.bind_some, beq_self_eq_true, if_true]
  rw [h5, h6]
  simp only [Option.bind_some, beq_self_eq_true]
theorem all_l0 (a b c : ByteArray) (n : Int) (l : List ByteArray) (ha : a.size ≤ 20) (hn : n ≤ 9223372036854775807) (hl : l.length ≤ 8) (d : Nat) : ∀ (k : Nat) (i : Int), 0 ≤ i → i ≤ l.length → (l.length : Int) - i = d → 50 + d < k → (∀ j : Nat, (j : Int) < i → ∀ s, l[j]? = some s → s.size ≤ 20) →
    diwanlaw4_KeyAll.l0 k a b c n l i = some true := by
  induction d with
  | zero =>
    intro k i h0 h1 hd hk hs
    obtain ⟨k, rfl⟩ : ∃ m, k = m + 1 := ⟨k - 1, by omega⟩
    have c1 : ¬ i < (l.length : Int) := by omega
    simp only [diwanlaw4_KeyAll.l0]
    rw [if_neg c1]
    refine all_end k a b c n l ha hn hl (fun s hs' => ?_) (by omega)
    obtain ⟨j, hj⟩ := List.mem_iff_getElem?.1 hs'
    exact hs j (by have := (List.getElem?_eq_some_iff.1 hj).1; omega) s hj
  | succ d ih =>
    intro k i h0 h1 hd hk hs
    obtain ⟨k, rfl⟩ : ∃ m, k = m + 1 := ⟨k - 1, by omega⟩
    have c1 : i < (l.length : Int) := by omega
    simp only [diwanlaw4_KeyAll.l0]
    rw [if_pos c1, if_pos h0]
    by_cases h : ((rdOf ByteArray.empty l i).size : Int) > 20
    · rw [if_pos h]
    · rw [if_neg h, wrap_up h0 (by omega)]
      refine ih k (i + 1) (by omega) (by omega) (by omega) (by omega) (fun j hj s hjs => ?_)
      by_cases e : (j : Int) < i
      · exact hs j e s hjs
      · have : i.toNat = j := by omega
        unfold rdOf at h
        rw [this, List.getD_eq_getElem?_getD, hjs] at h
        simp at h
        omega
theorem j0_true (k : Nat) (a b c : ByteArray) (n : Int) (l : List ByteArray) : diwanlaw4_KeyAll.j0 (k + 1) a b c n l true = some true := by
  simp only [diwanlaw4_KeyAll.j0]; rw [if_pos trivial]
theorem KeyAll : diwanlaw4_KeyAll.Pure := by
  intro a b c n l _ _ _ hn _
  simp only [Lit.wf, Bool.and_eq_true, decide_eq_true_eq] at hn
  have m2 : IntKind.i64.max = 9223372036854775807 := rfl
  refine ⟨101, ?_⟩
  unfold diwanlaw4_KeyAll.f
  rw [begun_f 101 (by omega)]
  simp only [Option.bind_some, if_true]
  by_cases h1 : (a.size : Int) > 20
  · rw [if_pos h1]; exact j0_true 100 a b c n l
  rw [if_neg h1]
  by_cases h2 : (b.size : Int) > 20
  · rw [if_pos h2]; exact j0_true 100 a b c n l
  rw [if_neg h2]
  by_cases h3 : (c.size : Int) > 20
  · rw [if_pos h3]; exact j0_true 100 a b c n l
  rw [if_neg h3]
  by_cases h4 : (l.length : Int) > 8
  · rw [show decide ((l.length : Int) > 8) = true from decide_eq_true h4]; exact j0_true 100 a b c n l
  · rw [show decide ((l.length : Int) > 8) = false from decide_eq_false h4]
    simp only [diwanlaw4_KeyAll.j0]
    rw [if_neg (by decide)]
    exact all_l0 a b c n l (by omega) (by omega) (by omega) l.length 100 0 (by omega) (by omega) (by omega) (by omega) (fun j hj => by omega)
end Go.Proofs.Ytggffmcfkcjeaaa.Pure
