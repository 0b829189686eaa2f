/-
  KeyWithin: what lies within is in one piece: what lies between two that do does, too. For every three keys and two ends; of more than 100 bytes in all they are let be.
-/
import Derived.Test.YtggffmcfkcjeaaaPureKeyAll
import Derived.Test.YtggffmcfkcjeaaaPKeyx3
namespace Go.Proofs.Ytggffmcfkcjeaaa.Pure
open Go.RowKit Go.Proofs.Ytggffmcfkcjeaaa.PKey Go.Proofs.YtggffmcfkcjeaaaW.PrintWords Go.Proofs.Ytggffmcfkcjeaaa.KeyP
theorem less_self : ∀ (a : List UInt8), Op.bytesLess a a = false
  | [] => rfl
  | x :: y => by simp [Op.bytesLess, less_self y]
theorem less_trans : ∀ (a b c : List UInt8), Op.bytesLess a b = true → Op.bytesLess b c = true → Op.bytesLess a c = true
  | _, [], _, h, _ => by simp [Op.bytesLess] at h
  | _, _ :: _, [], _, h => by simp [Op.bytesLess] at h
  | [], _ :: _, _ :: _, _, _ => rfl
  | a :: x, b :: y, c :: z, h1, h2 => by
    have ih := less_trans x y z
    simp only [Op.bytesLess, Bool.or_eq_true, decide_eq_true_eq, Bool.and_eq_true, beq_iff_eq] at h1 h2 ⊢
    simp only [UInt8.lt_iff_toNat_lt] at h1 h2 ⊢
    rcases h1 with h1 | ⟨rfl, h1⟩
    · rcases h2 with h2 | ⟨rfl, h2⟩
      · left; omega
      · left; omega
    · rcases h2 with h2 | ⟨rfl, h2⟩
      · left; omega
      · right; exact ⟨rfl, ih h1 h2⟩
theorem not_less {a b : List UInt8} (h : Op.bytesLess b a = false) : Op.bytesLess a b = true ∨ a = b := by
  have := bytesLess_total a b
  rw [h] at this
  simpa using this
theorem le_less {a b c : List UInt8} (h : Op.bytesLess b a = false) (h2 : Op.bytesLess b c = true) : Op.bytesLess a c = true := by
  rcases not_less h with h | rfl
  · exact less_trans _ _ _ h h2
  · exact h2
theorem le_le {a b c : List UInt8} (h : Op.bytesLess b a = false) (h2 : Op.bytesLess c b = false) : Op.bytesLess c a = false := by
  cases e : Op.bytesLess c a with
  | false => rfl
  | true =>
    have := less_trans c a b e
    rcases not_less h with h | rfl
    · rw [this h] at h2; cases h2
    · rw [e] at h2; cases h2
theorem rest_true (a f : ByteArray) : ((key_Within.f a a (⟨#[]⟩ : ByteArray)).bind fun t137 => (if t137 = true then (if f.toList = ([] : List UInt8) then (some true) else ((key_Within.f a f f).bind fun t138 => (some (!t138)))) else (some false))) = some true := by
  rw [within_f, within_f, less_self]
  have e : (⟨#[]⟩ : ByteArray).toList = [] := by decide +kernel
  simp only [e, List.isEmpty_nil, Bool.not_false, Bool.true_or, Bool.and_self, Option.bind_some, if_true]
  by_cases h : f.toList = []
  · rw [if_pos h]
  · rw [if_neg h]
    have : f.toList.isEmpty = false := by simpa using h
    rw [this]
    cases Op.bytesLess a.toList f.toList <;> rfl
theorem within_main (k : Nat) (hk : 16 < k) (a b c f t : ByteArray) : diwanlaw4_KeyWithin.f (k + 1) a b c f t = some true := by
  unfold diwanlaw4_KeyWithin.f
  rw [bind_yes (begun_f (k + 1) (by omega))]
  generalize wrap64 ((wrap64 ((wrap64 ((wrap64 ((a.size : Int) + (b.size : Int))) + (c.size : Int))) + (f.size : Int))) + (t.size : Int)) = n
  by_cases hn : n > 100
  · rw [if_pos hn]
  · rw [if_neg hn]
    have hno : diwanlaw4_KeyWithin.j0 (k + 1) a b c f t false = some true := by
      simp only [diwanlaw4_KeyWithin.j0]
      rw [if_neg (by decide)]
      exact rest_true a f
    cases hab : Op.bytesLess b.toList a.toList with
    | true => rw [if_pos rfl]; exact hno
    | false =>
      rw [if_neg (by decide)]
      cases hbc : Op.bytesLess c.toList b.toList with
      | true => exact hno
      | false =>
        simp only [diwanlaw4_KeyWithin.j0]
        rw [Bool.not_false, if_pos rfl, within_f a f t, within_f b f t, within_f c f t]
        simp only [Option.bind_some]
        have hr := rest_true a f
        split
        · rename_i ha
          split
          · rename_i hc
            simp only [Bool.and_eq_true, Bool.not_eq_true', Bool.or_eq_true] at ha hc
            have hb : (!(Op.bytesLess b.toList f.toList) && (t.toList.isEmpty || Op.bytesLess b.toList t.toList)) = true := by
              have h1 : Op.bytesLess b.toList f.toList = false := le_le ha.1 hab
              rw [h1]
              rcases hc.2 with h | h
              · rw [h]; rfl
              · rw [le_less hbc h]; simp
            rw [if_pos hb]
            exact hr
          · exact hr
        · exact hr
theorem KeyWithin : diwanlaw4_KeyWithin.Pure := fun a b c f t _ _ _ _ _ => ⟨100 + 1, within_main 100 (by omega) a b c f t⟩
end Go.Proofs.Ytggffmcfkcjeaaa.Pure
