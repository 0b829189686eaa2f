/-
  Small laws of the walk that the print's texts want: '<=', '>', '>=' between strings, told by '<' alone. They hold of any program.
-/
import Derived.WalkKit
namespace Go
theorem bytesLess_total : ∀ (a b : List UInt8), (Op.bytesLess a b || a == b) = !Op.bytesLess b a
  | [], [] => by simp [Op.bytesLess]
  | [], b :: y => by simp [Op.bytesLess]
  | a :: x, [] => by simp [Op.bytesLess]
  | a :: x, b :: y => by
    have ih := bytesLess_total x y
    have hc : ((a :: x) == (b :: y)) = (a == b && x == y) := rfl
    simp only [Op.bytesLess, hc]
    by_cases h : a = b
    · subst h
      have : (a < a) = False := by simp
      simp only [this, decide_false, Bool.false_or, beq_self_eq_true, Bool.true_and]
      exact ih
    · have h1 : (a == b) = false := by simpa using h
      have h2 : (b == a) = false := by simpa using fun e => h e.symm
      simp only [h1, h2, Bool.false_and, Bool.or_false]
      by_cases h3 : a < b
      · have h4 : ¬ b < a := by
          rw [UInt8.lt_iff_toNat_lt] at h3 ⊢
          omega
        simp [h3, h4]
      · have h4 : b < a := by
          have : a.toNat ≠ b.toNat := fun e => h (UInt8.toNat_inj.1 e)
          rw [UInt8.lt_iff_toNat_lt] at h3 ⊢
          omega
        simp [h3, h4]
@[go_sem] theorem binOp_string_leq0 (t : TypeId) (a b : ByteArray) : binOp .leq t (.string a) (.string b) = pure (.bool !(Op.bytesLess b.toList a.toList)) := by
  rw [← bytesLess_total]
  simp [binOp, Op.stringOp]
@[go_sem] theorem binOp_string_gtr0 (t : TypeId) (a b : ByteArray) : binOp .gtr t (.string a) (.string b) = pure (.bool (Op.bytesLess b.toList a.toList)) := by
  have := bytesLess_total a.toList b.toList
  have h : Op.bytesLess b.toList a.toList = !(Op.bytesLess a.toList b.toList || a.toList == b.toList) := by rw [this]; simp
  rw [h]
  simp [binOp, Op.stringOp]
@[go_sem] theorem binOp_string_geq0 (t : TypeId) (a b : ByteArray) : binOp .geq t (.string a) (.string b) = pure (.bool !(Op.bytesLess a.toList b.toList)) := by simp [binOp, Op.stringOp]
/-- A call that told yes, ahead of a test of it. -/
theorem bind_yes {β : Type} {o : Option Bool} {a b : Option β} (h : o = some true) : (o.bind fun t => if t = true then a else b) = a := by subst h; rfl
theorem bind_no {β : Type} {o : Option Bool} {a b : Option β} (h : o = some false) : (o.bind fun t => if t = true then a else b) = b := by subst h; rfl
theorem bind_of {α β : Type} {o : Option α} {x : α} {f : α → Option β} (h : o = some x) : o.bind f = f x := by subst h; rfl
end Go
