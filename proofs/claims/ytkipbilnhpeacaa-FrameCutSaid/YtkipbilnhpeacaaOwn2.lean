/-
  From the form's reading of an argument (DataW.trod) to the print's (Kd.K): whole numbers, bools, strings, slices, structs, arrays, at every depth. It holds of any program.
-/
import Derived.Test.YtkipbilnhpeacaaOwn1
import Derived.ChangeArms
import Derived.OpenShut
import Derived.Deep.Slices
import Derived.ProofKit
namespace Go.Proofs.YtkipbilnhpeacaaW.PrintWords
open Go.RowKit Go.ChangeShapes Go.WideShapes
/-- Whatever reads as a datum of type t reads as something of kind k, and that is good. -/
def Rd {α : Type} (P : Program) (w : World) (t : TypeId) (k : Kd α) (g : α → Prop) : Prop :=
  ∀ (H : Type) (enc : TypeId × Value → H) (base : Nat) (spare : Nat → Bool) (held : Bool) (fuel : Nat) (cs : List Value) (x : DataW H × List MemPlace), DataW.trod enc P w base spare held fuel t cs = some x → ∃ a, k.K w a cs ∧ g a
section
variable {α β : Type} {P : Program} {w : World} {t e : TypeId} {k : Kd α} {g : α → Prop}
theorem rd_int {ik : IntKind} (ht : P.underlying t = some (.int ik)) : Rd P w t (Kd.int ik) (fun n => (Lit.int ik n).wf = true) := by
  intro H enc base spare held fuel cs x h
  obtain ⟨n, rfl, _, hw⟩ := DataW.trod_int ht h
  exact ⟨n, rfl, hw⟩
theorem rd_bool (ht : P.underlying t = some .bool) : Rd P w t Kd.bool (fun _ => True) := by
  intro H enc base spare held fuel cs x h
  obtain ⟨n, rfl, _⟩ := DataW.trod_bool ht h
  exact ⟨n, rfl, trivial⟩
theorem rd_string (ht : P.underlying t = some .string) : Rd P w t Kd.string (fun s => s.size ≤ maxLen) := by
  intro H enc base spare held fuel cs x h
  obtain ⟨s, rfl, _, hs⟩ := DataW.trod_string ht h
  exact ⟨s, rfl, hs⟩
theorem cells_get {base : Nat} {a : Addr} {n : Nat} {cs : List Value} (h : w.cells? base a n = some cs) : cs.length = n ∧ ∀ (i : Nat) (u : Value), cs[i]? = some u → w.cell? (a.add i) = some u := by
  unfold World.cells? at h
  split at h
  · have hl := mapM_some_length h
    rw [List.length_range] at hl
    refine ⟨hl.symm ▸ rfl, fun i u hu => ?_⟩
    have hi : i < n := by
      have := (List.getElem?_eq_some_iff.1 hu).1
      omega
    have := mapM_some_get h i i (by rw [List.getElem?_range hi])
    rw [this]
    exact hu
  · cases h
theorem rd_slice (ht : P.underlying t = some (.slice e)) (hsz : P.cellsOf e = k.sz) (h : Rd P w e k g) : Rd P w t (Kd.slice e k) (fun l => (∀ x ∈ l, g x) ∧ l.length ≤ maxLen) := by
  intro H enc base spare held fuel cs x hx
  rcases Deep.open_slice ht hx with ⟨rfl, _⟩ | ⟨a, len, cap, m, n, D, Pl, rfl, _, hl, hm, hme, _, hel⟩
  · exact ⟨[], ⟨none, 0, rfl, Nat.le_refl _, rfl, by simp, fun hp => absurd hp (Nat.lt_irrefl 0)⟩, fun x hx => (by cases hx), Nat.zero_le _⟩
  · have hlm : len ≤ m := by rw [hme]; split <;> omega
    have key : ∀ i, i < len → ∃ q : α × List Value, w.cells? base (a.add (i * P.cellsOf e)) (P.cellsOf e) = some q.2 ∧ k.K w q.1 q.2 ∧ g q.1 := by
      intro i hi
      obtain ⟨cs', hc, ht'⟩ := hel i (by omega)
      obtain ⟨y, hy, hg⟩ := h H enc base spare held n cs' _ ht'
      exact ⟨(y, cs'), hc, hy, hg⟩
    rcases Nat.eq_zero_or_pos len with h0 | h0
    · subst h0
      exact ⟨[], ⟨some a, cap, rfl, Nat.zero_le _, rfl, by simp, fun hp => absurd hp (Nat.lt_irrefl 0)⟩, fun x hx => (by cases hx), Nat.zero_le _⟩
    · obtain ⟨q0, _⟩ := key 0 h0
      haveI : Inhabited (α × List Value) := ⟨q0⟩
      obtain ⟨f, hf⟩ := Deep.choose_lt key
      refine ⟨(List.range len).map fun i => (f i).1, ⟨some a, cap, by simp, by simpa using hl, by simp, ?_, fun _ => ⟨a, rfl, fun j p hj => ?_⟩⟩, fun x hx => ?_, by simp; omega⟩
      · have : maxLen = 9223372036854775807 := rfl
        simp
        omega
      · have hjl : j < len := by
          have := (List.getElem?_eq_some_iff.1 hj).1
          simpa using this
        rw [List.getElem?_map, List.getElem?_range hjl] at hj
        have hp : (f j).1 = p := by simpa using hj
        subst hp
        obtain ⟨hc, hk, _⟩ := hf j hjl
        obtain ⟨hlen, hcell⟩ := cells_get hc
        refine ⟨(f j).2, k.K_len hk, hk, fun i u hu => ?_⟩
        have := hcell i u hu
        rw [Deep.add_add, hsz] at this
        exact this
      · obtain ⟨i, hi, rfl⟩ := List.mem_map.1 hx
        exact (hf i (List.mem_range.1 hi)).2.2
/-- Fields, one behind the other, from offset o on. -/
def RdF {α : Type} (P : Program) (w : World) (l : List (Nat × TypeId)) (o : Nat) (k : Kd α) (g : α → Prop) : Prop :=
  ∀ (H : Type) (enc : TypeId × Value → H) (base : Nat) (spare : Nat → Bool) (held : Bool) (fuel : Nat) (cs : List Value), cs.length = k.sz →
    (∀ p ∈ l, ∃ x, DataW.trod enc P w base spare held fuel p.2 ((cs.drop (p.1 - o)).take (P.cellsOf p.2)) = some x) → ∃ a, k.K w a cs ∧ g a
theorem rdF_last {o : Nat} (hsz : P.cellsOf t = k.sz) (h : Rd P w t k g) : RdF P w [(o, t)] o k g := by
  intro H enc base spare held fuel cs hl hf
  obtain ⟨x, hx⟩ := hf (o, t) (by simp)
  simp only [Nat.sub_self, List.drop_zero] at hx
  rw [List.take_of_length_le (by omega)] at hx
  exact h H enc base spare held fuel cs x hx
theorem rdF_cons {o : Nat} {l : List (Nat × TypeId)} {k' : Kd β} {g' : β → Prop} (hsz : P.cellsOf t = k.sz) (ho : l.all (fun p => o + k.sz ≤ p.1) = true) (h : Rd P w t k g) (h' : RdF P w l (o + k.sz) k' g') :
    RdF P w ((o, t) :: l) o (Kd.pair k k') (fun p => g p.1 ∧ g' p.2) := by
  intro H enc base spare held fuel cs hl hf
  have hl' : cs.length = k.sz + k'.sz := hl
  obtain ⟨x, hx⟩ := hf (o, t) (by simp)
  simp only [Nat.sub_self, List.drop_zero] at hx
  rw [hsz] at hx
  obtain ⟨a, ha, hga⟩ := h H enc base spare held fuel _ x hx
  obtain ⟨b, hb, hgb⟩ := h' H enc base spare held fuel (cs.drop k.sz) (by rw [List.length_drop]; omega) (fun p hp => by
    obtain ⟨y, hy⟩ := hf p (List.mem_cons_of_mem _ hp)
    refine ⟨y, ?_⟩
    have hp' : o + k.sz ≤ p.1 := by simpa using List.all_eq_true.1 ho p hp
    rw [List.drop_drop, show k.sz + (p.1 - (o + k.sz)) = p.1 - o from by omega]
    exact hy)
  exact ⟨(a, b), ⟨cs.take k.sz, cs.drop k.sz, (List.take_append_drop _ _).symm, ha, hb⟩, hga, hgb⟩
theorem rd_struct {fs : Array Field} {l : List (Nat × TypeId)} (ht : P.underlying t = some (.struct fs)) (hl : fs.toList.map (fun f => (f.offset, f.type)) = l) (hsz : P.cellsOf t = k.sz) (h : RdF P w l 0 k g) : Rd P w t k g := by
  intro H enc base spare held fuel cs x hx
  obtain ⟨xs, n, rfl, _, hcl, hxl, hel⟩ := DataW.trod_struct ht hx
  refine h H enc base spare held n cs (by omega) (fun p hp => ?_)
  rw [← hl] at hp
  obtain ⟨f, hf, rfl⟩ := List.mem_map.1 hp
  obtain ⟨i, hi, hfi⟩ := List.mem_iff_getElem.1 hf
  have hfi' : fs[i]? = some f := by
    rw [← hfi]
    simp at hi ⊢
  have := hel i f hfi'
  have hxi : i < xs.length := by
    rw [hxl]
    simpa using hi
  rw [List.getElem?_eq_getElem hxi] at this
  exact ⟨_, by simpa using this⟩
theorem rd_iso {f : β → α} {mkf : α → β} (hf : ∀ p, f (mkf p) = p) (h : Rd P w t k g) : Rd P w t (Kd.iso k f) (fun x => g (f x)) := by
  intro H enc base spare held fuel cs x hx
  obtain ⟨a, ha, hg⟩ := h H enc base spare held fuel cs x hx
  rw [← hf a] at ha hg
  exact ⟨mkf a, ha, hg⟩
theorem arr_eq {cs : Array α} {l : List α} (h : cs.toList = l) : cs = l.toArray := by
  subst h
  simp
/-- So many of one kind of one cell, side by side (an array's cells). -/
def arr {α : Type} (enc : α → Value) (h1 : ∀ x, (enc x).oneCell' = true) (n : Nat) : Kd (List α) where
  sz := n
  E := []
  K := fun _ xs cs => xs.length = n ∧ cs = xs.map enc
  M := fun _ _ _ xs cs => xs.length = n ∧ cs = xs.map enc
  K_len := fun h => by rw [h.2, List.length_map, h.1]
  K_one := fun h u hu => by
    rw [h.2] at hu
    obtain ⟨x, _, rfl⟩ := List.mem_map.1 hu
    exact h1 x
  K_below := fun _ h => h
  K_of_M := fun h => h
  M_mono := fun _ h => h
  M_bound := fun h => h
  M_move := fun _ h => h
  M_lower := fun _ h => h
theorem rd_array {enc : α → Value} {h1 : ∀ x, (enc x).oneCell' = true} {n : Nat} (ht : P.underlying t = some (.array n e)) (he : P.cellsOf e = 1) (hsz : P.cellsOf t = n) (h : Rd P w e (Kd.scalar enc h1) g) : Rd P w t (arr enc h1 n) (fun xs => ∀ x ∈ xs, g x) := by
  intro H enc' base spare held fuel cs x hx
  obtain ⟨xs, m, rfl, _, hcl, hxl, hel⟩ := DataW.trod_array ht hx
  have key : ∀ i, i < n → ∃ a, cs[i]? = some (enc a) ∧ g a := by
    intro i hi
    have h2 := hel i hi
    rw [List.getElem?_eq_getElem (by omega), he, Nat.mul_one] at h2
    obtain ⟨a, ha, hg⟩ := h H enc' base spare held m _ _ h2
    refine ⟨a, ?_, hg⟩
    have h3 : ((cs.drop i).take 1)[0]? = some (enc a) := by
      have : (cs.drop i).take 1 = [enc a] := ha
      rw [this]; rfl
    rw [List.getElem?_take, if_pos (by omega), List.getElem?_drop] at h3
    simpa using h3
  rcases Nat.eq_zero_or_pos n with h0 | h0
  · exact ⟨[], ⟨h0.symm, List.eq_nil_of_length_eq_zero (by omega)⟩, fun x hx => by cases hx⟩
  · obtain ⟨q0, _⟩ := key 0 h0
    haveI : Inhabited α := ⟨q0⟩
    obtain ⟨f, hf⟩ := Deep.choose_lt key
    refine ⟨(List.range n).map f, ⟨by simp, ?_⟩, fun x hx => ?_⟩
    · apply List.ext_getElem?
      intro i
      by_cases hi : i < n
      · rw [(hf i hi).1, List.getElem?_map, List.getElem?_map, List.getElem?_range hi]; rfl
      · rw [List.getElem?_eq_none (by omega), List.getElem?_eq_none (by simp; omega)]
    · obtain ⟨i, hi, rfl⟩ := List.mem_map.1 hx
      exact (hf i (List.mem_range.1 hi)).2
/-- An argument, read at the top. -/
theorem rd_arg {H : Type} {enc : TypeId × Value → H} {v : Value} {d : DataW H} {ps : List MemPlace} {base : Nat} {spare : Nat → Bool} {held : Bool} (h : Rd P w t k g) (hj : DataW.Trod enc P w base spare held t v d ps) : ∃ a, k.K w a v.cells.toList ∧ g a := by
  obtain ⟨fuel, hf⟩ := hj
  exact h H enc base spare held fuel _ _ hf
theorem rd_slice_arg {H : Type} {enc : TypeId × Value → H} {A : Option Addr} {n c : Nat} {d : DataW H} {ps : List MemPlace} {base : Nat} {spare : Nat → Bool} {held : Bool} {g : List α → Prop} (h : Rd P w t (Kd.slice e k) g) (hj : DataW.Trod enc P w base spare held t (.slice A n c) d ps) :
    ∃ l : List α, l.length = n ∧ n ≤ c ∧ k.C w A l.length l ∧ g l := by
  obtain ⟨l, ⟨A', c', hcs, hl, hC⟩, hg⟩ := rd_arg h hj
  have hcs' : [Value.slice A n c] = [Value.slice A' l.length c'] := hcs
  injection hcs' with h1 _
  injection h1 with h1 h2 h3
  subst h1 h3
  exact ⟨l, h2.symm, by omega, hC, hg⟩
theorem rd_agg_arg {H : Type} {enc : TypeId × Value → H} {cs : Array Value} {d : DataW H} {ps : List MemPlace} {base : Nat} {spare : Nat → Bool} {held : Bool} (h : Rd P w t k g) (hj : DataW.Trod enc P w base spare held t (.agg cs) d ps) : ∃ a, k.K w a cs.toList ∧ g a := rd_arg h hj
theorem okWide_array {n : Nat} {r : Reach} {base : Nat} {v : Value} (ht : P.underlying t = some (.array n e)) (h : Value.okWide P w r base t v) : ∃ cs, v = .agg cs := by
  unfold Value.okWide at h
  rw [ht] at h
  obtain ⟨cs, hv, _⟩ := h
  exact ⟨cs, hv⟩
end
end Go.Proofs.YtkipbilnhpeacaaW.PrintWords
