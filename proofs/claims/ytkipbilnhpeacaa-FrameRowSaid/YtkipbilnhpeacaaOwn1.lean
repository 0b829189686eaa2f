/-
  Rows that were just laid down, read; small facts on the print's words. They hold of any program.
-/
import Derived.Test.YtkipbilnhpeacaaWWords
import Derived.Test.YtkipbilnhpeacaaWLast
import Derived.Test.YtkipbilnhpeacaaWMore
import Derived.BigQuiet
import Derived.RegionTactic
namespace Go.Proofs.YtkipbilnhpeacaaW.PrintWords
open Go.RowKit
/-- A row that was just laid down, whatever its mark, reads as what it was made of. -/
theorem C_new {α : Type} (enc : α → Value) (h1 : ∀ x, (enc x).oneCell' = true) (w : World) (xs : List α) (cs : Array Value) (e : Nat) (fr : Nat × Nat) (hcs : cs = (xs.map enc).toArray) (hm : xs.length ≤ 9223372036854775807) :
    Kd.C (Kd.scalar enc h1) (w.alloc (.cells cs e fr)) (some ⟨w.heap.size, 0, none⟩) xs.length xs := by
  subst hcs
  refine ⟨rfl, hm, fun _ => ⟨_, rfl, fun j p hj => ⟨[enc p], rfl, rfl, fun i u hu => ?_⟩⟩⟩
  have hb : (w.alloc (.cells (xs.map enc).toArray e fr)).heap[w.heap.size]? = some (.cells (xs.map enc).toArray e fr) := by
    show (w.heap.push _)[w.heap.size]? = _
    simp
  cases i with
  | succ i => simp at hu
  | zero =>
    have hu' : u = enc p := by simpa using hu.symm
    subst hu'
    have hz : (Kd.scalar enc h1).sz = 1 := rfl
    rw [hz, Nat.mul_one, Nat.add_zero, add_plain]
    unfold World.cell?
    simp only [hb]
    simp [hj]
theorem C_newS (w : World) (xs : List ByteArray) (cs : Array Value) (e : Nat) (fr : Nat × Nat) (hcs : cs = (xs.map Value.string).toArray) (hm : xs.length ≤ 9223372036854775807) :
    Kd.C Kd.string (w.alloc (.cells cs e fr)) (some ⟨w.heap.size, 0, none⟩) xs.length xs := C_new Value.string (fun _ => rfl) w xs cs e fr hcs hm
theorem C_newI (k : IntKind) (w : World) (xs : List Int) (cs : Array Value) (e : Nat) (fr : Nat × Nat) (hcs : cs = (xs.map (Value.int k)).toArray) (hm : xs.length ≤ 9223372036854775807) :
    Kd.C (Kd.int k) (w.alloc (.cells cs e fr)) (some ⟨w.heap.size, 0, none⟩) xs.length xs := C_new (Value.int k) (fun _ => rfl) w xs cs e fr hcs hm
theorem C_none {α : Type} (d : Kd α) (w : World) : d.C w none 0 [] := ⟨rfl, by decide, fun h => absurd h (Nat.lt_irrefl 0)⟩
/-- A row of a row of rows. -/
theorem at_rows {α : Type} {d : Kd α} {e n : Nat} {w : World} {A : Option Addr} {xs : List (List α)} (h : (Kd.slice e d).C w A n xs) (i : Int) (h0 : 0 ≤ i) (h1 : i < n) :
    ∃ ad A' c', A = some ad ∧ w.cell? (ad.add i.toNat) = some (.slice A' (xs.getD i.toNat []).length c') ∧ (xs.getD i.toNat []).length ≤ c' ∧ d.C w A' (xs.getD i.toNat []).length (xs.getD i.toNat []) := by
  obtain ⟨ad, c, ha, _, hK, hc0⟩ := Kd.C_get h ([] : List α) i h0 h1
  obtain ⟨A', c', rfl, hl, hC⟩ := hK
  have hq := hc0 0 _ rfl
  have hz : (Kd.slice e d).sz = 1 := rfl
  rw [hz, Nat.mul_one, Nat.add_zero] at hq
  exact ⟨ad, A', c', ha, hq, hl, hC⟩
theorem flatten_take_succ {α : Type} (l : List (List α)) (i : Nat) (h : i < l.length) : (l.take (i + 1)).flatten = (l.take i).flatten ++ l.getD i [] := by
  rw [List.take_add_one, List.flatten_append, List.getD_eq_getElem?_getD, List.getElem?_eq_getElem h]
  simp
theorem flatten_take_le {α : Type} (l : List (List α)) (i : Nat) : (l.take i).flatten.length ≤ l.flatten.length := by
  have h := congrArg (fun z => z.flatten.length) (List.take_append_drop i l)
  simp only [List.flatten_append, List.length_append] at h
  omega
/-- A row's length, in other words. -/
theorem C_len {α : Type} {d : Kd α} {w : World} {A : Option Addr} {m n : Nat} {xs : List α} (e : m = n) (h : d.C w A n xs) : d.C w A m xs := e ▸ h
/-- A row of one's own that may begin behind its block's head, as an element. -/
def sliceQ {α : Type} (e : Nat) (d : Kd α) : Kd (List α) where
  sz := 1
  E := e :: d.E
  K := fun w xs cs => ∃ A c, cs = [.slice A xs.length c] ∧ xs.length ≤ c ∧ d.C w A xs.length xs
  M := fun w base ok xs cs => ∃ v, cs = [v] ∧ d.Q e w base ok v xs
  K_len := by
    rintro w x cs ⟨A, c, rfl, _⟩
    rfl
  K_one := by
    rintro w x cs ⟨A, c, rfl, _⟩ u hu
    rw [List.mem_singleton.1 hu]
    rfl
  K_below := by
    rintro w w1 x cs hb ⟨A, c, rfl, hl, hr⟩
    exact ⟨A, c, rfl, hl, Kd.C_below hr hb⟩
  K_of_M := by
    rintro w base ok x cs ⟨v, rfl, h⟩
    obtain ⟨A, c, rfl, hl, hr⟩ := Kd.Q_reads h
    exact ⟨A, c, rfl, hl, hr⟩
  M_mono := by
    rintro w base ok ok' x cs hok ⟨v, rfl, h⟩
    exact ⟨v, rfl, Kd.Q_mono h hok⟩
  M_bound := by
    rintro w base ok x cs ⟨v, rfl, h⟩
    exact ⟨v, rfl, Kd.Q_bound h⟩
  M_move := by
    rintro w w1 base ok x cs hm ⟨v, rfl, h⟩
    exact ⟨v, rfl, Kd.Q_move h hm⟩
  M_lower := by
    rintro w base base' ok x cs hb ⟨v, rfl, h⟩
    exact ⟨v, rfl, Kd.Q_lower h hb⟩
end Go.Proofs.YtkipbilnhpeacaaW.PrintWords
