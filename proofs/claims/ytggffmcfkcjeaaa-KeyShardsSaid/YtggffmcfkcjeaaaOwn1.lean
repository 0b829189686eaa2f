/-
  Rows that were just laid down, read; small facts on the print's words. They hold of any program.
-/
import Derived.Test.YtggffmcfkcjeaaaWWords
import Derived.Test.YtggffmcfkcjeaaaWLast
import Derived.Test.YtggffmcfkcjeaaaWMore
namespace Go.Proofs.YtggffmcfkcjeaaaW.PrintWords
open Go.RowKit
/-- A row that was just laid down, whatever its mark, reads as what it was made of. -/
theorem C_new {α : Type} (enc : α → Value) (h1 : ∀ x, (enc x).oneCell' = true) (w : World) (xs : List α) (cs : Array Value) (e : Nat) (fr : Nat × Nat) (hcs : cs = (xs.map enc).toArray) (hm : xs.length ≤ 9223372036854775807) :
    Kd.C (Kd.scalar enc h1) (w.alloc (.cells cs e fr)) (some ⟨w.heap.size, 0, none⟩) xs.length xs := by
  subst hcs
  refine ⟨rfl, hm, fun _ => ⟨_, rfl, fun j p hj => ⟨[enc p], rfl, rfl, fun i u hu => ?_⟩⟩⟩
  have hb : (w.alloc (.cells (xs.map enc).toArray e fr)).heap[w.heap.size]? = some (.cells (xs.map enc).toArray e fr) := by
    show (w.heap.push _)[w.heap.size]? = _
    simp
  cases i with
  | succ i => simp at hu
  | zero =>
    have hu' : u = enc p := by simpa using hu.symm
    subst hu'
    have hz : (Kd.scalar enc h1).sz = 1 := rfl
    rw [hz, Nat.mul_one, Nat.add_zero, add_plain]
    unfold World.cell?
    simp only [hb]
    simp [hj]
theorem C_newS (w : World) (xs : List ByteArray) (cs : Array Value) (e : Nat) (fr : Nat × Nat) (hcs : cs = (xs.map Value.string).toArray) (hm : xs.length ≤ 9223372036854775807) :
    Kd.C Kd.string (w.alloc (.cells cs e fr)) (some ⟨w.heap.size, 0, none⟩) xs.length xs := C_new Value.string (fun _ => rfl) w xs cs e fr hcs hm
theorem C_newI (k : IntKind) (w : World) (xs : List Int) (cs : Array Value) (e : Nat) (fr : Nat × Nat) (hcs : cs = (xs.map (Value.int k)).toArray) (hm : xs.length ≤ 9223372036854775807) :
    Kd.C (Kd.int k) (w.alloc (.cells cs e fr)) (some ⟨w.heap.size, 0, none⟩) xs.length xs := C_new (Value.int k) (fun _ => rfl) w xs cs e fr hcs hm
theorem C_none {α : Type} (d : Kd α) (w : World) : d.C w none 0 [] := ⟨rfl, by decide, fun h => absurd h (Nat.lt_irrefl 0)⟩
end Go.Proofs.YtggffmcfkcjeaaaW.PrintWords
