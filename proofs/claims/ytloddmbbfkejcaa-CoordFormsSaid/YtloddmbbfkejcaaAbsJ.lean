/-
  Appends, rows written out, cuts, texts and bytes. They hold of any program.
-/
import Derived.Test.YtloddmbbfkejcaaAbsI
import Derived.Laws.IdiomStrings
import Derived.Laws.BytesArg
namespace Go.Proofs.Ytloddmbbfkejcaa.Abs

/-- What a row that is appended holds. -/
inductive SrcA (h : Heap) : AV → Nat → List AV → Prop
  | sl {sz ys} (hs : ys ≠ [] ∨ True) : SrcA h (.sl sz ys) sz ys
  | own {b st len sz zs} (hb : hget h b = some (.cells sz zs)) (hl : st + len ≤ zs.length) : SrcA h (.own b st len) sz ((zs.drop st).take len)
  | nils {sz} : SrcA h .nils sz []

/-- Such a row, in the world. -/
theorem SrcA.read {c : Ctx} {n : Nat} {tm : List (Nat × AV)} {h : Heap} {nx : Nat} {ρ : Rho} {S : Nat → Prop} {a : Act} {w : World} (hr : Rep c n ⟨tm, h, nx⟩ ρ S a w) {x : AV} {sz : Nat} {ys : List AV} (hs : SrcA h x sz ys) {v : Value} (hv : VR S w ρ x v) :
    ∃ (A : Option Addr) (cp : Nat) (news : List Value), v = .slice A ys.length cp ∧ ys.length ≤ cp ∧ news.length = ys.length * sz ∧ (∀ y ∈ ys, y.cells.length = sz) ∧ (ys ≠ [] → ∃ blk off, A = some ⟨blk, off, none⟩ ∧ ∀ (j : Nat) (u : Value), news[j]? = some u → w.cell? ⟨blk, off + j, none⟩ = some u) ∧
      (∀ u ∈ news, u.oneCell' = true) ∧ ∀ (j : Nat) (y : AV) (u : Value), (flat ys)[j]? = some y → news[j]? = some u → VR S w ρ y u := by
  cases hs with
  | sl _ =>
    cases hv with
    | sl0 => exact ⟨_, _, [], rfl, Nat.zero_le _, by simp, fun y hy => by simp at hy, fun e => absurd rfl e, fun u hu => by simp at hu, fun j y u hy hu => by simp at hu⟩
    | sl vs q1 q2 q3 q4 q5 q6 =>
      exact ⟨_, _, vs, rfl, q4, by rw [← q2, flat_len q3], q3, fun _ => ⟨_, _, rfl, fun j u hu => (q5 j u hu).1⟩, fun u hu => by
        obtain ⟨j, hj⟩ := List.getElem?_of_mem hu
        exact (q5 j u hj).2, fun j y u hy hu => (q6 j y u hy hu).mono (fun _ h => ⟨h, rfl⟩) (fun _ _ h => by cases h)⟩
  | nils => cases hv; exact ⟨_, _, [], rfl, Nat.le_refl _, by simp, fun y hy => by simp at hy, fun e => absurd rfl e, fun u hu => by simp at hu, fun j y u hy hu => by simp at hu⟩
  | @own b st len _ zs hb hl =>
    have hle : ((zs.drop st).take len).length = len := by rw [List.length_take, List.length_drop, Nat.min_eq_left (by omega)]
    cases hv with
    | own0 =>
      refine ⟨_, _, [], rfl, Nat.zero_le _, by simp, fun y hy => by simp at hy, fun e => absurd (by simp) e, fun u hu => by simp at hu, fun j y u hy hu => by simp at hu⟩
    | @own _ _ _ _ r cp q1 q2 q3 =>
      obtain ⟨g1, g2, k1, k2, k3, k4, cur, el, k5, k6, k7, k8⟩ := blk_of hr hb q1
      have hsz : ∀ y ∈ (zs.drop st).take len, y.cells.length = sz := fun y hy => k2 y (List.mem_of_mem_drop (List.mem_of_mem_take hy))
      have hm : (st + len) * sz ≤ cur.size := by rw [k6]; exact Nat.mul_le_mul_right _ (by omega)
      rw [Nat.add_mul] at hm
      refine ⟨_, cp, (cur.toList.drop (st * sz)).take (len * sz), by rw [hle], by rw [hle]; exact q2, by rw [hle, List.length_take, List.length_drop, Array.length_toList]; omega, hsz, fun _ => ⟨r.blk, st * r.sz, rfl, fun j u hu => ?_⟩, fun u hu => ?_, fun j y u hy hu => ?_⟩
      · have hj : j < len * sz := by
          rcases Nat.lt_or_ge j (len * sz) with hh | hh
          · exact hh
          · rw [List.getElem?_take, if_neg (by omega)] at hu; cases hu
        rw [List.getElem?_take_of_lt hj, List.getElem?_drop, Array.getElem?_toList] at hu
        rw [cell_of k5, k1]
        exact hu
      · obtain ⟨j, hj⟩ := List.getElem?_of_mem (List.mem_of_mem_drop (List.mem_of_mem_take hu))
        rw [Array.getElem?_toList] at hj
        exact k7 j u hj
      · have hj : j < len * sz := by
          rcases Nat.lt_or_ge j (len * sz) with hh | hh
          · exact hh
          · rw [List.getElem?_take, if_neg (by omega)] at hu; cases hu
        rw [List.getElem?_take_of_lt hj, List.getElem?_drop, Array.getElem?_toList] at hu
        rw [flat_get k2 st len j hl hj] at hy
        exact k8 _ y u hy hu

section
variable {P : Program}

/-- append, where what is appended is known by its cells. -/
theorem run_app_room {t tx ty e : TypeId} {dx : TypeDesc} {i : TypeInfo} (ht : P.underlying t = some (.slice e)) (htx : P.underlying tx = some dx) (hdx : (∃ e', dx = .slice e') ∨ dx = .string) (hi : P.info? e = some i)
    {w : World} {g sLen sCap : Nat} {cur : Array Value} {el : TypeId} (hg : w.heap[g]? = some (.cells cur el (0, 0))) {x : Value} {m : Nat} {news : List Value} (hl : (Builtin.lenOf x).run P w = .ok m w) (hf : (Builtin.firstCells i.size m x).run P w = .ok news.toArray w)
    (h1 : ∀ u ∈ news, u.oneCell' = true) (hroom : sLen + m ≤ sCap) (hfit : sLen * i.size + news.length ≤ cur.size) :
    (Builtin.append_ #[t, tx] ty #[.slice (some ⟨g, 0, none⟩) sLen sCap, x]).run P w = .ok (.slice (some ⟨g, 0, none⟩) (sLen + m) sCap) (w.setRow g (cur.toList.take (sLen * i.size) ++ news ++ cur.toList.drop (sLen * i.size + news.length)).toArray) := by
  have hst := run_storeCells_at P g (sLen * i.size) el news 0 cur w hg (by simpa using hfit) h1
  simp only [Nat.add_zero] at hst
  rcases hdx with ⟨e', rfl⟩ | rfl <;> simp [Builtin.append_, run_underlying ht, run_underlying htx, sizeOf, typeInfo, hi, hl, hf, hroom, Addr.add_lit, hst]

theorem run_app_none {t tx ty e : TypeId} {dx : TypeDesc} {i : TypeInfo} (ht : P.underlying t = some (.slice e)) (htx : P.underlying tx = some dx) (hdx : (∃ e', dx = .slice e') ∨ dx = .string) (hi : P.info? e = some i)
    {w : World} {A : Option Addr} {sLen sCap : Nat} {x : Value} (hl : (Builtin.lenOf x).run P w = .ok 0 w) (hf : (Builtin.firstCells i.size 0 x).run P w = .ok #[] w) (hc : sLen ≤ sCap) :
    (Builtin.append_ #[t, tx] ty #[.slice A sLen sCap, x]).run P w = .ok (.slice A sLen sCap) w := by
  rcases hdx with ⟨e', rfl⟩ | rfl <;> cases A <;> simp [Builtin.append_, run_underlying ht, run_underlying htx, sizeOf, typeInfo, hi, hl, hf, hc, storeCells]

theorem run_app_grow {t tx ty e : TypeId} {dx : TypeDesc} {i : TypeInfo} {z : Value} (ht : P.underlying t = some (.slice e)) (htx : P.underlying tx = some dx) (hdx : (∃ e', dx = .slice e') ∨ dx = .string) (hi : P.info? e = some i) (hz : i.zero = some z)
    {w : World} {A : Option Addr} {sLen sCap : Nat} {x : Value} {m : Nat} {olds news : List Value} (hl : (Builtin.lenOf x).run P w = .ok m w) (ho : (Builtin.firstCells i.size sLen (.slice A sLen sCap)).run P w.drew = .ok olds.toArray w.drew) (hf : (Builtin.firstCells i.size m x).run P w.drew = .ok news.toArray w.drew)
    (hg : sCap < sLen + m) (h63 : ((sLen + m : Nat) : Int) ≤ 9223372036854775807) (hfit : Builtin.nextslicecap (sLen + m) sCap * i.bytes ≤ 281474976710656) :
    (Builtin.append_ #[t, tx] ty #[.slice A sLen sCap, x]).run P w =
      .ok (.slice (some ⟨w.heap.size, 0, none⟩) (sLen + m) (grownCap w (sLen + m) sCap e)) (w.drew.alloc (.cells (olds.toArray ++ news.toArray ++ Builtin.zeroCells z.cells (grownCap w (sLen + m) sCap e - (sLen + m))) e)) := by
  have h1 : ¬ (sLen + m ≤ sCap) := by omega
  have h2 : ¬ (9223372036854775807 < ((sLen + m : Nat) : Int)) := by omega
  have h3 : ¬ (281474976710656 < Builtin.nextslicecap (sLen + m) sCap * i.bytes) := by omega
  have h2' : ¬ (9223372036854775807 < (sLen : Int) + (m : Int)) := by omega
  have hq : (Question.appendCap (sLen + m) sCap e).forced = false := rfl
  rcases hdx with ⟨e', rfl⟩ | rfl
  all_goals
    simp [Builtin.append_, run_underlying ht, run_underlying htx, sizeOf, typeInfo, zeroValue, hi, hz, hl, h1, h2', h3, Question.forced, hf, ho, newRow, grownCap]
    congr 2
    apply Array.ext'
    simp [List.append_assoc]
end
end Go.Proofs.Ytloddmbbfkejcaa.Abs
