/-
  Stores and appends. They hold of any program.
-/
import Derived.Test.YtloddmbbfkejcaaAbsH
namespace Go.Proofs.Ytloddmbbfkejcaa.Abs

theorem flat_at {sz : Nat} {xs : List AV} (h : ∀ x ∈ xs, x.cells.length = sz) {q r : Nat} {y : AV} (hq : xs[q]? = some y) (hr : r < sz) : (flat xs)[q * sz + r]? = y.cells[r]? := by
  have hl : q < xs.length := (List.getElem?_eq_some_iff.1 hq).1
  have := flat_get h q 1 r (by omega) (by omega)
  rw [← this]
  have e : (xs.drop q).take 1 = [y] := by
    rw [List.getElem?_eq_some_iff] at hq
    obtain ⟨_, hq⟩ := hq
    rw [List.drop_eq_getElem_cons hl, hq, List.take_succ_cons, List.take_zero]
  rw [e]
  simp [flat]

theorem flat_split {sz : Nat} {xs : List AV} (h : ∀ x ∈ xs, x.cells.length = sz) {j : Nat} {x : AV} (hx : (flat xs)[j]? = some x) : 0 < sz ∧ ∃ y, xs[j / sz]? = some y ∧ y.cells[j % sz]? = some x ∧ j = j / sz * sz + j % sz := by
  have hj : j < xs.length * sz := by rw [← flat_len h]; exact (List.getElem?_eq_some_iff.1 hx).1
  have hs : 0 < sz := by
    rcases Nat.eq_zero_or_pos sz with rfl | h
    · simp at hj
    · exact h
  have hq : j / sz < xs.length := by rw [Nat.div_lt_iff_lt_mul hs]; exact hj
  have e : j = j / sz * sz + j % sz := by rw [Nat.mul_comm]; exact (Nat.div_add_mod j sz).symm
  have hy : xs[j / sz]? = some xs[j / sz] := List.getElem?_eq_getElem hq
  refine ⟨hs, _, hy, ?_, e⟩
  have := flat_at h hy (Nat.mod_lt j hs)
  rw [← this, ← e]
  exact hx

/-- A list with others written over a part of it, as it is written out. -/
def spl (l : List AV) : Nat → List AV → Option (List AV)
  | 0, [] => some l
  | 0, v :: vs => match l with
    | [] => none
    | _ :: t => match spl t 0 vs with
      | some r => some (v :: r)
      | none => none
  | o + 1, vs => match l with
    | [] => none
    | x :: t => match spl t o vs with
      | some r => some (x :: r)
      | none => none

theorem spl_spec : ∀ (l : List AV) (o : Nat) (vs cs : List AV), spl l o vs = some cs → cs.length = l.length ∧ o + vs.length ≤ l.length ∧ ∀ j, cs[j]? = if o ≤ j ∧ j < o + vs.length then vs[j - o]? else l[j]? := by
  intro l
  induction l with
  | nil =>
    intro o vs cs hp
    cases o with
    | zero =>
      cases vs with
      | nil => simp [spl] at hp; subst hp; exact ⟨rfl, Nat.le_refl _, fun j => by rw [if_neg (by simp)]⟩
      | cons v vs => simp [spl] at hp
    | succ o => cases vs <;> simp [spl] at hp
  | cons x t ih =>
    intro o vs cs hp
    cases o with
    | zero =>
      cases vs with
      | nil => simp [spl] at hp; subst hp; exact ⟨rfl, Nat.zero_le _, fun j => by rw [if_neg (by simp)]⟩
      | cons v vs =>
        simp only [spl] at hp
        cases hq : spl t 0 vs with
        | none => rw [hq] at hp; cases hp
        | some r =>
          rw [hq] at hp
          obtain rfl := Option.some.inj hp
          obtain ⟨h1, h2, h3⟩ := ih 0 vs r hq
          refine ⟨by simp [h1], by simp at h2 ⊢; omega, fun j => ?_⟩
          cases j with
          | zero => simp
          | succ j =>
            rw [List.getElem?_cons_succ, h3 j]
            simp only [List.length_cons, List.getElem?_cons_succ, Nat.sub_zero, Nat.zero_add]
            by_cases hj : j < vs.length
            · rw [if_pos ⟨Nat.zero_le _, hj⟩, if_pos ⟨Nat.zero_le _, by omega⟩]
            · rw [if_neg (fun e => hj e.2), if_neg (fun e => hj (by omega))]
    | succ o =>
      have hp' : (match spl t o vs with | some r => some (x :: r) | none => none) = some cs := by
        cases vs <;> exact hp
      cases hq : spl t o vs with
      | none => rw [hq] at hp'; cases hp'
      | some r =>
        rw [hq] at hp'
        obtain rfl := Option.some.inj hp'
        obtain ⟨h1, h2, h3⟩ := ih o vs r hq
        refine ⟨by simp [h1], by simp; omega, fun j => ?_⟩
        cases j with
        | zero => rw [if_neg (by omega)]; simp
        | succ j =>
          rw [List.getElem?_cons_succ, h3 j, List.getElem?_cons_succ]
          by_cases hj : o ≤ j ∧ j < o + vs.length
          · rw [if_pos hj, if_pos (by omega), show j + 1 - (o + 1) = j - o from by omega]
          · rw [if_neg hj, if_neg (by omega)]

def setS (l : List AV) : Nat → AV → Option (List AV)
  | 0, v => match l with
    | [] => none
    | _ :: t => some (v :: t)
  | i + 1, v => match l with
    | [] => none
    | x :: t => match setS t i v with
      | some r => some (x :: r)
      | none => none

theorem setS_spec : ∀ (l : List AV) (i : Nat) (v : AV) (l' : List AV), setS l i v = some l' → l.set i v = l' := by
  intro l
  induction l with
  | nil => intro i v l' hp; cases i <;> simp [setS] at hp
  | cons x t ih =>
    intro i v l' hp
    cases i with
    | zero => simp only [setS] at hp; obtain rfl := Option.some.inj hp; rfl
    | succ i =>
      simp only [setS] at hp
      cases hq : setS t i v with
      | none => rw [hq] at hp; cases hp
      | some r =>
        rw [hq] at hp
        obtain rfl := Option.some.inj hp
        rw [List.set_cons_succ, ih i v r hq]

def hsetS : Heap → Nat → Blk → Option Heap
  | [], _, _ => none
  | (i, x) :: t, j, b => if i = j then some ((j, b) :: t) else match hsetS t j b with
    | some r => some ((i, x) :: r)
    | none => none

theorem hsetS_spec : ∀ (h : Heap) (j : Nat) (b : Blk) (h' : Heap), hsetS h j b = some h' → hset h j b = h' := by
  intro h
  induction h with
  | nil => intro j b h' hp; cases hp
  | cons q t ih =>
    intro j b h' hp
    obtain ⟨i, x⟩ := q
    simp only [hsetS] at hp
    by_cases e : i = j
    · rw [if_pos e] at hp; obtain rfl := Option.some.inj hp; simp [hset, e]
    · rw [if_neg e] at hp
      cases hq : hsetS t j b with
      | none => rw [hq] at hp; cases hp
      | some r =>
        rw [hq] at hp
        obtain rfl := Option.some.inj hp
        simp [hset, e, ih j b r hq]

/-- A block of one's own is written. -/
theorem Rep.write {c : Ctx} {n : Nat} {tm : List (Nat × AV)} {h : Heap} {nx : Nat} {ρ : Rho} {S : Nat → Prop} {a : Act} {w : World} (hr : Rep c n ⟨tm, h, nx⟩ ρ S a w) {b : Nat} {B : Blk} {r : R} (hb : hget h b = some B) (hq : ρ b = some r) {cur cs : Array Value} {e : TypeId} (hcur : w.heap[r.blk]? = some (.cells cur e (0, 0)))
    (sz : Nat) (xs : List AV) (h1 : r.sz = sz) (h2 : ∀ x ∈ xs, x.cells.length = sz) (h3 : xs.length ≤ r.cap) (h4 : r.cap ≤ maxLen) (h5 : cs.size = r.cap * sz) (h6 : ∀ (i : Nat) (u : Value), cs[i]? = some u → u.oneCell' = true)
    (h7 : ∀ (i : Nat) (x : AV) (u : Value), (flat xs)[i]? = some x → cs[i]? = some u → VR S w ρ x u) : Rep c n ⟨tm, hset h b (.cells sz xs), nx⟩ ρ S a (w.setRow r.blk cs) := by
  obtain ⟨g1, g2, g3⟩ := blk_of hr hb hq
  have hS : ∀ k, S k → S k ∧ (w.setRow r.blk cs).heap[k]? = w.heap[k]? := fun k hk => ⟨hk, setRow_other w r.blk k cs (fun e => g1 (e ▸ hk))⟩
  have hsz : (w.setRow r.blk cs).heap.size = w.heap.size := by simp [World.setRow]
  refine hr.turn b r (.cells sz xs) ρ _ nx rfl rfl rfl (Nat.le_of_eq hsz.symm) (fun k _ hk => setRow_other w r.blk k cs hk) (fun _ _ => rfl) (Nat.le_refl _) hq ⟨h1, h2, h3, h4, cs, e, setRow_heap w r.blk cur cs e _ hcur, h5, h6, fun i x u hx hu => (h7 i x u hx hu).mono hS (fun _ _ h => h)⟩ (by rw [hsz]; exact g2) g1
    (hr.post.own b B r hb hq) (fun k X hk => ?_) (fun k X q hk hX hq' => ?_) hr.fresh (hr.dom b B hb)
  · rw [hget_set] at hk
    by_cases e : b = k
    · rw [if_pos e] at hk; exact .inl ⟨e.symm, (Option.some.inj hk).symm⟩
    · rw [if_neg e] at hk; exact .inr ⟨fun e' => e e'.symm, hk⟩
  · rw [hget_set, if_neg (fun e => hk e.symm)] at hX
    exact hr.sim.inj k b X B q r hX hb hq' hq hk

section
variable {P : Program} {tm : List (Nat × AV)} {h : Heap} {nx : Nat}

theorem store_gen {t : TypeId} {x y : Operand} {b i o m sz : Nat} {xs : List AV} {e e' v : AV} (hz : (P.info? t).map (·.size) = some m) (hx : oev tm x = .ptr b i o) (hy : oev tm y = v) (hb : hget h b = some (.cells sz xs)) (he : xs[i]? = some e) (hk : v.known = true) (hm : v.cells.length = m)
    (hfit : o + m ≤ sz) (he' : e'.cells.length = sz) (hc : ∀ j, e'.cells[j]? = if o ≤ j ∧ j < o + m then v.cells[j - o]? else e.cells[j]?) : OpOK P (.store t x y) ⟨tm, h, nx⟩ .top (hset h b (.cells sz (xs.set i e'))) nx := OpOK.of fun c n ρ S a w hr => by
  have hh := ev_vr hr hx
  have hv := ev_vr hr hy
  obtain ⟨v1, v2, v3⟩ := hv.cells hk
  obtain ⟨r, cur, el, f1, f2, f3, f4, f5, f6, f7, f8, f9⟩ := own_cells hr hb he
  obtain ⟨g1, g2, g3⟩ := blk_of hr hb f1
  obtain ⟨k1, k2, k3, k4, cur', el', k5, k6, k7, k8⟩ := g3
  obtain ⟨rfl, rfl⟩ : cur' = cur ∧ el' = el := by
    have := k5.symm.trans f4
    simp only [Option.some.injEq, Obj.cells.injEq] at this
    exact ⟨this.1, this.2.1⟩
  have hil : i < xs.length := (List.getElem?_eq_some_iff.1 he).1
  generalize hev : a.eval x = u at hh
  cases hh with
  | ptr q =>
  obtain rfl := Option.some.inj (f1.symm.trans q)
  have hvl : (a.eval y).cells.toList.length = m := by rw [Array.length_toList, v1, hm]
  have hst := run_storeCells_at P r.blk (i * r.sz + o) el' (a.eval y).cells.toList 0 cur' w f4 (by rw [hvl, f2]; omega) (fun u hu => by
    obtain ⟨j, hj⟩ := List.getElem?_of_mem hu
    rw [Array.getElem?_toList] at hj
    exact v2 j u hj)
  rw [Nat.add_zero, hvl, f2] at hst
  have hO : i * sz + o + m ≤ cur'.size := by omega
  generalize hcs : (cur'.toList.take (i * sz + o) ++ (a.eval y).cells.toList ++ cur'.toList.drop (i * sz + o + m)).toArray = cs at hst
  have hget : ∀ j, cs[j]? = if i * sz + o ≤ j ∧ j < i * sz + o + m then (a.eval y).cells[j - (i * sz + o)]? else cur'[j]? := by
    intro j
    rw [← hcs, List.getElem?_toArray, List.append_assoc]
    rcases Nat.lt_or_ge j (i * sz + o) with h1 | h1
    · rw [List.getElem?_append_left (by rw [List.length_take, Array.length_toList]; omega), List.getElem?_take_of_lt h1, Array.getElem?_toList, if_neg (by omega)]
    · rw [List.getElem?_append_right (by rw [List.length_take, Array.length_toList]; omega), List.length_take, Array.length_toList, Nat.min_eq_left (by omega)]
      rcases Nat.lt_or_ge j (i * sz + o + m) with h2 | h2
      · rw [List.getElem?_append_left (by rw [hvl]; omega), Array.getElem?_toList, if_pos ⟨h1, h2⟩]
      · rw [List.getElem?_append_right (by rw [hvl]; omega), hvl, List.getElem?_drop, Array.getElem?_toList, if_neg (by omega), show i * sz + o + m + (j - (i * sz + o) - m) = j from by omega]
  have hsz' : ∀ z ∈ xs.set i e', z.cells.length = sz := fun z hz => by
    rcases List.mem_or_eq_of_mem_set hz with h | rfl
    · exact k2 z h
    · exact he'
  have hrep := hr.write hb f1 (cs := cs) f4 sz (xs.set i e') f2 hsz' (by rw [List.length_set]; exact k3) k4 (by
      rw [← hcs, List.size_toArray, List.length_append, List.length_append, List.length_take, List.length_drop, Array.length_toList, hvl, ← f5]; omega) (fun j u hu => by
      rw [hget j] at hu
      split at hu
      · exact v2 _ u hu
      · exact f8 j u hu) (fun j z u hz hu => by
      obtain ⟨hs, y', q1, q2, q3⟩ := flat_split hsz' hz
      have hmod := Nat.mod_lt j hs
      rw [hget j] at hu
      by_cases hi : j / sz = i
      · rw [hi, List.getElem?_set_self hil] at q1
        obtain rfl := Option.some.inj q1
        rw [hc] at q2
        rw [hi] at q3
        by_cases hin : o ≤ j % sz ∧ j % sz < o + m
        · rw [if_pos hin] at q2
          rw [if_pos (by omega)] at hu
          exact v3 _ z u (by rw [show j - (i * sz + o) = j % sz - o from by omega]; exact q2) hu
        · rw [if_neg hin] at q2
          rw [if_neg (by omega)] at hu
          obtain ⟨x', u', w1, w2, w3⟩ := f9 (j % sz) hmod
          rw [← q3, hu] at w2
          obtain rfl := Option.some.inj w2
          rw [q2] at w1
          obtain rfl := Option.some.inj w1
          exact w3
      · rw [List.getElem?_set_ne (fun e => hi e.symm)] at q1
        have hne : ¬ (i * sz + o ≤ j ∧ j < i * sz + o + m) := fun hc' => hi (by
          have h1 : i * sz ≤ j := by omega
          have h2 : j < (i + 1) * sz := by rw [Nat.add_mul, Nat.one_mul]; omega
          have h3 : i ≤ j / sz := (Nat.le_div_iff_mul_le hs).2 h1
          have h4 : j / sz < i + 1 := (Nat.div_lt_iff_lt_mul hs).2 h2
          omega)
        rw [if_neg hne] at hu
        refine k8 j z u ?_ hu
        rw [q3, flat_at k2 q1 hmod]
        exact q2)
  refine ⟨.skip, undef, w.setRow r.blk cs, ρ, S, fun oo hoo => ?_, .inr ⟨rfl, rfl⟩, hrep, .top, fun _ _ h => h, fun k hk => ⟨hk, setRow_other w r.blk k cs (fun e => g1 (e ▸ hk))⟩⟩
  unfold execOp; rw [hoo]
  simp only [hev, Instr.storeAt, Instr.sureAddr, Sem.run_bind, Sem.run_pure, Result.andThen_ok, storeVar, run_sizeOf hz, ne_eq]
  rw [if_neg (by rw [v1, hm]; simp)]
  rw [f2, hst]
  rfl

/-- A field, a part of a struct, or the whole of it. -/
theorem op_storeA {t : TypeId} {x y : Operand} {b i o m sz : Nat} {xs xs' cs : List AV} {e v : AV} {h' : Heap} (hz : (P.info? t).map (·.size) = some m) (hx : oev tm x = .ptr b i o) (hy : oev tm y = v) (hb : hget h b = some (.cells sz xs)) (he : xs[i]? = some e) (hel : e.cells.length = sz) (hk : v.known = true) (hm : v.cells.length = m)
    (hs : spl e.cells o v.cells = some cs) (hx' : setS xs i (.agg cs) = some xs') (hh : hsetS h b (.cells sz xs') = some h') : OpOK P (.store t x y) ⟨tm, h, nx⟩ .top h' nx := by
  obtain ⟨s1, s2, s3⟩ := spl_spec _ _ _ _ hs
  have := store_gen (nx := nx) (e' := .agg cs) hz hx hy hb he hk hm (by omega) (by show cs.length = sz; omega) (fun j => by rw [← hm]; exact s3 j)
  rw [setS_spec _ _ _ _ hx', hsetS_spec _ _ _ _ hh] at this
  exact this
/-- The same in a row whose elements are not written out. -/
theorem op_storeAs {t : TypeId} {x y : Operand} {b i o m sz : Nat} {xs cs : List AV} {e v : AV} {h' : Heap} (hz : (P.info? t).map (·.size) = some m) (hx : oev tm x = .ptr b i o) (hy : oev tm y = v) (hb : hget h b = some (.cells sz xs)) (he : xs[i]? = some e) (hel : e.cells.length = sz) (hk : v.known = true) (hm : v.cells.length = m)
    (hs : spl e.cells o v.cells = some cs) (hh : hsetS h b (.cells sz (xs.set i (.agg cs))) = some h') : OpOK P (.store t x y) ⟨tm, h, nx⟩ .top h' nx := by
  obtain ⟨s1, s2, s3⟩ := spl_spec _ _ _ _ hs
  have := store_gen (nx := nx) (e' := .agg cs) hz hx hy hb he hk hm (by omega) (by show cs.length = sz; omega) (fun j => by rw [← hm]; exact s3 j)
  rw [hsetS_spec _ _ _ _ hh] at this
  exact this
/-- A variable of one cell. -/
theorem op_store1 {t : TypeId} {x y : Operand} {b i : Nat} {xs xs' : List AV} {e v : AV} {h' : Heap} (hz : (P.info? t).map (·.size) = some 1) (hx : oev tm x = .ptr b i 0) (hy : oev tm y = v) (hb : hget h b = some (.cells 1 xs)) (he : xs[i]? = some e) (hk : v.one = true)
    (hx' : setS xs i v = some xs') (hh : hsetS h b (.cells 1 xs') = some h') : OpOK P (.store t x y) ⟨tm, h, nx⟩ .top h' nx := by
  have hc : v.cells = [v] := by cases v <;> first | rfl | cases hk
  have hkn : v.known = true := by cases v <;> first | rfl | cases hk
  have hoth : ∀ j, 1 ≤ j → e.cells.length = 1 → e.cells[j]? = none := fun j hj hl => List.getElem?_eq_none (by omega)
  have := fun (hl : e.cells.length = 1) => store_gen (nx := nx) (e' := v) hz hx hy hb he hkn (by rw [hc]; rfl) (Nat.le_refl _) (by rw [hc]; rfl) (fun j => by
    by_cases hj : j < 1
    · rw [if_pos ⟨Nat.zero_le _, by omega⟩, Nat.sub_zero]
    · rw [if_neg (by omega), hc, hoth j (by omega) hl]; exact List.getElem?_eq_none (by simp; omega))
  rw [setS_spec _ _ _ _ hx', hsetS_spec _ _ _ _ hh] at this
  exact fun c n ρ S a w hr => by
    obtain ⟨r, cur, el, f1, f2, f3, _⟩ := own_cells hr hb he
    exact this f3 c n ρ S a w hr
theorem op_store1s {t : TypeId} {x y : Operand} {b i : Nat} {xs : List AV} {e v : AV} {h' : Heap} (hz : (P.info? t).map (·.size) = some 1) (hx : oev tm x = .ptr b i 0) (hy : oev tm y = v) (hb : hget h b = some (.cells 1 xs)) (he : xs[i]? = some e) (hk : v.one = true)
    (hh : hsetS h b (.cells 1 (xs.set i v)) = some h') : OpOK P (.store t x y) ⟨tm, h, nx⟩ .top h' nx := by
  have hc : v.cells = [v] := by cases v <;> first | rfl | cases hk
  have hkn : v.known = true := by cases v <;> first | rfl | cases hk
  have hoth : ∀ j, 1 ≤ j → e.cells.length = 1 → e.cells[j]? = none := fun j hj hl => List.getElem?_eq_none (by omega)
  have := fun (hl : e.cells.length = 1) => store_gen (nx := nx) (e' := v) hz hx hy hb he hkn (by rw [hc]; rfl) (Nat.le_refl _) (by rw [hc]; rfl) (fun j => by
    by_cases hj : j < 1
    · rw [if_pos ⟨Nat.zero_le _, by omega⟩, Nat.sub_zero]
    · rw [if_neg (by omega), hc, hoth j (by omega) hl]; exact List.getElem?_eq_none (by simp; omega))
  rw [hsetS_spec _ _ _ _ hh] at this
  exact fun c n ρ S a w hr => by
    obtain ⟨r, cur, el, f1, f2, f3, _⟩ := own_cells hr hb he
    exact this f3 c n ρ S a w hr

end
end Go.Proofs.Ytloddmbbfkejcaa.Abs
