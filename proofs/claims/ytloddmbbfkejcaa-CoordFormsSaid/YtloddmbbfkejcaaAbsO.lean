/-
  Regions whose order is open: the walk in the text's order, and what is looked at behind it. It holds of any program.
-/
import Derived.Test.YtloddmbbfkejcaaAbsN
namespace Go.Proofs.Ytloddmbbfkejcaa.Abs

/-- Does the guard let it run? -/
def Gd (its : List It) (g : Option (Nat × Bool)) (r : Bool) : Prop :=
  match g with
  | none => r = true
  | some (j, b) => ∃ q g, its[j]? = some q ∧ gv q.v = some g ∧ r = (g == some b)

inductive Col (P : Program) (st0 : St) : List Oper → List It → List (Heap × Nat) → List Nat → St → Prop
  | nil : Col P st0 [] [] [(st0.h, st0.nx)] [] st0
  | q {l its hs fr st o it} (k : Col P st0 l its hs fr st) (hg : Gd its o.guard true) (he : it.ef = false) (h : OpQ P o.op (sel it.ks st.tm) st.h it.v) : Col P st0 (l ++ [o]) (its ++ [it]) hs fr (putA o.dst it.v st)
  | f {l its hs fr st o it} (k : Col P st0 l its hs fr st) (hg : Gd its o.guard true) (he : it.ef = false) (h : ∀ H, OpQ P o.op (sel it.ks st.tm) H it.v) : Col P st0 (l ++ [o]) (its ++ [it]) hs (its.length :: fr) (putA o.dst it.v st)
  | e {l its hs fr st o it h' nx'} (k : Col P st0 l its hs fr st) (hg : Gd its o.guard true) (he : it.ef = true) (h : OpOK P o.op ⟨sel it.ks st.tm, st.h, st.nx⟩ it.v h' nx') : Col P st0 (l ++ [o]) (its ++ [it]) (hs ++ [(h', nx')]) fr (putA o.dst it.v ⟨st.tm, h', nx'⟩)
  | s {l its hs fr st o it} (k : Col P st0 l its hs fr st) (hg : Gd its o.guard false) (he : it.ef = false) (hv : it.v = .tup []) : Col P st0 (l ++ [o]) (its ++ [it]) hs (its.length :: fr) (putA o.dst (.tup []) st)

theorem Gd.more {its : List It} {g : Option (Nat × Bool)} {r : Bool} (h : Gd its g r) (it : It) : Gd (its ++ [it]) g r := by
  unfold Gd at *
  split
  · exact h
  · obtain ⟨q, b', h1, h2, h3⟩ := h
    exact ⟨q, b', by rw [List.getElem?_append_left (List.getElem?_eq_some_iff.1 h1).1]; exact h1, h2, h3⟩

theorem rank_more (its : List It) (it : It) {i : Nat} (h : i ≤ its.length) : rank (its ++ [it]) i = rank its i := by
  unfold rank
  rw [List.take_append_of_le_length h]

theorem rank_snoc (its : List It) (it : It) : rank (its ++ [it]) (its.length + 1) = rank its its.length + (if it.ef then 1 else 0) := by
  unfold rank
  rw [List.take_of_length_le (by simp), List.take_of_length_le (by simp), List.countP_append, List.countP_cons]
  simp

theorem rank_mono (its : List It) {i j : Nat} (h : i ≤ j) : rank its i ≤ rank its j := by
  unfold rank
  have e : its.take j = its.take i ++ (its.drop i).take (j - i) := by
    rw [← List.take_add, show i + (j - i) = j from by omega]
  rw [e, List.countP_append]
  omega

/-- What is known of operation i. -/
def Known (P : Program) (its : List It) (hs : List (Heap × Nat)) (free : Bool) (i : Nat) (o : Oper) (it : It) (tm : List (Nat × AV)) : Prop :=
  ∃ r, Gd its o.guard r ∧ (r = true → (∃ H X, hs[rank its i]? = some (H, X) ∧ Run P o.op it.ef it.v (sel it.ks tm) (rank its i) hs H X) ∧ (free = true → it.ef = false ∧ ∀ H, OpQ P o.op (sel it.ks tm) H it.v)) ∧ (r = false → it.v = .tup [] ∧ it.ef = false)

structure Facts (P : Program) (st0 : St) (l : List Oper) (its : List It) (hs : List (Heap × Nat)) (fr : List Nat) (st : St) : Prop where
  len : l.length = its.length
  hlen : hs.length = rank its its.length + 1
  last : hs[rank its its.length]? = some (st.h, st.nx)
  zero : hs[0]? = some (st0.h, st0.nx)
  known : ∀ (i : Nat) (o : Oper) (it : It), l[i]? = some o → its[i]? = some it → ∃ tm, Known P its hs (fr.contains i) i o it tm ∧ ∀ k, (∀ (j : Nat) (o' : Oper), i ≤ j → l[j]? = some o' → o'.dst ≠ some k) → tget st.tm k = tget tm k
  val : ∀ (i : Nat) (o : Oper) (it : It) (x : Nat), l[i]? = some o → its[i]? = some it → o.dst = some x → (∀ (j : Nat) (o' : Oper), i < j → l[j]? = some o' → o'.dst ≠ some x) → tget st.tm x = it.v
  old : ∀ x, (∀ (i : Nat) (o : Oper), l[i]? = some o → o.dst ≠ some x) → tget st.tm x = tget st0.tm x
  frs : ∀ i ∈ fr, i < its.length

theorem tget_putA (d : Option Nat) (v : AV) (st : St) (x : Nat) : tget (putA d v st).tm x = if d = some x then v else tget st.tm x := by
  cases d with
  | none => simp [putA]
  | some d =>
    simp only [putA, tget, Option.some.injEq]

theorem putA_h (d : Option Nat) (v : AV) (st : St) : (putA d v st).h = st.h := by cases d <;> rfl
theorem putA_nx (d : Option Nat) (v : AV) (st : St) : (putA d v st).nx = st.nx := by cases d <;> rfl

theorem snoc_get {α : Type} {l : List α} {o x : α} {i : Nat} (h : (l ++ [o])[i]? = some x) : (i < l.length ∧ l[i]? = some x) ∨ (i = l.length ∧ x = o) := by
  rcases Nat.lt_trichotomy i l.length with h1 | h1 | h1
  · rw [List.getElem?_append_left h1] at h; exact .inl ⟨h1, h⟩
  · subst h1; simp at h; exact .inr ⟨rfl, h.symm⟩
  · rw [List.getElem?_eq_none (by simp; omega)] at h; cases h

theorem Run.more {P : Program} {op : Op} {ef : Bool} {v : AV} {tm : List (Nat × AV)} {s : Nat} {hs : List (Heap × Nat)} {H : Heap} {X : Nat} (h : Run P op ef v tm s hs H X) (hs' : List (Heap × Nat)) : Run P op ef v tm s (hs ++ hs') H X := by
  unfold Run at *
  split
  · rename_i he
    rw [if_pos he] at h
    obtain ⟨H', X', h1, h2⟩ := h
    exact ⟨H', X', by rw [List.getElem?_append_left (List.getElem?_eq_some_iff.1 h1).1]; exact h1, h2⟩
  · rename_i he
    rw [if_neg he] at h
    exact h

theorem Known.more {P : Program} {its : List It} {hs : List (Heap × Nat)} {free : Bool} {i : Nat} {o : Oper} {it : It} {tm : List (Nat × AV)} (h : Known P its hs free i o it tm) (jt : It) (hs' : List (Heap × Nat)) (hi : i ≤ its.length) : Known P (its ++ [jt]) (hs ++ hs') free i o it tm := by
  obtain ⟨r, h1, h2, h3⟩ := h
  refine ⟨r, h1.more jt, fun hr => ?_, h3⟩
  obtain ⟨⟨H, X, h4, h5⟩, h6⟩ := h2 hr
  rw [rank_more its jt hi]
  exact ⟨⟨H, X, by rw [List.getElem?_append_left (List.getElem?_eq_some_iff.1 h4).1]; exact h4, h5.more hs'⟩, h6⟩

theorem Facts.snoc {P : Program} {st0 : St} {l : List Oper} {its : List It} {hs hs' : List (Heap × Nat)} {fr fr' : List Nat} {st st' : St} (h : Facts P st0 l its hs fr st) (o : Oper) (it : It) (htm : st'.tm = (putA o.dst it.v st).tm)
    (hlen : hs'.length = if it.ef then 1 else 0) (hlast : (hs ++ hs')[rank its its.length + (if it.ef then 1 else 0)]? = some (st'.h, st'.nx)) (hfr : ∀ i, i < its.length → fr'.contains i = fr.contains i) (hfl : ∀ i ∈ fr', i < its.length + 1)
    (hk : Known P (its ++ [it]) (hs ++ hs') (fr'.contains its.length) its.length o it st.tm) : Facts P st0 (l ++ [o]) (its ++ [it]) (hs ++ hs') fr' st' := by
  have hl := h.len
  refine ⟨by simp [hl], by simp only [List.length_append, List.length_cons, List.length_nil, Nat.zero_add]; rw [rank_snoc, h.hlen, hlen]; omega, by simp only [List.length_append, List.length_cons, List.length_nil, Nat.zero_add]; rw [rank_snoc]; exact hlast, ?_, ?_, ?_, ?_, fun i hi => by simpa using hfl i hi⟩
  · rw [List.getElem?_append_left (by rw [h.hlen]; omega)]; exact h.zero
  · intro i o' it' ho hit
    rcases snoc_get ho with ⟨h1, h2⟩ | ⟨h1, h2⟩
    · rcases snoc_get hit with ⟨h3, h4⟩ | ⟨h3, h4⟩
      · obtain ⟨tm, k1, k2⟩ := h.known i o' it' h2 h4
        refine ⟨tm, by rw [hfr i h3]; exact k1.more it hs' (by omega), fun k hk => ?_⟩
        rw [htm, tget_putA, if_neg (hk l.length o (by omega) (by simp))]
        exact k2 k (fun j o'' hij hj => hk j o'' hij (by rw [List.getElem?_append_left (List.getElem?_eq_some_iff.1 hj).1]; exact hj))
      · omega
    · rcases snoc_get hit with ⟨h3, h4⟩ | ⟨h3, h4⟩
      · omega
      · subst h2; subst h4; subst h3
        refine ⟨st.tm, hk, fun k hk => ?_⟩
        rw [htm, tget_putA, if_neg (hk l.length o' (by omega) (by simp))]
  · intro i o' it' x ho hit hx hno
    rw [htm, tget_putA]
    rcases snoc_get ho with ⟨h1, h2⟩ | ⟨h1, h2⟩
    · rcases snoc_get hit with ⟨h3, h4⟩ | ⟨h3, h4⟩
      · rw [if_neg (hno l.length o h1 (by simp))]
        exact h.val i o' it' x h2 h4 hx (fun j o'' hij hj => hno j o'' hij (by rw [List.getElem?_append_left (List.getElem?_eq_some_iff.1 hj).1]; exact hj))
      · omega
    · rcases snoc_get hit with ⟨h3, h4⟩ | ⟨h3, h4⟩
      · omega
      · subst h2; subst h4
        rw [if_pos hx]
  · intro x hno
    rw [htm, tget_putA, if_neg (hno l.length o (by simp))]
    exact h.old x (fun i o' hi => hno i o' (by rw [List.getElem?_append_left (List.getElem?_eq_some_iff.1 hi).1]; exact hi))

theorem Col.facts {P : Program} {st0 : St} {l : List Oper} {its : List It} {hs : List (Heap × Nat)} {fr : List Nat} {st : St} (h : Col P st0 l its hs fr st) : Facts P st0 l its hs fr st := by
  have cons_c : ∀ (fr : List Nat) (n i : Nat), i < n → (n :: fr).contains i = fr.contains i := fun fr n i hi => by
    rw [List.contains_cons]
    have : (i == n) = false := by simp; omega
    rw [this]; rfl
  induction h with
  | nil => exact ⟨rfl, rfl, rfl, rfl, fun i o it h => by simp at h, fun i o it x h => by simp at h, fun _ _ => rfl, fun i hi => by cases hi⟩
  | @q l its hs fr st o it k hg he h ih =>
    have := ih.snoc o it (st' := putA o.dst it.v st) (hs' := []) (fr' := fr) rfl (by rw [he]; rfl) (by rw [he, putA_h, putA_nx]; simpa using ih.last) (fun _ _ => rfl) (fun i hi => Nat.lt_succ_of_lt (ih.frs i hi)) ⟨true, hg.more it, fun _ => ⟨⟨st.h, st.nx, by
      rw [rank_more its it (Nat.le_refl _), List.append_nil]; exact ih.last, by unfold Run; rw [he]; exact h⟩, fun hc => by
        have := ih.frs its.length (by simpa using hc)
        omega⟩, fun e => by cases e⟩
    rwa [List.append_nil] at this
  | @f l its hs fr st o it k hg he h ih =>
    have := ih.snoc o it (st' := putA o.dst it.v st) (hs' := []) (fr' := its.length :: fr) rfl (by rw [he]; rfl) (by rw [he, putA_h, putA_nx]; simpa using ih.last) (fun i hi => cons_c fr _ i hi) (fun i hi => by
      rcases List.mem_cons.1 hi with rfl | hi
      · omega
      · have := ih.frs i hi; omega) ⟨true, hg.more it, fun _ => ⟨⟨st.h, st.nx, by
      rw [rank_more its it (Nat.le_refl _), List.append_nil]; exact ih.last, by unfold Run; rw [he]; exact h _⟩, fun _ => ⟨he, h⟩⟩, fun e => by cases e⟩
    rwa [List.append_nil] at this
  | @e l its hs fr st o it h' nx' k hg he h ih =>
    exact ih.snoc o it (st' := putA o.dst it.v ⟨st.tm, h', nx'⟩) (hs' := [(h', nx')]) (fr' := fr) (by cases o.dst <;> rfl) (by rw [he]; rfl) (by rw [he, putA_h, putA_nx, List.getElem?_append_right (by rw [ih.hlen]; exact Nat.le_refl _), ih.hlen]; simp) (fun _ _ => rfl) (fun i hi => Nat.lt_succ_of_lt (ih.frs i hi))
      ⟨true, hg.more it, fun _ => ⟨⟨st.h, st.nx, by
        rw [rank_more its it (Nat.le_refl _), List.getElem?_append_left (by rw [ih.hlen]; omega)]; exact ih.last, by
          unfold Run
          rw [he, rank_more its it (Nat.le_refl _)]
          exact ⟨h', nx', by rw [List.getElem?_append_right (by rw [ih.hlen]; exact Nat.le_refl _), ih.hlen]; simp, h⟩⟩, fun hc => by
        have := ih.frs its.length (by simpa using hc)
        omega⟩, fun e => by cases e⟩
  | @s l its hs fr st o it k hg he hv ih =>
    have := ih.snoc o it (st' := putA o.dst (.tup []) st) (hs' := []) (fr' := its.length :: fr) (by rw [hv]) (by rw [he]; rfl) (by rw [he, putA_h, putA_nx]; simpa using ih.last) (fun i hi => cons_c fr _ i hi) (fun i hi => by
      rcases List.mem_cons.1 hi with rfl | hi
      · omega
      · have := ih.frs i hi; omega) ⟨false, hg.more it, (fun e => by cases e), fun _ => ⟨hv, he⟩⟩
    rwa [List.append_nil] at this

def dstIs (o : Oper) (k : Nat) : Bool := match o.dst with | some d => Nat.beq d k | none => false
theorem dstIs_iff {o : Oper} {k : Nat} : dstIs o k = true ↔ o.dst = some k := by
  unfold dstIs
  cases o.dst with
  | none => simp
  | some d => simp

def chk1 (l : List Oper) (its : List It) (m i : Nat) (o : Oper) (it : It) : Bool :=
  (edges o).all (fun p => Nat.blt p i) &&
  (match o.dst with | none => true | some d => (l.take i).all fun o' => !dstIs o' d) &&
  (Nat.beq it.lo 0 || (edges o).any fun p => match its[p]? with | some q => (q.ef && Nat.beq (rank its p + 1) it.lo) || Nat.ble it.lo q.lo | none => false) &&
  (if it.ef then Nat.beq it.lo (rank its i) && Nat.beq it.hi (rank its i) && Nat.blt (rank its i) m else Nat.ble m it.hi || (List.range l.length).any fun j => match l[j]?, its[j]? with
    | some o', some q => (edges o').contains i && ((q.ef && Nat.ble (rank its j) it.hi) || Nat.ble q.hi it.hi)
    | _, _ => false) &&
  (it.ks.all fun k => ((edges o).any fun p => match l[p]? with | some o' => dstIs o' k | none => false) || l.all fun o' => !dstIs o' k) &&
  (match o.guard with | none => true | some (j, _) => (edges o).contains j && match l[j]? with | some o' => o'.dst.isSome | none => false)

def chk (l : List Oper) (its : List It) (m : Nat) : Bool :=
  Nat.beq l.length its.length && (List.range l.length).all fun i => match l[i]?, its[i]? with
    | some o, some it => chk1 l its m i o it
    | _, _ => true

theorem chk_plan {l : List Oper} {its : List It} {m : Nat} (h : chk l its m = true) : Plan l its m := by
  unfold chk at h
  rw [Bool.and_eq_true] at h
  obtain ⟨h0, h⟩ := h
  have hlen : l.length = its.length := Nat.eq_of_beq_eq_true h0
  rw [List.all_eq_true] at h
  have one : ∀ (i : Nat) (o : Oper) (it : It), l[i]? = some o → its[i]? = some it → chk1 l its m i o it = true := fun i o it ho hi => by
    have := h i (List.mem_range.2 (List.getElem?_eq_some_iff.1 ho).1)
    rw [ho, hi] at this
    exact this
  have it_of : ∀ (i : Nat) (o : Oper), l[i]? = some o → ∃ it, its[i]? = some it := fun i o ho => ⟨_, List.getElem?_eq_getElem (by rw [← hlen]; exact (List.getElem?_eq_some_iff.1 ho).1)⟩
  have o_of : ∀ (i : Nat) (it : It), its[i]? = some it → ∃ o, l[i]? = some o := fun i it ho => ⟨_, List.getElem?_eq_getElem (by rw [hlen]; exact (List.getElem?_eq_some_iff.1 ho).1)⟩
  have parts : ∀ (i : Nat) (o : Oper) (it : It), l[i]? = some o → its[i]? = some it → _ := fun i o it ho hi => by
    have := one i o it ho hi
    unfold chk1 at this
    simp only [Bool.and_eq_true] at this
    exact this
  have dist : ∀ (i j : Nat) (o o' : Oper) (d : Nat), j < i → l[i]? = some o → l[j]? = some o' → o.dst = some d → o'.dst = some d → False := fun i j o o' d hij ho ho' hd hd' => by
    obtain ⟨it, hit⟩ := it_of i o ho
    obtain ⟨⟨⟨⟨⟨_, h2⟩, _⟩, _⟩, _⟩, _⟩ := parts i o it ho hit
    rw [hd] at h2
    simp only [] at h2
    rw [List.all_eq_true] at h2
    have hm : o' ∈ l.take i := List.mem_of_getElem? (i := j) (by rw [List.getElem?_take_of_lt hij]; exact ho')
    have := h2 o' hm
    rw [dstIs_iff.2 hd'] at this
    cases this
  refine ⟨hlen, fun i o ho p hp => ?_, fun i j o o' d ho ho' hd hd' => ?_, fun i o it ho hit => ?_, fun i it hit he => ?_, fun i it hit => ?_, fun i o it ho hit k hk => ?_, fun i o j b ho hg => ?_⟩
  · obtain ⟨it, hit⟩ := it_of i o ho
    obtain ⟨⟨⟨⟨⟨h1, _⟩, _⟩, _⟩, _⟩, _⟩ := parts i o it ho hit
    rw [List.all_eq_true] at h1
    have := h1 p hp
    simpa using this
  · rcases Nat.lt_trichotomy i j with h1 | h1 | h1
    · exact (dist j i o' o d h1 ho' ho hd' hd).elim
    · exact h1
    · exact (dist i j o o' d h1 ho ho' hd hd').elim
  · obtain ⟨⟨⟨⟨⟨_, _⟩, h3⟩, _⟩, _⟩, _⟩ := parts i o it ho hit
    rw [Bool.or_eq_true] at h3
    rcases h3 with h3 | h3
    · exact .inl (Nat.eq_of_beq_eq_true h3)
    · rw [List.any_eq_true] at h3
      obtain ⟨p, hp, h3⟩ := h3
      refine .inr ⟨p, hp, ?_⟩
      cases hq : its[p]? with
      | none => rw [hq] at h3; cases h3
      | some q =>
        rw [hq] at h3
        simp only [Bool.or_eq_true, Bool.and_eq_true] at h3
        exact ⟨q, rfl, h3.imp (fun h => ⟨h.1, Nat.eq_of_beq_eq_true h.2⟩) Nat.le_of_ble_eq_true⟩
  · obtain ⟨o, ho⟩ := o_of i it hit
    obtain ⟨⟨⟨⟨⟨_, _⟩, _⟩, h4⟩, _⟩, _⟩ := parts i o it ho hit
    rw [if_pos he] at h4
    simp only [Bool.and_eq_true] at h4
    exact ⟨Nat.eq_of_beq_eq_true h4.1.1, Nat.eq_of_beq_eq_true h4.1.2, by simpa using h4.2⟩
  · obtain ⟨o, ho⟩ := o_of i it hit
    obtain ⟨⟨⟨⟨⟨_, _⟩, _⟩, h4⟩, _⟩, _⟩ := parts i o it ho hit
    by_cases he : it.ef = true
    · exact .inr (.inl he)
    · rw [if_neg he] at h4
      rw [Bool.or_eq_true] at h4
      rcases h4 with h4 | h4
      · exact .inl (Nat.le_of_ble_eq_true h4)
      · rw [List.any_eq_true] at h4
        obtain ⟨j, hj, h4⟩ := h4
        refine .inr (.inr ?_)
        cases ho' : l[j]? with
        | none => rw [ho'] at h4; cases h4
        | some o' =>
          obtain ⟨q, hq⟩ := it_of j o' ho'
          rw [ho', hq] at h4
          simp only [Bool.and_eq_true, Bool.or_eq_true] at h4
          exact ⟨j, o', q, ho', hq, by simpa using h4.1, h4.2.imp (fun h => ⟨h.1, Nat.le_of_ble_eq_true h.2⟩) Nat.le_of_ble_eq_true⟩
  · obtain ⟨⟨⟨⟨⟨_, _⟩, _⟩, _⟩, h5⟩, _⟩ := parts i o it ho hit
    rw [List.all_eq_true] at h5
    have h5 := h5 k hk
    rw [Bool.or_eq_true] at h5
    rcases h5 with h5 | h5
    · rw [List.any_eq_true] at h5
      obtain ⟨p, hp, h5⟩ := h5
      cases ho' : l[p]? with
      | none => rw [ho'] at h5; cases h5
      | some o' => rw [ho'] at h5; exact .inl ⟨p, hp, o', ho', dstIs_iff.1 h5⟩
    · rw [List.all_eq_true] at h5
      refine .inr fun j o' hj hd => ?_
      have := h5 o' (List.mem_of_getElem? hj)
      rw [dstIs_iff.2 hd] at this
      cases this
  · obtain ⟨it, hit⟩ := it_of i o ho
    obtain ⟨_, h6⟩ := parts i o it ho hit
    rw [hg] at h6
    simp only [Bool.and_eq_true] at h6
    refine ⟨by simpa using h6.1, ?_⟩
    cases ho' : l[j]? with
    | none => rw [ho'] at h6; cases h6.2
    | some o' =>
      rw [ho'] at h6
      obtain ⟨d, hd⟩ := Option.isSome_iff_exists.1 h6.2
      exact ⟨o', d, rfl, hd⟩

/-- Where each operation may stand that is not free: there it is told what it does. -/
def more (its : List It) (fr : List Nat) (ps : List (Nat × Nat)) (m : Nat) : Bool :=
  (List.range its.length).all fun i => match its[i]? with
    | some it => it.ef || fr.contains i || (List.range (m + 1)).all fun s => Nat.blt s it.lo || Nat.blt it.hi s || Nat.beq s (rank its i) || ps.any fun p => Nat.beq p.1 i && Nat.beq p.2 s
    | none => true

def At (P : Program) (l : List Oper) (its : List It) (hs : List (Heap × Nat)) (E : List (Nat × AV)) (i s : Nat) : Prop :=
  match l[i]?, its[i]?, hs[s]? with
  | some o, some it, some (H, _) => ∃ tm1, selS E it.ks = some tm1 ∧ OpQ P o.op tm1 H it.v
  | _, _, _ => True

def Ats (P : Program) (l : List Oper) (its : List It) (hs : List (Heap × Nat)) (E : List (Nat × AV)) : List (Nat × Nat) → Prop
  | [] => True
  | p :: ps => At P l its hs E p.1 p.2 ∧ Ats P l its hs E ps

theorem Ats.get {P : Program} {l : List Oper} {its : List It} {hs : List (Heap × Nat)} {E : List (Nat × AV)} : ∀ {ps : List (Nat × Nat)}, Ats P l its hs E ps → ∀ p ∈ ps, At P l its hs E p.1 p.2 := by
  intro ps
  induction ps with
  | nil => intro _ p hp; cases hp
  | cons q ps ih =>
    intro h p hp
    rcases List.mem_cons.1 hp with rfl | hp
    · exact h.1
    · exact ih h.2 p hp

theorem selS_spec {tm : List (Nat × AV)} : ∀ (ks : List Nat) (tm1 : List (Nat × AV)), selS tm ks = some tm1 → tm1 = sel ks tm := by
  intro ks
  induction ks with
  | nil => intro tm1 h; exact (Option.some.inj h).symm
  | cons k ks ih =>
    intro tm1 h
    simp only [selS] at h
    split at h
    · rename_i v r h1 h2
      rw [← Option.some.inj h, ih r h2]
      simp only [sel, List.map_cons, tgetS_spec _ _ _ h1]
    · cases h

theorem sel_congr {ks : List Nat} {tm tm' : List (Nat × AV)} (h : ∀ k ∈ ks, tget tm k = tget tm' k) : sel ks tm = sel ks tm' := by
  unfold sel
  exact List.map_congr_left fun k hk => by rw [h k hk]

section
variable {P : Program} {c : Ctx} {n : Nat} {Q : Exit → St → Prop} {id : Nat}

theorem draw_end {l : List Oper} {its : List It} {hs : List (Heap × Nat)} {fr : List Nat} {st0 st : St} (ps : List (Nat × Nat)) (hm : P.follows .mixedOrders = true) (hcol : Col P st0 l its hs fr st) (hchk : chk l its (rank its its.length) = true)
    (hdn : (l.all fun o => match o.dst with | some d => Nat.blt d n | none => true) = true) (hmore : more its fr ps (rank its its.length) = true) (hx : Ats P l its hs st.tm ps) (hQ : Q .normal st) : AW P c n (.region id l.toArray true) Q st0 := by
  intro ρ S a w hr
  have hp := chk_plan hchk
  have hf := hcol.facts
  have hE : ∀ x, tget st.tm x = ent l its st0.tm x := fun x => by
    obtain ⟨g1, g2⟩ := ent_spec l its st0.tm x hp.len hp.dist
    by_cases hx : ∃ (i : Nat) (o : Oper), l[i]? = some o ∧ o.dst = some x
    · obtain ⟨i, o, ho, hx⟩ := hx
      obtain ⟨it, hit⟩ : ∃ it, its[i]? = some it := ⟨_, List.getElem?_eq_getElem (by rw [← hp.len]; exact (List.getElem?_eq_some_iff.1 ho).1)⟩
      rw [g1 i o it ho hit hx]
      exact hf.val i o it x ho hit hx (fun j o' hij hj hd => by have := hp.dist i j o o' x ho hj hx hd; omega)
    · rw [g2 (fun i o ho hx' => hx ⟨i, o, ho, hx'⟩)]
      exact hf.old x (fun i o ho hx' => hx ⟨i, o, ho, hx'⟩)
  have hob : ∀ (i s : Nat) (it : It), its[i]? = some it → it.lo ≤ s → s ≤ it.hi → s ≤ rank its its.length → Ob P l its st.tm hs i s := by
    intro i s it0 hit0 hlo hhi hs' o it H X ho hit hH
    rw [hit0] at hit
    obtain rfl := Option.some.inj hit
    obtain ⟨tm, ⟨r, k1, k2, k3⟩, k4⟩ := hf.known i o it0 ho hit0
    have hsel : sel it0.ks st.tm = sel it0.ks tm := sel_congr fun k hk => k4 k fun j o' hij hj hd => by
      rcases hp.slots i o it0 ho hit0 k hk with ⟨p, hpe, o'', ho'', hd''⟩ | hno
      · have := hp.up i o ho p hpe
        have := hp.dist p j o'' o' k ho'' hj hd'' hd
        omega
      · exact hno j o' hj hd
    have hrun : r = true → Run P o.op it0.ef it0.v (sel it0.ks st.tm) s hs H X := fun hr => by
      obtain ⟨⟨H', X', h1, h2⟩, h3⟩ := k2 hr
      by_cases hnat : s = rank its i
      · subst hnat
        rw [h1] at hH
        obtain ⟨rfl, rfl⟩ := Prod.mk.inj (Option.some.inj hH)
        rw [hsel]
        exact h2
      · have he : it0.ef = false := by
          cases he : it0.ef with
          | false => rfl
          | true =>
            obtain ⟨e1, e2, _⟩ := hp.eff i it0 hit0 he
            omega
        unfold Run
        rw [he]
        simp only [Bool.false_eq_true, if_false]
        unfold more at hmore
        rw [List.all_eq_true] at hmore
        have hm' := hmore i (List.mem_range.2 (List.getElem?_eq_some_iff.1 hit0).1)
        rw [hit0] at hm'
        simp only [he, Bool.false_or, Bool.or_eq_true] at hm'
        rcases hm' with hm' | hm'
        · rw [hsel]; exact (h3 hm').2 H
        · rw [List.all_eq_true] at hm'
          have := hm' s (List.mem_range.2 (by omega))
          simp only [Bool.or_eq_true] at this
          rcases this with ((h' | h') | h') | h'
          · have := Nat.le_of_ble_eq_true h'; omega
          · have := Nat.le_of_ble_eq_true h'; omega
          · exact absurd (Nat.eq_of_beq_eq_true h') hnat
          · rw [List.any_eq_true] at h'
            obtain ⟨p, hp1, hp2⟩ := h'
            rw [Bool.and_eq_true] at hp2
            have e1 := Nat.eq_of_beq_eq_true hp2.1
            have e2 := Nat.eq_of_beq_eq_true hp2.2
            have := hx.get p hp1
            unfold At at this
            rw [e1, e2, ho, hit0, hH] at this
            obtain ⟨tm1, k1, k2⟩ := this
            rw [selS_spec _ _ k1] at k2
            exact k2
    cases hg : o.guard with
    | none =>
      rw [hg] at k1
      exact hrun k1
    | some jb =>
      obtain ⟨j, b⟩ := jb
      rw [hg] at k1
      obtain ⟨q, b', q1, q2, q3⟩ := k1
      refine ⟨b', ⟨q, q1, q2⟩, fun e => hrun (by rw [q3, e]; simp), fun e => k3 (by rw [q3]; simpa using e)⟩
  have hno : ∀ i, ¬ L (Array.replicate l.length false) i := fun i h => by
    unfold L at h
    rw [Array.getD_eq_getD_getElem?, Array.getElem?_replicate] at h
    split at h <;> simp at h
  have hinit : DInv c n l its (rank its its.length) hs st0.tm (Array.replicate l.length false) a w.drew 0 :=
    ⟨by simp, fun i o _ h => (hno i h).elim, fun i it hit he => ⟨fun h => (hno i h).elim, fun h => absurd h (Nat.not_lt_zero _)⟩, Nat.zero_le _,
      ⟨st0.tm, st0.h, st0.nx, ρ, S, hf.zero, hr.same (Same.drew w), fun i o it x _ _ _ h => (hno i h).elim, fun _ _ => rfl⟩⟩
  refine wp_region_any hm ?_
  have key := draw_any (Q := Q) hp (fun o ho d hd => by
    rw [List.all_eq_true] at hdn
    have := hdn o ho
    rw [hd] at this
    simpa using this) hE hob rfl hf.last hQ l.length _ a w.drew 0 (by
      unfold left
      exact Nat.le_trans List.countP_le_length (by simp)) hinit
  simpa using key

def DR (P : Program) (c : Ctx) (n id : Nat) (Q : Exit → St → Prop) (l : List Oper) (st0 : St) (done : List Oper) (its : List It) (hs : List (Heap × Nat)) (fr : List Nat) (st : St) (rest : List Oper) : Prop :=
  l = done.reverse ++ rest → Col P st0 done.reverse its.reverse hs.reverse fr st → AW P c n (.region id l.toArray true) Q st0

theorem dr_go {l : List Oper} {st0 : St} (k : DR P c n id Q l st0 [] [] [(st0.h, st0.nx)] [] st0 l) : AW P c n (.region id l.toArray true) Q st0 := k rfl .nil

variable {l done rest : List Oper} {st0 : St} {its : List It} {hs : List (Heap × Nat)} {fr : List Nat} {tm tm1 : List (Nat × AV)} {h : Heap} {nx : Nat} {op : Op} {ty : TypeId} {pos : String} {aft : Array Edge} {v : AV} {d : Nat}

/-- What a guard says that looks q places back. -/
theorem gd_back {j q : Nat} {b : Bool} {g : Option Bool} {r : Bool} (hq : Nat.beq (q + j + 1) its.length = true) (hg : (its[q]?).bind (fun x => gv x.v) = some g) (hr : r = (g == some b)) : Gd its.reverse (some (j, b)) r := by
  have hq := Nat.eq_of_beq_eq_true hq
  obtain ⟨x, h1, h2⟩ := Option.bind_eq_some_iff.1 hg
  refine ⟨x, g, ?_, h2, hr⟩
  rw [List.getElem?_reverse (by omega), show its.length - 1 - j = q from by omega]
  exact h1

/-- Free: at any heap. -/
theorem dr_f (lo hi : Nat) (ks : List Nat) (hs1 : selS tm ks = some tm1) (hv : ∀ H, OpP P op tm1 H v)
    (k : DR P c n id Q l st0 (⟨some d, op, ty, pos, aft, none⟩ :: done) (⟨v, false, lo, hi, ks⟩ :: its) hs (its.length :: fr) ⟨(d, v) :: tm, h, nx⟩ rest) :
    DR P c n id Q l st0 done its hs fr ⟨tm, h, nx⟩ (⟨some d, op, ty, pos, aft, none⟩ :: rest) := fun hl hc => by
  have hs1' := selS_spec _ _ hs1
  subst hs1'
  refine k (by rw [hl, List.reverse_cons, List.append_assoc]; rfl) ?_
  have := Col.f (o := ⟨some d, op, ty, pos, aft, none⟩) (it := ⟨v, false, lo, hi, ks⟩) hc rfl rfl (fun H => (hv H).q)
  rw [List.length_reverse] at this
  rw [List.reverse_cons, List.reverse_cons]
  exact this

theorem dr_fq (lo hi : Nat) (ks : List Nat) (hs1 : selS tm ks = some tm1) (hv : ∀ H, OpQ P op tm1 H v)
    (k : DR P c n id Q l st0 (⟨some d, op, ty, pos, aft, none⟩ :: done) (⟨v, false, lo, hi, ks⟩ :: its) hs (its.length :: fr) ⟨(d, v) :: tm, h, nx⟩ rest) :
    DR P c n id Q l st0 done its hs fr ⟨tm, h, nx⟩ (⟨some d, op, ty, pos, aft, none⟩ :: rest) := fun hl hc => by
  have hs1' := selS_spec _ _ hs1
  subst hs1'
  refine k (by rw [hl, List.reverse_cons, List.append_assoc]; rfl) ?_
  have := Col.f (o := ⟨some d, op, ty, pos, aft, none⟩) (it := ⟨v, false, lo, hi, ks⟩) hc rfl rfl hv
  rw [List.length_reverse] at this
  rw [List.reverse_cons, List.reverse_cons]
  exact this

/-- At this stage; lo, hi: the stages at which it may come up. -/
theorem dr_q (lo hi : Nat) (ks : List Nat) (hs1 : selS tm ks = some tm1) (hv : OpP P op tm1 h v)
    (k : DR P c n id Q l st0 (⟨some d, op, ty, pos, aft, none⟩ :: done) (⟨v, false, lo, hi, ks⟩ :: its) hs fr ⟨(d, v) :: tm, h, nx⟩ rest) :
    DR P c n id Q l st0 done its hs fr ⟨tm, h, nx⟩ (⟨some d, op, ty, pos, aft, none⟩ :: rest) := fun hl hc => by
  have hs1' := selS_spec _ _ hs1
  subst hs1'
  refine k (by rw [hl, List.reverse_cons, List.append_assoc]; rfl) ?_
  have := Col.q (o := ⟨some d, op, ty, pos, aft, none⟩) (it := ⟨v, false, lo, hi, ks⟩) hc rfl rfl hv.q
  rw [List.reverse_cons, List.reverse_cons]
  exact this

theorem dr_qq (lo hi : Nat) (ks : List Nat) (hs1 : selS tm ks = some tm1) (hv : OpQ P op tm1 h v)
    (k : DR P c n id Q l st0 (⟨some d, op, ty, pos, aft, none⟩ :: done) (⟨v, false, lo, hi, ks⟩ :: its) hs fr ⟨(d, v) :: tm, h, nx⟩ rest) :
    DR P c n id Q l st0 done its hs fr ⟨tm, h, nx⟩ (⟨some d, op, ty, pos, aft, none⟩ :: rest) := fun hl hc => by
  have hs1' := selS_spec _ _ hs1
  subst hs1'
  refine k (by rw [hl, List.reverse_cons, List.append_assoc]; rfl) ?_
  have := Col.q (o := ⟨some d, op, ty, pos, aft, none⟩) (it := ⟨v, false, lo, hi, ks⟩) hc rfl rfl hv
  rw [List.reverse_cons, List.reverse_cons]
  exact this

/-- One that turns the heap; s: which of them it is. -/
theorem dr_e {h' : Heap} {nx' : Nat} (s : Nat) (ks : List Nat) (hs1 : selS tm ks = some tm1) (hv : OpOK P op ⟨tm1, h, nx⟩ v h' nx')
    (k : DR P c n id Q l st0 (⟨some d, op, ty, pos, aft, none⟩ :: done) (⟨v, true, s, s, ks⟩ :: its) ((h', nx') :: hs) fr ⟨(d, v) :: tm, h', nx'⟩ rest) :
    DR P c n id Q l st0 done its hs fr ⟨tm, h, nx⟩ (⟨some d, op, ty, pos, aft, none⟩ :: rest) := fun hl hc => by
  have hs1' := selS_spec _ _ hs1
  subst hs1'
  refine k (by rw [hl, List.reverse_cons, List.append_assoc]; rfl) ?_
  have := Col.e (o := ⟨some d, op, ty, pos, aft, none⟩) (it := ⟨v, true, s, s, ks⟩) hc rfl rfl hv
  rw [List.reverse_cons, List.reverse_cons, List.reverse_cons]
  exact this

theorem dr_gf {j : Nat} {b : Bool} (lo hi : Nat) (ks : List Nat) (hs1 : selS tm ks = some tm1) (hv : ∀ H, OpP P op tm1 H v) (q : Nat) (hq : Nat.beq (q + j + 1) its.length = true) (hg : (its[q]?).bind (fun x => gv x.v) = some (some b))
    (k : DR P c n id Q l st0 (⟨some d, op, ty, pos, aft, some (j, b)⟩ :: done) (⟨v, false, lo, hi, ks⟩ :: its) hs (its.length :: fr) ⟨(d, v) :: tm, h, nx⟩ rest) :
    DR P c n id Q l st0 done its hs fr ⟨tm, h, nx⟩ (⟨some d, op, ty, pos, aft, some (j, b)⟩ :: rest) := fun hl hc => by
  have hs1' := selS_spec _ _ hs1
  subst hs1'
  refine k (by rw [hl, List.reverse_cons, List.append_assoc]; rfl) ?_
  have := Col.f (o := ⟨some d, op, ty, pos, aft, some (j, b)⟩) (it := ⟨v, false, lo, hi, ks⟩) hc (gd_back hq hg (by simp)) rfl (fun H => (hv H).q)
  rw [List.length_reverse] at this
  rw [List.reverse_cons, List.reverse_cons]
  exact this

theorem dr_gfq {j : Nat} {b : Bool} (lo hi : Nat) (ks : List Nat) (hs1 : selS tm ks = some tm1) (hv : ∀ H, OpQ P op tm1 H v) (q : Nat) (hq : Nat.beq (q + j + 1) its.length = true) (hg : (its[q]?).bind (fun x => gv x.v) = some (some b))
    (k : DR P c n id Q l st0 (⟨some d, op, ty, pos, aft, some (j, b)⟩ :: done) (⟨v, false, lo, hi, ks⟩ :: its) hs (its.length :: fr) ⟨(d, v) :: tm, h, nx⟩ rest) :
    DR P c n id Q l st0 done its hs fr ⟨tm, h, nx⟩ (⟨some d, op, ty, pos, aft, some (j, b)⟩ :: rest) := fun hl hc => by
  have hs1' := selS_spec _ _ hs1
  subst hs1'
  refine k (by rw [hl, List.reverse_cons, List.append_assoc]; rfl) ?_
  have := Col.f (o := ⟨some d, op, ty, pos, aft, some (j, b)⟩) (it := ⟨v, false, lo, hi, ks⟩) hc (gd_back hq hg (by simp)) rfl hv
  rw [List.length_reverse] at this
  rw [List.reverse_cons, List.reverse_cons]
  exact this

theorem dr_gq {j : Nat} {b : Bool} (lo hi : Nat) (ks : List Nat) (hs1 : selS tm ks = some tm1) (hv : OpP P op tm1 h v) (q : Nat) (hq : Nat.beq (q + j + 1) its.length = true) (hg : (its[q]?).bind (fun x => gv x.v) = some (some b))
    (k : DR P c n id Q l st0 (⟨some d, op, ty, pos, aft, some (j, b)⟩ :: done) (⟨v, false, lo, hi, ks⟩ :: its) hs fr ⟨(d, v) :: tm, h, nx⟩ rest) :
    DR P c n id Q l st0 done its hs fr ⟨tm, h, nx⟩ (⟨some d, op, ty, pos, aft, some (j, b)⟩ :: rest) := fun hl hc => by
  have hs1' := selS_spec _ _ hs1
  subst hs1'
  refine k (by rw [hl, List.reverse_cons, List.append_assoc]; rfl) ?_
  have := Col.q (o := ⟨some d, op, ty, pos, aft, some (j, b)⟩) (it := ⟨v, false, lo, hi, ks⟩) hc (gd_back hq hg (by simp)) rfl hv.q
  rw [List.reverse_cons, List.reverse_cons]
  exact this

theorem dr_gqq {j : Nat} {b : Bool} (lo hi : Nat) (ks : List Nat) (hs1 : selS tm ks = some tm1) (hv : OpQ P op tm1 h v) (q : Nat) (hq : Nat.beq (q + j + 1) its.length = true) (hg : (its[q]?).bind (fun x => gv x.v) = some (some b))
    (k : DR P c n id Q l st0 (⟨some d, op, ty, pos, aft, some (j, b)⟩ :: done) (⟨v, false, lo, hi, ks⟩ :: its) hs fr ⟨(d, v) :: tm, h, nx⟩ rest) :
    DR P c n id Q l st0 done its hs fr ⟨tm, h, nx⟩ (⟨some d, op, ty, pos, aft, some (j, b)⟩ :: rest) := fun hl hc => by
  have hs1' := selS_spec _ _ hs1
  subst hs1'
  refine k (by rw [hl, List.reverse_cons, List.append_assoc]; rfl) ?_
  have := Col.q (o := ⟨some d, op, ty, pos, aft, some (j, b)⟩) (it := ⟨v, false, lo, hi, ks⟩) hc (gd_back hq hg (by simp)) rfl hv
  rw [List.reverse_cons, List.reverse_cons]
  exact this

theorem dr_ge {j : Nat} {b : Bool} {h' : Heap} {nx' : Nat} (s : Nat) (ks : List Nat) (hs1 : selS tm ks = some tm1) (hv : OpOK P op ⟨tm1, h, nx⟩ v h' nx') (q : Nat) (hq : Nat.beq (q + j + 1) its.length = true) (hg : (its[q]?).bind (fun x => gv x.v) = some (some b))
    (k : DR P c n id Q l st0 (⟨some d, op, ty, pos, aft, some (j, b)⟩ :: done) (⟨v, true, s, s, ks⟩ :: its) ((h', nx') :: hs) fr ⟨(d, v) :: tm, h', nx'⟩ rest) :
    DR P c n id Q l st0 done its hs fr ⟨tm, h, nx⟩ (⟨some d, op, ty, pos, aft, some (j, b)⟩ :: rest) := fun hl hc => by
  have hs1' := selS_spec _ _ hs1
  subst hs1'
  refine k (by rw [hl, List.reverse_cons, List.append_assoc]; rfl) ?_
  have := Col.e (o := ⟨some d, op, ty, pos, aft, some (j, b)⟩) (it := ⟨v, true, s, s, ks⟩) hc (gd_back hq hg (by simp)) rfl hv
  rw [List.reverse_cons, List.reverse_cons, List.reverse_cons]
  exact this

theorem dr_n {h' : Heap} {nx' : Nat} (s : Nat) (ks : List Nat) (hs1 : selS tm ks = some tm1) (hv : OpOK P op ⟨tm1, h, nx⟩ v h' nx')
    (k : DR P c n id Q l st0 (⟨none, op, ty, pos, aft, none⟩ :: done) (⟨v, true, s, s, ks⟩ :: its) ((h', nx') :: hs) fr ⟨tm, h', nx'⟩ rest) :
    DR P c n id Q l st0 done its hs fr ⟨tm, h, nx⟩ (⟨none, op, ty, pos, aft, none⟩ :: rest) := fun hl hc => by
  have hs1' := selS_spec _ _ hs1
  subst hs1'
  refine k (by rw [hl, List.reverse_cons, List.append_assoc]; rfl) ?_
  have := Col.e (o := ⟨none, op, ty, pos, aft, none⟩) (it := ⟨v, true, s, s, ks⟩) hc rfl rfl hv
  rw [List.reverse_cons, List.reverse_cons, List.reverse_cons]
  exact this

/-- Under a guard that does not let it run. -/
theorem dr_s {j : Nat} {b : Bool} {g : Option Bool} (lo hi q : Nat) (hq : Nat.beq (q + j + 1) its.length = true) (hg : (its[q]?).bind (fun x => gv x.v) = some g) (hne : (g == some b) = false)
    (k : DR P c n id Q l st0 (⟨some d, op, ty, pos, aft, some (j, b)⟩ :: done) (⟨.tup [], false, lo, hi, []⟩ :: its) hs (its.length :: fr) ⟨(d, .tup []) :: tm, h, nx⟩ rest) :
    DR P c n id Q l st0 done its hs fr ⟨tm, h, nx⟩ (⟨some d, op, ty, pos, aft, some (j, b)⟩ :: rest) := fun hl hc => by
  refine k (by rw [hl, List.reverse_cons, List.append_assoc]; rfl) ?_
  have := Col.s (o := ⟨some d, op, ty, pos, aft, some (j, b)⟩) (it := ⟨.tup [], false, lo, hi, []⟩) hc (gd_back hq hg hne.symm) rfl rfl
  rw [List.length_reverse] at this
  rw [List.reverse_cons, List.reverse_cons]
  exact this

theorem dr_end (ps : List (Nat × Nat)) (hm : P.follows .mixedOrders = true) (hchk : chk done.reverse its.reverse (rank its.reverse its.length) = true) (hdn : (done.all fun o => match o.dst with | some d => Nat.blt d n | none => true) = true)
    (hmore : more its.reverse fr ps (rank its.reverse its.length) = true) (hx : Ats P done.reverse its.reverse hs.reverse tm ps) (hQ : Q .normal ⟨tm, h, nx⟩) : DR P c n id Q l st0 done its hs fr ⟨tm, h, nx⟩ [] := fun hl hc => by
  rw [List.append_nil] at hl
  subst hl
  rw [← List.length_reverse (as := its)] at hchk hmore
  exact draw_end ps hm hc hchk (by rw [List.all_reverse]; exact hdn) hmore hx hQ

end
end Go.Proofs.Ytloddmbbfkejcaa.Abs
