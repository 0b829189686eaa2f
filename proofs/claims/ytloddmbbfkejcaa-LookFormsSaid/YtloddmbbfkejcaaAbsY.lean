/-
  A machine that runs codes whose inputs are known: regions whose order is open. It holds of any program.
-/
import Derived.Test.YtloddmbbfkejcaaAbsW
namespace Go.Proofs.Ytloddmbbfkejcaa.Abs

theorem avEq_ok (a : AV) : ∀ b, avEq a b = true → a = b := by
  induction a using AV.rec (motive_2 := fun xs => ∀ ys, avsEq xs ys = true → xs = ys) with
  | top => intro b h; cases b <;> simp only [avEq, Bool.false_eq_true] at h <;> rfl
  | bool x => intro b h; cases b <;> simp only [avEq, Bool.false_eq_true, beq_iff_eq] at h; rw [h]
  | int k n => intro b h; cases b <;> simp only [avEq, Bool.false_eq_true, Bool.and_eq_true, beq_iff_eq] at h; rw [h.1, h.2]
  | str s =>
    intro b h; cases b <;> simp only [avEq, Bool.false_eq_true, beq_iff_eq] at h
    rename_i s'
    obtain ⟨⟨x⟩⟩ := s
    obtain ⟨⟨y⟩⟩ := s'
    simp only at h
    rw [h]
  | nilp => intro b h; cases b <;> simp only [avEq, Bool.false_eq_true] at h <;> rfl
  | ptr x i o =>
    intro b h; cases b <;> simp only [avEq, Bool.false_eq_true, Bool.and_eq_true] at h
    rw [Nat.eq_of_beq_eq_true h.1.1, Nat.eq_of_beq_eq_true h.1.2, Nat.eq_of_beq_eq_true h.2]
  | lp cs ih => intro b h; cases b <;> simp only [avEq, Bool.false_eq_true] at h; rw [ih _ h]
  | nils => intro b h; cases b <;> simp only [avEq, Bool.false_eq_true] at h <;> rfl
  | sl sz xs ih =>
    intro b h; cases b <;> simp only [avEq, Bool.false_eq_true, Bool.and_eq_true] at h
    rw [Nat.eq_of_beq_eq_true h.1, ih _ h.2]
  | own x st len =>
    intro b h; cases b <;> simp only [avEq, Bool.false_eq_true, Bool.and_eq_true] at h
    rw [Nat.eq_of_beq_eq_true h.1.1, Nat.eq_of_beq_eq_true h.1.2, Nat.eq_of_beq_eq_true h.2]
  | nilm => intro b h; cases b <;> simp only [avEq, Bool.false_eq_true] at h <;> rfl
  | omap x => intro b h; cases b <;> simp only [avEq, Bool.false_eq_true] at h; rw [Nat.eq_of_beq_eq_true h]
  | fn f xs ys ih1 ih2 =>
    intro b h; cases b <;> simp only [avEq, Bool.false_eq_true, Bool.and_eq_true, decide_eq_true_eq] at h
    rw [h.1.1, ih1 _ h.1.2, ih2 _ h.2]
  | nilf => intro b h; cases b <;> simp only [avEq, Bool.false_eq_true] at h <;> rfl
  | ifc t v ih => intro b h; cases b <;> simp only [avEq, Bool.false_eq_true] at h
  | nili => intro b h; cases b <;> simp only [avEq, Bool.false_eq_true] at h <;> rfl
  | agg xs ih => intro b h; cases b <;> simp only [avEq, Bool.false_eq_true] at h; rw [ih _ h]
  | tup xs ih => intro b h; cases b <;> simp only [avEq, Bool.false_eq_true] at h; rw [ih _ h]
  | nil => rename_i ys h; cases ys <;> first | rfl | simp only [avsEq, Bool.false_eq_true] at h
  | cons x xs ih1 ih2 =>
    rename_i ys h
    cases ys with
    | nil => simp only [avsEq, Bool.false_eq_true] at h
    | cons y ys =>
      simp only [avsEq, Bool.and_eq_true] at h
      rw [ih1 _ h.1, ih2 _ h.2]

theorem avsEq_ok : ∀ (xs ys : List AV), avsEq xs ys = true → xs = ys
  | [], [], _ => rfl
  | [], _ :: _, h => by simp only [avsEq, Bool.false_eq_true] at h
  | _ :: _, [], h => by simp only [avsEq, Bool.false_eq_true] at h
  | x :: xs, y :: ys, h => by
    simp only [avsEq, Bool.and_eq_true] at h
    rw [avEq_ok x y h.1, avsEq_ok xs ys h.2]

theorem blkEq_ok {B C : Blk} (h : blkEq B C = true) : B = C := by
  unfold blkEq at h
  split at h
  · simp only [Bool.and_eq_true] at h
    rw [Nat.eq_of_beq_eq_true h.1, avsEq_ok _ _ h.2]
  · cases h

theorem heapEq_ok : ∀ (h g : Heap), heapEq h g = true → h = g
  | [], [], _ => rfl
  | [], _ :: _, h => by simp only [heapEq, Bool.false_eq_true] at h
  | _ :: _, [], h => by simp only [heapEq, Bool.false_eq_true] at h
  | (i, B) :: t, (j, C) :: u, h => by
    simp only [heapEq, Bool.and_eq_true] at h
    rw [Nat.eq_of_beq_eq_true h.1.1, blkEq_ok h.1.2, heapEq_ok t u h.2]

theorem plain_ren (σ : Nat → Nat) (x : AV) : x.plain = true → x.ren σ = x := by
  induction x using AV.rec (motive_2 := fun xs => plains xs = true → rens σ xs = xs) with
  | fn f xs ys ih1 ih2 => intro h; simp only [AV.plain, Bool.and_eq_true] at h; simp only [AV.ren, ih1 h.1, ih2 h.2]
  | ifc t v ih => intro h; simp only [AV.plain] at h; simp only [AV.ren, ih h]
  | agg xs ih => intro h; simp only [AV.plain] at h; simp only [AV.ren, ih h]
  | tup xs ih => intro h; simp only [AV.plain] at h; simp only [AV.ren, ih h]
  | ptr b i o => intro h; simp [AV.plain] at h
  | own b i o => intro h; simp [AV.plain] at h
  | omap b => intro h; simp [AV.plain] at h
  | nil => rfl
  | cons x xs ih1 ih2 => rename_i h; simp only [plains, Bool.and_eq_true] at h; simp only [rens, ih1 h.1, ih2 h.2]
  | _ => intro _; rfl

theorem plains_lends {al : Bool} {h : Heap} {τ : Nat → Nat} {ps : List Nat} : ∀ (xs : List AV), plains xs = true → Lends al h τ ps xs xs
  | [], _ => .nil
  | x :: xs, hx => by
    simp only [plains, Bool.and_eq_true] at hx
    exact .cons (.same (plain_ren τ x hx.1).symm) (plains_lends xs hx.2)

theorem lend1_ok (h : Heap) (x : AV) : ∀ u y, lend1 h x = some (u, y) → ∀ τ, Lend false h τ [] x y := by
  have pl : ∀ (x : AV) u y, (if x.plain then some (false, x) else none) = some (u, y) → ∀ τ, Lend false h τ [] x y := fun x u y hh τ => by
    split at hh
    · rename_i hp
      simp only [Option.some.injEq, Prod.mk.injEq] at hh
      obtain ⟨_, rfl⟩ := hh
      exact .same (plain_ren τ x hp).symm
    · cases hh
  induction x using AV.rec (motive_2 := fun xs => ∀ u ys, lends h xs = some (u, ys) → ∀ τ, Lends false h τ [] xs ys) with
  | own b st len =>
    intro u y hh τ
    simp only [lend1] at hh
    split at hh
    · rename_i sz xs hb
      split at hh
      · rename_i h0
        simp only [Bool.and_eq_true] at h0
        simp only [Option.some.injEq, Prod.mk.injEq] at hh
        obtain ⟨_, rfl⟩ := hh
        exact .own rfl rfl (hgO hb) (Nat.le_of_ble_eq_true h0.1) h0.2
      · cases hh
    · cases hh
  | agg xs ih =>
    intro u y hh τ
    simp only [lend1] at hh
    split at hh
    · rename_i u' ys hys
      simp only [Option.some.injEq, Prod.mk.injEq] at hh
      obtain ⟨_, rfl⟩ := hh
      exact Lend.of_list (ih _ _ hys τ)
    · cases hh
  | nil => rename_i u ys hh τ; simp only [lends, Option.some.injEq, Prod.mk.injEq] at hh; obtain ⟨_, rfl⟩ := hh; exact .nil
  | cons x xs ih1 ih2 =>
    rename_i u ys hh τ
    simp only [lends] at hh
    split at hh
    · rename_i u1 y u2 ys' h1 h2
      simp only [Option.some.injEq, Prod.mk.injEq] at hh
      obtain ⟨_, rfl⟩ := hh
      exact .cons (ih1 _ _ h1 τ) (ih2 _ _ h2 τ)
    · cases hh
  | _ => intro u y hh τ; exact pl _ u y (by simpa only [lend1] using hh) τ

theorem lends_ok (h : Heap) : ∀ (xs : List AV) u ys, lends h xs = some (u, ys) → ∀ τ, Lends false h τ [] xs ys
  | [], u, ys, hh, τ => by simp only [lends, Option.some.injEq, Prod.mk.injEq] at hh; obtain ⟨_, rfl⟩ := hh; exact .nil
  | x :: xs, u, ys, hh, τ => by
    simp only [lends] at hh
    split at hh
    · rename_i u1 y u2 ys' h1 h2
      simp only [Option.some.injEq, Prod.mk.injEq] at hh
      obtain ⟨_, rfl⟩ := hh
      exact .cons (lend1_ok h x _ _ h1 τ) (lends_ok h xs _ _ h2 τ)
    · cases hh

theorem frz1_ok (h : Heap) (x : AV) : ∀ y, frz1 h x = some y → Fz h x y := by
  have pl : ∀ (x y : AV), (if x.plain then some x else none) = some y → Fz h x y := fun x y hh => by
    split at hh
    · rename_i hp; obtain rfl := Option.some.inj hh; exact .same hp
    · cases hh
  induction x using AV.rec (motive_2 := fun xs => ∀ ys, frz2 h xs = some ys → Fzs h xs ys) with
  | own b st len =>
    intro y hh
    simp only [frz1] at hh
    split at hh
    · rename_i sz xs hb
      split at hh
      · rename_i h0
        simp only [Bool.and_eq_true] at h0
        obtain rfl := Option.some.inj hh
        exact .own (hgO hb) (Nat.le_of_ble_eq_true h0.1) h0.2
      · cases hh
    · cases hh
  | agg xs ih =>
    intro y hh
    simp only [frz1] at hh
    split at hh
    · rename_i ys hys
      obtain rfl := Option.some.inj hh
      have := (ih _ hys).tup
      cases this with
      | same hp => exact .same hp
      | tup hl k => exact .agg hl k
    · cases hh
  | tup xs ih =>
    intro y hh
    simp only [frz1] at hh
    split at hh
    · rename_i ys hys
      obtain rfl := Option.some.inj hh
      exact (ih _ hys).tup
    · cases hh
  | nil => rename_i ys hh; simp only [frz2, Option.some.injEq] at hh; subst hh; exact .nil
  | cons x xs ih1 ih2 =>
    rename_i ys hh
    simp only [frz2] at hh
    split at hh
    · rename_i y ys' h1 h2
      obtain rfl := Option.some.inj hh
      exact .cons (ih1 _ h1) (ih2 _ h2)
    · cases hh
  | _ => intro y hh; exact pl _ y (by simpa only [frz1] using hh)

section
variable {P : Program}

theorem stepQ0_ok {cf : CF} (hcf : CFok P cf) {op : Op} {tm : List (Nat × AV)} {v : AV} (he : stepQ0 P cf op tm = some v) (h : Heap) : OpQ P op tm h v := by
  unfold stepQ0 at he
  split at he
  · rename_i c hc
    split at he
    · rename_i f args ha
      split at he
      · rename_i hp
        split at he
        · rename_i r h' nx' hr
          obtain ⟨fo, first, caps, a0, k1, k2, _, k4, rfl⟩ := callArgs_ok ha
          obtain ⟨⟨fn, q1, q2, q3⟩, q4⟩ := hcf _ _ _ _ _ _ _ hr
          rw [isCall_ok hc]
          obtain ⟨cal, xs, ts⟩ := c
          subst k1
          exact op_callq (q4 true (.inl rfl)) q1 ⟨q2, q3⟩ k2 k4 (fun nx => plains_lends _ hp) (by rintro _ _ _ ⟨rfl, rfl, rfl⟩; exact frz1_ok _ _ _ he)
        · cases he
      · cases he
    · cases he
  · split at he
    · rename_i hv; obtain rfl := Option.some.inj he; exact (stepV_ok hv).q
    · exact stepF_ok he

theorem stepQ_ok {cf : CF} (hcf : CFok P cf) {op : Op} {tm : List (Nat × AV)} {v : AV} {h : Heap} (he : stepQ P cf op tm h = some v) : OpQ P op tm h v := by
  unfold stepQ at he
  split at he
  · rename_i c hc
    split at he
    · rename_i f args ha
      split at he
      · rename_i u largs hl
        split at he
        · rename_i r h' nx' hr
          split at he
          · rename_i hn
            simp only [Bool.and_eq_true] at hn
            obtain ⟨fo, first, caps, a0, k1, k2, _, k4, rfl⟩ := callArgs_ok ha
            obtain ⟨⟨fn, q1, q2, q3⟩, q4⟩ := hcf _ _ _ _ _ _ _ hr
            rw [isCall_ok hc]
            obtain ⟨cal, xs, ts⟩ := c
            subst k1
            exact op_callq (q4 false (.inr hn)) q1 ⟨q2, q3⟩ k2 k4 (fun nx => lends_ok _ _ _ _ hl _) (by rintro _ _ _ ⟨rfl, rfl, rfl⟩; exact frz1_ok _ _ _ he)
          · cases he
        · cases he
      · cases he
    · cases he
  · split at he
    · rename_i hv; obtain rfl := Option.some.inj he; exact (stepV_ok hv).q
    · split at he
      · rename_i hv; obtain rfl := Option.some.inj he; exact (stepH_ok hv).q
      · exact stepF_ok he

/-- Does the guard let it run? -/
def GdV (its : List IV) (g : Option (Nat × Bool)) (r : Bool) : Prop :=
  match g with
  | none => r = true
  | some (j, b) => ∃ q g, its[j]? = some q ∧ gv q.v = some g ∧ r = (g == some b)

theorem GdV.more {its : List IV} {g : Option (Nat × Bool)} {r : Bool} (h : GdV its g r) (it : IV) : GdV (its ++ [it]) g r := by
  unfold GdV at *
  split
  · exact h
  · obtain ⟨q, b', h1, h2, h3⟩ := h
    exact ⟨q, b', by rw [List.getElem?_append_left (List.getElem?_eq_some_iff.1 h1).1]; exact h1, h2, h3⟩

def KV (P : Program) (its : List IV) (hs : List (Heap × Nat)) (free : Bool) (i : Nat) (o : Oper) (it : IV) : Prop :=
  ∃ r, GdV its o.guard r ∧
    (r = true → (∃ H X, hs[rankV its i]? = some (H, X) ∧ (if it.ef then ∃ H' X', hs[rankV its i + 1]? = some (H', X') ∧ OpOK P o.op ⟨it.tm, H, X⟩ it.v H' X' else OpQ P o.op it.tm H it.v)) ∧ (free = true → it.ef = false ∧ ∀ H, OpQ P o.op it.tm H it.v)) ∧
    (r = false → it.v = .tup [] ∧ (it.ef = true → ∃ H X, hs[rankV its i]? = some (H, X) ∧ hs[rankV its i + 1]? = some (H, X)))

theorem rankV_more (its : List IV) (it : IV) {i : Nat} (h : i ≤ its.length) : rankV (its ++ [it]) i = rankV its i := by
  unfold rankV
  rw [List.take_append_of_le_length h]

theorem rankV_snoc (its : List IV) (it : IV) : rankV (its ++ [it]) (its.length + 1) = rankV its its.length + (if it.ef then 1 else 0) := by
  unfold rankV
  rw [List.take_of_length_le (by simp), List.take_of_length_le (by simp), List.countP_append, List.countP_cons]
  simp

theorem rankV_mono (its : List IV) {i j : Nat} (h : i ≤ j) : rankV its i ≤ rankV its j := by
  unfold rankV
  have e : its.take j = its.take i ++ (its.drop i).take (j - i) := by
    rw [← List.take_add, show i + (j - i) = j from by omega]
  rw [e, List.countP_append]
  omega

theorem rankV_lt {its : List IV} {i j : Nat} {it : IV} (hij : i < j) (hi : its[i]? = some it) (he : it.ef = true) : rankV its i + 1 ≤ rankV its j := by
  have h1 : rankV its (i + 1) = rankV its i + 1 := by
    unfold rankV
    rw [List.take_add_one, hi, List.countP_append]
    simp [he]
  rw [← h1]
  exact rankV_mono its hij

theorem KV.more {its : List IV} {hs : List (Heap × Nat)} {free : Bool} {i : Nat} {o : Oper} {it : IV} (h : KV P its hs free i o it) (jt : IV) (hs' : List (Heap × Nat)) (hi : i ≤ its.length) : KV P (its ++ [jt]) (hs ++ hs') free i o it := by
  have more : ∀ {k : Nat} {p : Heap × Nat}, hs[k]? = some p → (hs ++ hs')[k]? = some p := fun {k p} hk => by
    rw [List.getElem?_append_left (List.getElem?_eq_some_iff.1 hk).1]; exact hk
  obtain ⟨r, h1, h2, h3⟩ := h
  unfold KV
  rw [rankV_more its jt hi]
  refine ⟨r, h1.more jt, fun hr => ?_, fun hr => ?_⟩
  · obtain ⟨⟨H, X, h4, h5⟩, h6⟩ := h2 hr
    refine ⟨⟨H, X, more h4, ?_⟩, h6⟩
    cases hef : it.ef with
    | true =>
      rw [hef] at h5
      obtain ⟨H', X', k1, k2⟩ := h5
      exact ⟨H', X', more k1, k2⟩
    | false => rw [hef] at h5; exact h5
  · obtain ⟨h4, h5⟩ := h3 hr
    exact ⟨h4, fun he => by obtain ⟨H, X, k1, k2⟩ := h5 he; exact ⟨H, X, more k1, more k2⟩⟩

structure FV (P : Program) (st0 : St) (l : List Oper) (ps : List (Nat × List Nat)) (its : List IV) (hs : List (Heap × Nat)) (fr : List Nat) (st : St) : Prop where
  len : l.length = its.length
  plen : ps.length = its.length
  efp : ∀ (i : Nat) (p : Nat × List Nat) (it : IV), ps[i]? = some p → its[i]? = some it → it.ef = Nat.ble 2 p.1 ∧ (p.1 = 0 → fr.contains i = true)
  hlen : hs.length = rankV its its.length + 1
  last : hs[rankV its its.length]? = some (st.h, st.nx)
  zero : hs[0]? = some (st0.h, st0.nx)
  known : ∀ (i : Nat) (o : Oper) (it : IV), l[i]? = some o → its[i]? = some it → KV P its hs (fr.contains i) i o it
  sees : ∀ (i : Nat) (p : Nat × List Nat) (it : IV) (x : Nat), ps[i]? = some p → its[i]? = some it → tget it.tm x = .top ∨ x ∈ p.2 ∧
    (∀ (j : Nat) (o' : Oper) (jt : IV), j < i → l[j]? = some o' → its[j]? = some jt → o'.dst = some x → (∀ (k : Nat) (o'' : Oper), j < k → k < i → l[k]? = some o'' → o''.dst ≠ some x) → tget it.tm x = jt.v) ∧
    ((∀ (j : Nat) (o' : Oper), j < i → l[j]? = some o' → o'.dst ≠ some x) → tget it.tm x = tget st0.tm x)
  val : ∀ (i : Nat) (o : Oper) (it : IV) (x : Nat), l[i]? = some o → its[i]? = some it → o.dst = some x → (∀ (j : Nat) (o' : Oper), i < j → l[j]? = some o' → o'.dst ≠ some x) → tget st.tm x = it.v
  old : ∀ x, (∀ (i : Nat) (o : Oper), l[i]? = some o → o.dst ≠ some x) → tget st.tm x = tget st0.tm x
  frs : ∀ i ∈ fr, i < its.length

theorem FV.snoc {st0 : St} {l : List Oper} {ps : List (Nat × List Nat)} {its : List IV} {hs hs' : List (Heap × Nat)} {fr fr' : List Nat} {st st' : St} (h : FV P st0 l ps its hs fr st) (o : Oper) (p : Nat × List Nat) (it : IV) (htm : st'.tm = (putA o.dst it.v st).tm)
    (hef : it.ef = Nat.ble 2 p.1) (hlen : hs'.length = if it.ef then 1 else 0) (hlast : (hs ++ hs')[rankV its its.length + (if it.ef then 1 else 0)]? = some (st'.h, st'.nx)) (hfr : ∀ i, i < its.length → fr'.contains i = fr.contains i) (hf0 : p.1 = 0 → fr'.contains its.length = true) (hfl : ∀ i ∈ fr', i < its.length + 1)
    (hs1 : ∀ x, tget it.tm x = .top ∨ x ∈ p.2 ∧ tget it.tm x = tget st.tm x)
    (hk : KV P (its ++ [it]) (hs ++ hs') (fr'.contains its.length) its.length o it) : FV P st0 (l ++ [o]) (ps ++ [p]) (its ++ [it]) (hs ++ hs') fr' st' := by
  have hl := h.len
  have hpl := h.plen
  refine ⟨by simp [hl], by simp [hpl], fun i q jt hq hjt => ?_, by simp only [List.length_append, List.length_cons, List.length_nil, Nat.zero_add]; rw [rankV_snoc, h.hlen, hlen]; omega, by simp only [List.length_append, List.length_cons, List.length_nil, Nat.zero_add]; rw [rankV_snoc]; exact hlast, ?_, ?_, ?_, ?_, ?_, fun i hi => by simp only [List.length_append, List.length_cons, List.length_nil]; exact hfl i hi⟩
  · rcases snoc_get hq with ⟨h1, h2⟩ | ⟨h1, h2⟩
    · rcases snoc_get hjt with ⟨h3, h4⟩ | ⟨h3, h4⟩
      · rw [hfr i h3]; exact h.efp i q jt h2 h4
      · omega
    · rcases snoc_get hjt with ⟨h3, h4⟩ | ⟨h3, h4⟩
      · omega
      · subst h2; subst h4; subst h3; exact ⟨hef, hf0⟩
  · rw [List.getElem?_append_left (by rw [h.hlen]; omega)]; exact h.zero
  · intro i o' it' ho hit
    rcases snoc_get ho with ⟨h1, h2⟩ | ⟨h1, h2⟩
    · rcases snoc_get hit with ⟨h3, h4⟩ | ⟨h3, h4⟩
      · rw [hfr i h3]; exact (h.known i o' it' h2 h4).more it hs' (by omega)
      · omega
    · rcases snoc_get hit with ⟨h3, h4⟩ | ⟨h3, h4⟩
      · omega
      · subst h2; subst h4; subst h3; exact hk
  · intro i q jt x hq hjt
    have lft : ∀ (k : Nat) (o'' : Oper), k < i → i ≤ l.length → (l ++ [o])[k]? = some o'' → l[k]? = some o'' := fun k o'' hk hi hh => by
      rw [List.getElem?_append_left (by omega)] at hh; exact hh
    have rgt : ∀ (k : Nat) (o'' : Oper), l[k]? = some o'' → (l ++ [o])[k]? = some o'' := fun k o'' hh => by
      rw [List.getElem?_append_left (List.getElem?_eq_some_iff.1 hh).1]; exact hh
    rcases snoc_get hq with ⟨h1, h2⟩ | ⟨h1, h2⟩
    · rcases snoc_get hjt with ⟨h3, h4⟩ | ⟨h3, h4⟩
      · rcases h.sees i q jt x h2 h4 with e | ⟨e1, e2, e3⟩
        · exact .inl e
        · refine .inr ⟨e1, fun j o' kt hj ho' hkt hd hno => ?_, fun hno => e3 fun j o' hj ho' => hno j o' hj (rgt j o' ho')⟩
          rcases snoc_get hkt with ⟨h5, h6⟩ | ⟨h5, h6⟩
          · exact e2 j o' kt hj (lft j o' hj (by omega) ho') h6 hd (fun k o'' hk1 hk2 ho'' => hno k o'' hk1 hk2 (rgt k o'' ho''))
          · omega
      · omega
    · rcases snoc_get hjt with ⟨h3, h4⟩ | ⟨h3, h4⟩
      · omega
      · subst h2; subst h4
        rcases hs1 x with e | ⟨e1, e2⟩
        · exact .inl e
        · refine .inr ⟨e1, fun j o' kt hj ho' hkt hd hno => ?_, fun hno => ?_⟩
          · rw [e2]
            rcases snoc_get hkt with ⟨h5, h6⟩ | ⟨h5, h6⟩
            · exact h.val j o' kt x (lft j o' hj (by omega) ho') h6 hd (fun k o'' hk1 ho'' => hno k o'' hk1 (by have := (List.getElem?_eq_some_iff.1 ho'').1; omega) (rgt k o'' ho''))
            · omega
          · rw [e2]
            exact h.old x (fun j o' ho' => hno j o' (by have := (List.getElem?_eq_some_iff.1 ho').1; omega) (rgt j o' ho'))
  · intro i o' it' x ho hit hx hno
    rw [htm, tget_putA]
    rcases snoc_get ho with ⟨h1, h2⟩ | ⟨h1, h2⟩
    · rcases snoc_get hit with ⟨h3, h4⟩ | ⟨h3, h4⟩
      · rw [if_neg (hno l.length o h1 (by simp))]
        exact h.val i o' it' x h2 h4 hx (fun j o'' hij hj => hno j o'' hij (by rw [List.getElem?_append_left (List.getElem?_eq_some_iff.1 hj).1]; exact hj))
      · omega
    · rcases snoc_get hit with ⟨h3, h4⟩ | ⟨h3, h4⟩
      · omega
      · subst h2; subst h4
        rw [if_pos hx]
  · intro x hno
    rw [htm, tget_putA, if_neg (hno l.length o (by simp))]
    exact h.old x (fun i o' hi => hno i o' (by rw [List.getElem?_append_left (List.getElem?_eq_some_iff.1 hi).1]; exact hi))

theorem selF_mem {tm : List (Nat × AV)} : ∀ (ks : List Nat) (tm1 : List (Nat × AV)), selF tm ks = some tm1 → ∀ x, tget tm1 x = .top ∨ x ∈ ks ∧ tget tm1 x = tget tm x := by
  intro ks
  induction ks with
  | nil => intro tm1 h x; simp only [selF, Option.some.injEq] at h; subst h; exact .inl rfl
  | cons k ks ih =>
    intro tm1 h x
    simp only [selF] at h
    split at h
    · rename_i v r h1 h2
      obtain rfl := Option.some.inj h
      simp only [tget]
      by_cases e : k = x
      · subst e
        rw [if_pos rfl]
        rw [tgF_eq] at h1
        exact .inr ⟨List.mem_cons_self, (tgetS_spec _ _ _ h1).symm⟩
      · rw [if_neg e]
        exact (ih r h2 x).imp id (fun h => ⟨List.mem_cons_of_mem _ h.1, h.2⟩)
    · cases h

theorem giv_ok {its : List IV} {j : Nat} (hj : j < its.length) {g : Option Bool} (h : giv its j = some g) : ∃ q, its.reverse[j]? = some q ∧ gv q.v = some g := by
  unfold giv at h
  split at h
  · rename_i it hit
    refine ⟨it, ?_, h⟩
    rw [List.getElem?_reverse hj]
    exact hit
  · cases h

theorem runDraw_go {cf : CF} (hcf : CFok P cf) {st0 : St} {rest : List Oper} (ih : ∀ (ps : List (Nat × List Nat)) (done : List Oper) (dps : List (Nat × List Nat)) (its : List IV) (hs : List (Heap × Nat)) (fr : List Nat) (st : St) (its' : List IV) (hs' : List (Heap × Nat)) (fr' : List Nat) (st' : St),
    runDraw P cf rest ps its hs fr st = some (its', hs', fr', st') → FV P st0 done dps its.reverse hs.reverse fr st → FV P st0 (done ++ rest) (dps ++ ps) its'.reverse hs'.reverse fr' st')
    {o : Oper} {k : Nat} {ks : List Nat} {ps : List (Nat × List Nat)} {done : List Oper} {dps : List (Nat × List Nat)} {its : List IV} {hs : List (Heap × Nat)} {fr : List Nat} {st : St} {its' : List IV} {hs' : List (Heap × Nat)} {fr' : List Nat} {st' : St}
    (hh : (match selF st.tm ks with
              | some tm1 => match k with
                | 0 => match stepQ0 P cf o.op tm1 with
                  | some v => forceV v fun v => runDraw P cf rest ps (⟨v, false, tm1⟩ :: its) hs (its.length :: fr) (putA o.dst v st)
                  | none => none
                | 1 => match stepQ P cf o.op tm1 st.h with
                  | some v => forceV v fun v => runDraw P cf rest ps (⟨v, false, tm1⟩ :: its) hs fr (putA o.dst v st)
                  | none => none
                | _ => match stepAny P cf o.op tm1 st.h st.nx with
                  | some (v, h', nx') => forceV v fun v => forceN nx' fun nx' => runDraw P cf rest ps (⟨v, true, tm1⟩ :: its) ((h', nx') :: hs) fr (putA o.dst v ⟨st.tm, h', nx'⟩)
                  | none => none
              | none => none) = some (its', hs', fr', st'))
    (hg : GdV its.reverse o.guard true) (hF : FV P st0 done dps its.reverse hs.reverse fr st) : FV P st0 ((done ++ [o]) ++ rest) ((dps ++ [(k, ks)]) ++ ps) its'.reverse hs'.reverse fr' st' := by
  have cons_c : ∀ (fr : List Nat) (n i : Nat), i < n → (n :: fr).contains i = fr.contains i := fun fr n i hi => by
    rw [List.contains_cons]
    have : (i == n) = false := by simp; omega
    rw [this]; rfl
  have il : its.reverse.length = its.length := List.length_reverse
  have hrl : hs.reverse.length = rankV its.reverse its.reverse.length + 1 := hF.hlen
  split at hh
  · rename_i tm1 htm1
    have hsee := selF_mem ks tm1 htm1
    split at hh
    · split at hh
      · rename_i v hv
        rw [forceV_eq] at hh
        refine ih _ _ _ _ _ _ _ _ _ _ _ hh ?_
        have hq := stepQ0_ok hcf hv
        have := hF.snoc o (0, ks) ⟨v, false, tm1⟩ (st' := putA o.dst v st) (hs' := []) (fr' := its.length :: fr) rfl rfl rfl (by simpa [putA_h, putA_nx] using hF.last) (fun i hi => cons_c fr _ i (by omega)) (fun _ => by simp [il]) (fun i hi => by
          rcases List.mem_cons.1 hi with rfl | hi
          · omega
          · have := hF.frs i hi; omega) hsee ⟨true, hg.more _, fun _ => ⟨⟨st.h, st.nx, by rw [rankV_more _ _ (Nat.le_refl _), List.append_nil]; exact hF.last, hq _⟩, fun _ => ⟨rfl, hq⟩⟩, fun e => by cases e⟩
        rw [List.append_nil] at this
        rw [List.reverse_cons]; exact this
      · cases hh
    · split at hh
      · rename_i v hv
        rw [forceV_eq] at hh
        refine ih _ _ _ _ _ _ _ _ _ _ _ hh ?_
        have hq := stepQ_ok hcf hv
        have := hF.snoc o (1, ks) ⟨v, false, tm1⟩ (st' := putA o.dst v st) (hs' := []) (fr' := fr) rfl rfl rfl (by simpa [putA_h, putA_nx] using hF.last) (fun i hi => rfl) (fun e => by cases e) (fun i hi => Nat.lt_succ_of_lt (hF.frs i hi)) hsee
          ⟨true, hg.more _, fun _ => ⟨⟨st.h, st.nx, by rw [rankV_more _ _ (Nat.le_refl _), List.append_nil]; exact hF.last, hq⟩, fun hc => by
            have := hF.frs its.reverse.length (by simpa using hc)
            omega⟩, fun e => by cases e⟩
        rw [List.append_nil] at this
        rw [List.reverse_cons]; exact this
      · cases hh
    · rename_i k2 hk0 hk1
      split at hh
      · rename_i v h1 n1 hv
        rw [forceV_eq, forceN_eq] at hh
        refine ih _ _ _ _ _ _ _ _ _ _ _ hh ?_
        have hq := stepAny_ok hcf hv
        have h2 : Nat.ble 2 k = true := Nat.ble_eq_true_of_le (by
          match k, hk0, hk1 with
          | 0, h0, _ => exact absurd rfl h0
          | 1, _, h1 => exact absurd rfl h1
          | k + 2, _, _ => omega)
        have := hF.snoc o (k, ks) ⟨v, true, tm1⟩ (st' := putA o.dst v ⟨st.tm, h1, n1⟩) (hs' := [(h1, n1)]) (fr' := fr) (by cases o.dst <;> rfl) h2.symm rfl (by
            rw [putA_h, putA_nx, List.getElem?_append_right (by rw [hrl]; exact Nat.le_refl _), hrl]; simp) (fun i hi => rfl) (fun e => by rw [show k = 0 from e] at h2; cases h2) (fun i hi => Nat.lt_succ_of_lt (hF.frs i hi)) hsee
          ⟨true, hg.more _, fun _ => ⟨⟨st.h, st.nx, by rw [rankV_more _ _ (Nat.le_refl _), List.getElem?_append_left (by rw [hrl]; omega)]; exact hF.last, by
            rw [rankV_more _ _ (Nat.le_refl _)]
            exact ⟨h1, n1, by rw [List.getElem?_append_right (by rw [hrl]; exact Nat.le_refl _), hrl]; simp, hq⟩⟩, fun hc => by
            have := hF.frs its.reverse.length (by simpa using hc)
            omega⟩, fun e => by cases e⟩
        rw [List.reverse_cons, List.reverse_cons]; exact this
      · cases hh
  · cases hh

theorem runDraw_ok {cf : CF} (hcf : CFok P cf) {st0 : St} : ∀ (rest : List Oper) (ps : List (Nat × List Nat)) (done : List Oper) (dps : List (Nat × List Nat)) (its : List IV) (hs : List (Heap × Nat)) (fr : List Nat) (st : St) (its' : List IV) (hs' : List (Heap × Nat)) (fr' : List Nat) (st' : St),
    runDraw P cf rest ps its hs fr st = some (its', hs', fr', st') → FV P st0 done dps its.reverse hs.reverse fr st → FV P st0 (done ++ rest) (dps ++ ps) its'.reverse hs'.reverse fr' st' := by
  have cons_c : ∀ (fr : List Nat) (n i : Nat), i < n → (n :: fr).contains i = fr.contains i := fun fr n i hi => by
    rw [List.contains_cons]
    have : (i == n) = false := by simp; omega
    rw [this]; rfl
  intro rest
  induction rest with
  | nil =>
    intro ps done dps its hs fr st its' hs' fr' st' h hF
    cases ps with
    | nil =>
      simp only [runDraw, Option.some.injEq, Prod.mk.injEq] at h
      obtain ⟨rfl, rfl, rfl, rfl⟩ := h
      simpa using hF
    | cons p ps => simp only [runDraw, reduceCtorEq] at h
  | cons o rest ih =>
    intro ps done dps its hs fr st its' hs' fr' st' h hF
    cases ps with
    | nil => simp only [runDraw, reduceCtorEq] at h
    | cons p ps =>
      obtain ⟨k, ks⟩ := p
      have e1 : done ++ o :: rest = (done ++ [o]) ++ rest := by simp
      have e2 : dps ++ (k, ks) :: ps = (dps ++ [(k, ks)]) ++ ps := by simp
      rw [e1, e2]
      have il : its.reverse.length = its.length := List.length_reverse
      have hrl : hs.reverse.length = rankV its.reverse its.reverse.length + 1 := hF.hlen
      unfold runDraw at h
      simp only [] at h
      split at h
      · rename_i hg
        exact runDraw_go hcf ih h (by rw [hg]; rfl) hF
      · rename_i j b hg
        split at h
        · rename_i hj
          have hj : j < its.length := by simpa using hj
          split at h
          · rename_i g hgv
            obtain ⟨q, q1, q2⟩ := giv_ok hj hgv
            split at h
            · rename_i hgb
              exact runDraw_go hcf ih h (by rw [hg]; exact ⟨q, g, q1, q2, hgb.symm⟩) hF
            · rename_i hgb
              have hgb : (g == some b) = false := by simpa using hgb
              have hG : GdV its.reverse o.guard false := by rw [hg]; exact ⟨q, g, q1, q2, hgb.symm⟩
              split at h
              · rename_i h2
                refine ih _ _ _ _ _ _ _ _ _ _ _ h ?_
                have := hF.snoc o (k, ks) ⟨.tup [], true, []⟩ (st' := putA o.dst (.tup []) st) (hs' := [(st.h, st.nx)]) (fr' := fr) rfl h2.symm rfl (by
                    rw [putA_h, putA_nx, List.getElem?_append_right (by rw [hrl]; exact Nat.le_refl _), hrl]; simp) (fun i hi => rfl) (fun e => by rw [show k = 0 from e] at h2; cases h2) (fun i hi => Nat.lt_succ_of_lt (hF.frs i hi)) (fun x => .inl rfl)
                  ⟨false, hG.more _, (fun e => by cases e), fun _ => ⟨rfl, fun _ => ⟨st.h, st.nx, by rw [rankV_more _ _ (Nat.le_refl _), List.getElem?_append_left (by rw [hrl]; omega)]; exact hF.last, by
                    rw [rankV_more _ _ (Nat.le_refl _), List.getElem?_append_right (by rw [hrl]; exact Nat.le_refl _), hrl]; simp⟩⟩⟩
                rw [List.reverse_cons, List.reverse_cons]; exact this
              · rename_i h2
                refine ih _ _ _ _ _ _ _ _ _ _ _ h ?_
                have := hF.snoc o (k, ks) ⟨.tup [], false, []⟩ (st' := putA o.dst (.tup []) st) (hs' := []) (fr' := its.length :: fr) rfl (by cases hb : Nat.ble 2 k with | true => exact absurd hb h2 | false => rfl) rfl (by simpa [putA_h, putA_nx] using hF.last) (fun i hi => cons_c fr _ i (by omega)) (fun _ => by simp [il]) (fun i hi => by
                  rcases List.mem_cons.1 hi with rfl | hi
                  · omega
                  · have := hF.frs i hi; omega) (fun x => .inl rfl) ⟨false, hG.more _, (fun e => by cases e), fun _ => ⟨rfl, fun e => by cases e⟩⟩
                rw [List.append_nil] at this
                rw [List.reverse_cons]; exact this
          · cases h
        · cases h

end
end Go.Proofs.Ytloddmbbfkejcaa.Abs
