/- Texts of this session, merged: APlayD, AbsY, AbsZ, ASort, ASortB, ATakeA, AbsFE, ATakeB, ATakeC, RunBegun5, ALawTxnBack. -/
import Derived.Test.YtloddmbbfkejcaaBTxnBack3
import Derived.Test.YtloddmbbfkejcaaBTxnBack1
set_option linter.unusedVariables false
set_option linter.unusedSimpArgs false
section
/-
  Picks: what made transactions are.
-/
namespace Go.Proofs.Ytloddmbbfkejcaa.Abs

theorem pick_rising : ∀ b : Fin 64, risingB (pickK keysL b.val 3) = true := by decide +kernel
theorem pkKeys_rising (l : List UInt8) (n : Nat) : risingB (pkKeys l n 3) = true := pick_rising ⟨pkV l n 64, pkV_lt l n 64 (by omega)⟩

theorem pkVal_len (l : List UInt8) (n : Nat) : (pkVal l n).length ≤ 16 := by
  unfold pkVal
  have h := pkV_lt l n 5 (by omega)
  generalize pkV l n 5 = v at h
  match v, h with
  | 0, _ => decide
  | 1, _ => decide
  | 2, _ => decide
  | 3, _ => decide
  | 4, _ => decide

theorem pkFold_map {α β : Type} (f : List UInt8 → Nat → α × Nat) (g : α → β) (h : List UInt8 → β) (hg : ∀ k n, g (f k n).1 = h k) : ∀ (ks : List (List UInt8)) (n : Nat), (pkFold f ks n).1.map g = ks.map h := by
  intro ks
  induction ks with
  | nil => intro n; rfl
  | cons k ks ih => intro n; simp only [pkFold, List.map_cons, hg, ih]

theorem pkFold_all {α : Type} (f : List UInt8 → Nat → α × Nat) (p : α → Bool) (hp : ∀ k n, p (f k n).1 = true) : ∀ (ks : List (List UInt8)) (n : Nat), (pkFold f ks n).1.all p = true := by
  intro ks
  induction ks with
  | nil => intro n; rfl
  | cons k ks ih => intro n; simp only [pkFold, List.all_cons, hp, ih, Bool.and_self]

theorem rdStep_key (l : List UInt8) (most : Nat) (k : List UInt8) (n : Nat) : (rdStep l most k n).1.key = k := by
  unfold rdStep
  split
  · rfl
  · split <;> rfl
theorem wrStep_key (l : List UInt8) (k : List UInt8) (n : Nat) : (wrStep l k n).1.key = k := by
  unfold wrStep
  split <;> rfl

theorem rdStep_read (l : List UInt8) (most : Nat) (k : List UInt8) (n : Nat) : readB (rdStep l most k n).1 = true := by
  unfold rdStep
  split
  · simp [readB]
  · split
    · simp [readB]
    · have := pkVal_len l (pkN l (pkN l n))
      simp only [readB, Bool.not_true, Bool.false_and, Bool.true_and, Bool.false_or, Bool.and_eq_true, Bool.not_eq_true', decide_eq_true_eq, decide_eq_false_iff_not]
      exact ⟨by omega, by omega, this⟩

theorem wrStep_write (l : List UInt8) (k : List UInt8) (n : Nat) : writeB (wrStep l k n).1 = true := by
  unfold wrStep
  split
  · simp [writeB]
  · have := pkVal_len l n
    simp only [writeB, Bool.not_false, Bool.true_or, Bool.and_true, decide_eq_true_eq]
    exact this

theorem rdStep_ver (l : List UInt8) (most : Nat) (hm : 1 ≤ most) (k : List UInt8) (n : Nat) : decide ((rdStep l most k n).1.ver < most) = true := by
  have := pkV_lt l n most hm
  unfold rdStep
  rw [decide_eq_true_eq]
  split
  · show (0 : Int) < most; omega
  · split
    · show ((pkV l n most : Nat) : Int) < most; omega
    · show ((pkV l n most : Nat) : Int) < most; omega

/-- What is made may be. -/
theorem pkTx_may (l : List UInt8) (n most : Nat) : mayTxB (pkTx l n most).1 = true := by
  have h3 := pkV_lt l n 3 (by omega)
  have h6 := pkV_lt l (pkN l n) 6 (by omega)
  have hr : (pkRds l n most).1.length ≤ 3 := by unfold pkRds; rw [pkFold_len]; exact pickK_len _ _ _
  have hw : ∀ m, (pkWrs l m).1.length ≤ 3 := fun m => by unfold pkWrs; rw [pkFold_len]; exact pickK_len _ _ _
  have hw := hw (pkRds l n most).2
  unfold mayTxB pkTx
  simp only [Bool.and_eq_true, decide_eq_true_eq]
  refine ⟨by omega, by omega, by omega, by omega, by omega, ?_, by omega, ?_, ?_, ?_⟩
  · unfold pkRds
    rw [pkFold_map _ _ id (rdStep_key l most), List.map_id]
    exact pkKeys_rising _ _
  · unfold pkWrs
    rw [pkFold_map _ _ id (wrStep_key l), List.map_id]
    exact pkKeys_rising _ _
  · exact pkFold_all _ _ (rdStep_read l most) _ _
  · exact pkFold_all _ _ (wrStep_write l) _ _

theorem pkTx_ver (l : List UInt8) (n most : Nat) (hm : 1 ≤ most) : ∀ r ∈ (pkTx l n most).1.reads, r.ver < most := fun r hr => by
  have := List.all_eq_true.1 (pkFold_all (rdStep l most) (fun r => decide (r.ver < most)) (rdStep_ver l most hm) (pkKeys l (pkN l (pkN l n)) 3) (pkN l (pkN l (pkN l n)))) r hr
  simpa using this

theorem pkTx_len (l : List UInt8) (n most : Nat) : (pkTx l n most).1.reads.length ≤ 3 ∧ (pkTx l n most).1.writes.length ≤ 3 := by
  refine ⟨?_, ?_⟩
  · show (pkRds l n most).1.length ≤ 3
    unfold pkRds; rw [pkFold_len]; exact pickK_len _ _ _
  · show (pkWrs l (pkRds l n most).2).1.length ≤ 3
    unfold pkWrs; rw [pkFold_len]; exact pickK_len _ _ _

end Go.Proofs.Ytloddmbbfkejcaa.Abs
end
section
/-
  A machine that runs codes whose inputs are known: regions whose order is open. It holds of any program.
-/
namespace Go.Proofs.Ytloddmbbfkejcaa.Abs

theorem avEq_ok (a : AV) : ∀ b, avEq a b = true → a = b := by
  induction a using AV.rec (motive_2 := fun xs => ∀ ys, avsEq xs ys = true → xs = ys) with
  | top => intro b h; cases b <;> simp only [avEq, Bool.false_eq_true] at h <;> rfl
  | bool x => intro b h; cases b <;> simp only [avEq, Bool.false_eq_true, beq_iff_eq] at h; rw [h]
  | int k n => intro b h; cases b <;> simp only [avEq, Bool.false_eq_true, Bool.and_eq_true, beq_iff_eq] at h; rw [h.1, h.2]
  | str s =>
    intro b h; cases b <;> simp only [avEq, Bool.false_eq_true, beq_iff_eq] at h
    rename_i s'
    obtain ⟨⟨x⟩⟩ := s
    obtain ⟨⟨y⟩⟩ := s'
    simp only at h
    rw [h]
  | nilp => intro b h; cases b <;> simp only [avEq, Bool.false_eq_true] at h <;> rfl
  | ptr x i o =>
    intro b h; cases b <;> simp only [avEq, Bool.false_eq_true, Bool.and_eq_true] at h
    rw [Nat.eq_of_beq_eq_true h.1.1, Nat.eq_of_beq_eq_true h.1.2, Nat.eq_of_beq_eq_true h.2]
  | lp cs ih => intro b h; cases b <;> simp only [avEq, Bool.false_eq_true] at h; rw [ih _ h]
  | nils => intro b h; cases b <;> simp only [avEq, Bool.false_eq_true] at h <;> rfl
  | sl sz xs ih =>
    intro b h; cases b <;> simp only [avEq, Bool.false_eq_true, Bool.and_eq_true] at h
    rw [Nat.eq_of_beq_eq_true h.1, ih _ h.2]
  | own x st len =>
    intro b h; cases b <;> simp only [avEq, Bool.false_eq_true, Bool.and_eq_true] at h
    rw [Nat.eq_of_beq_eq_true h.1.1, Nat.eq_of_beq_eq_true h.1.2, Nat.eq_of_beq_eq_true h.2]
  | nilm => intro b h; cases b <;> simp only [avEq, Bool.false_eq_true] at h <;> rfl
  | omap x => intro b h; cases b <;> simp only [avEq, Bool.false_eq_true] at h; rw [Nat.eq_of_beq_eq_true h]
  | fn f xs ys ih1 ih2 =>
    intro b h; cases b <;> simp only [avEq, Bool.false_eq_true, Bool.and_eq_true, decide_eq_true_eq] at h
    rw [h.1.1, ih1 _ h.1.2, ih2 _ h.2]
  | nilf => intro b h; cases b <;> simp only [avEq, Bool.false_eq_true] at h <;> rfl
  | ifc t v ih => intro b h; cases b <;> simp only [avEq, Bool.false_eq_true] at h
  | nili => intro b h; cases b <;> simp only [avEq, Bool.false_eq_true] at h <;> rfl
  | agg xs ih => intro b h; cases b <;> simp only [avEq, Bool.false_eq_true] at h; rw [ih _ h]
  | tup xs ih => intro b h; cases b <;> simp only [avEq, Bool.false_eq_true] at h; rw [ih _ h]
  | nil => rename_i ys h; cases ys <;> first | rfl | simp only [avsEq, Bool.false_eq_true] at h
  | cons x xs ih1 ih2 =>
    rename_i ys h
    cases ys with
    | nil => simp only [avsEq, Bool.false_eq_true] at h
    | cons y ys =>
      simp only [avsEq, Bool.and_eq_true] at h
      rw [ih1 _ h.1, ih2 _ h.2]

theorem avsEq_ok : ∀ (xs ys : List AV), avsEq xs ys = true → xs = ys
  | [], [], _ => rfl
  | [], _ :: _, h => by simp only [avsEq, Bool.false_eq_true] at h
  | _ :: _, [], h => by simp only [avsEq, Bool.false_eq_true] at h
  | x :: xs, y :: ys, h => by
    simp only [avsEq, Bool.and_eq_true] at h
    rw [avEq_ok x y h.1, avsEq_ok xs ys h.2]

theorem blkEq_ok {B C : Blk} (h : blkEq B C = true) : B = C := by
  unfold blkEq at h
  split at h
  · simp only [Bool.and_eq_true] at h
    rw [Nat.eq_of_beq_eq_true h.1, avsEq_ok _ _ h.2]
  · cases h

theorem heapEq_ok : ∀ (h g : Heap), heapEq h g = true → h = g
  | [], [], _ => rfl
  | [], _ :: _, h => by simp only [heapEq, Bool.false_eq_true] at h
  | _ :: _, [], h => by simp only [heapEq, Bool.false_eq_true] at h
  | (i, B) :: t, (j, C) :: u, h => by
    simp only [heapEq, Bool.and_eq_true] at h
    rw [Nat.eq_of_beq_eq_true h.1.1, blkEq_ok h.1.2, heapEq_ok t u h.2]

theorem plain_ren (σ : Nat → Nat) (x : AV) : x.plain = true → x.ren σ = x := by
  induction x using AV.rec (motive_2 := fun xs => plains xs = true → rens σ xs = xs) with
  | fn f xs ys ih1 ih2 => intro h; simp only [AV.plain, Bool.and_eq_true] at h; simp only [AV.ren, ih1 h.1, ih2 h.2]
  | ifc t v ih => intro h; simp only [AV.plain] at h; simp only [AV.ren, ih h]
  | agg xs ih => intro h; simp only [AV.plain] at h; simp only [AV.ren, ih h]
  | tup xs ih => intro h; simp only [AV.plain] at h; simp only [AV.ren, ih h]
  | ptr b i o => intro h; simp [AV.plain] at h
  | own b i o => intro h; simp [AV.plain] at h
  | omap b => intro h; simp [AV.plain] at h
  | nil => rfl
  | cons x xs ih1 ih2 => rename_i h; simp only [plains, Bool.and_eq_true] at h; simp only [rens, ih1 h.1, ih2 h.2]
  | _ => intro _; rfl

theorem plains_lends {al : Bool} {h : Heap} {τ : Nat → Nat} {ps : List Nat} : ∀ (xs : List AV), plains xs = true → Lends al h τ ps xs xs
  | [], _ => .nil
  | x :: xs, hx => by
    simp only [plains, Bool.and_eq_true] at hx
    exact .cons (.same (plain_ren τ x hx.1).symm) (plains_lends xs hx.2)

theorem lend1_ok (h : Heap) (x : AV) : ∀ u y, lend1 h x = some (u, y) → ∀ τ, Lend false h τ [] x y := by
  have pl : ∀ (x : AV) u y, (if x.plain then some (false, x) else none) = some (u, y) → ∀ τ, Lend false h τ [] x y := fun x u y hh τ => by
    split at hh
    · rename_i hp
      simp only [Option.some.injEq, Prod.mk.injEq] at hh
      obtain ⟨_, rfl⟩ := hh
      exact .same (plain_ren τ x hp).symm
    · cases hh
  induction x using AV.rec (motive_2 := fun xs => ∀ u ys, lends h xs = some (u, ys) → ∀ τ, Lends false h τ [] xs ys) with
  | own b st len =>
    intro u y hh τ
    simp only [lend1] at hh
    split at hh
    · rename_i sz xs hb
      split at hh
      · rename_i h0
        simp only [Bool.and_eq_true] at h0
        simp only [Option.some.injEq, Prod.mk.injEq] at hh
        obtain ⟨_, rfl⟩ := hh
        exact .own rfl rfl (hgO hb) (Nat.le_of_ble_eq_true h0.1) h0.2
      · cases hh
    · cases hh
  | agg xs ih =>
    intro u y hh τ
    simp only [lend1] at hh
    split at hh
    · rename_i u' ys hys
      simp only [Option.some.injEq, Prod.mk.injEq] at hh
      obtain ⟨_, rfl⟩ := hh
      exact Lend.of_list (ih _ _ hys τ)
    · cases hh
  | nil => rename_i u ys hh τ; simp only [lends, Option.some.injEq, Prod.mk.injEq] at hh; obtain ⟨_, rfl⟩ := hh; exact .nil
  | cons x xs ih1 ih2 =>
    rename_i u ys hh τ
    simp only [lends] at hh
    split at hh
    · rename_i u1 y u2 ys' h1 h2
      simp only [Option.some.injEq, Prod.mk.injEq] at hh
      obtain ⟨_, rfl⟩ := hh
      exact .cons (ih1 _ _ h1 τ) (ih2 _ _ h2 τ)
    · cases hh
  | _ => intro u y hh τ; exact pl _ u y (by simpa only [lend1] using hh) τ

theorem lends_ok (h : Heap) : ∀ (xs : List AV) u ys, lends h xs = some (u, ys) → ∀ τ, Lends false h τ [] xs ys
  | [], u, ys, hh, τ => by simp only [lends, Option.some.injEq, Prod.mk.injEq] at hh; obtain ⟨_, rfl⟩ := hh; exact .nil
  | x :: xs, u, ys, hh, τ => by
    simp only [lends] at hh
    split at hh
    · rename_i u1 y u2 ys' h1 h2
      simp only [Option.some.injEq, Prod.mk.injEq] at hh
      obtain ⟨_, rfl⟩ := hh
      exact .cons (lend1_ok h x _ _ h1 τ) (lends_ok h xs _ _ h2 τ)
    · cases hh

theorem frz1_ok (h : Heap) (x : AV) : ∀ y, frz1 h x = some y → Fz h x y := by
  have pl : ∀ (x y : AV), (if x.plain then some x else none) = some y → Fz h x y := fun x y hh => by
    split at hh
    · rename_i hp; obtain rfl := Option.some.inj hh; exact .same hp
    · cases hh
  induction x using AV.rec (motive_2 := fun xs => ∀ ys, frz2 h xs = some ys → Fzs h xs ys) with
  | own b st len =>
    intro y hh
    simp only [frz1] at hh
    split at hh
    · rename_i sz xs hb
      split at hh
      · rename_i h0
        simp only [Bool.and_eq_true] at h0
        obtain rfl := Option.some.inj hh
        exact .own (hgO hb) (Nat.le_of_ble_eq_true h0.1) h0.2
      · cases hh
    · cases hh
  | agg xs ih =>
    intro y hh
    simp only [frz1] at hh
    split at hh
    · rename_i ys hys
      obtain rfl := Option.some.inj hh
      have := (ih _ hys).tup
      cases this with
      | same hp => exact .same hp
      | tup hl k => exact .agg hl k
    · cases hh
  | tup xs ih =>
    intro y hh
    simp only [frz1] at hh
    split at hh
    · rename_i ys hys
      obtain rfl := Option.some.inj hh
      exact (ih _ hys).tup
    · cases hh
  | nil => rename_i ys hh; simp only [frz2, Option.some.injEq] at hh; subst hh; exact .nil
  | cons x xs ih1 ih2 =>
    rename_i ys hh
    simp only [frz2] at hh
    split at hh
    · rename_i y ys' h1 h2
      obtain rfl := Option.some.inj hh
      exact .cons (ih1 _ h1) (ih2 _ h2)
    · cases hh
  | _ => intro y hh; exact pl _ y (by simpa only [frz1] using hh)

section
variable {P : Program}

theorem stepQ0_ok {cf : CF} (hcf : CFok P cf) {op : Op} {tm : List (Nat × AV)} {v : AV} (he : stepQ0 P cf op tm = some v) (h : Heap) : OpQ P op tm h v := by
  unfold stepQ0 at he
  split at he
  · rename_i c hc
    split at he
    · rename_i f args ha
      split at he
      · rename_i hp
        split at he
        · rename_i r h' nx' hr
          obtain ⟨fo, first, caps, a0, k1, k2, _, k4, rfl⟩ := callArgs_ok ha
          obtain ⟨⟨fn, q1, q2, q3⟩, q4⟩ := hcf _ _ _ _ _ _ _ hr
          rw [isCall_ok hc]
          obtain ⟨cal, xs, ts⟩ := c
          subst k1
          exact op_callq (q4 true (.inl rfl)) q1 ⟨q2, q3⟩ k2 k4 (fun nx => plains_lends _ hp) (by rintro _ _ _ ⟨rfl, rfl, rfl⟩; exact frz1_ok _ _ _ he)
        · cases he
      · cases he
    · cases he
  · split at he
    · rename_i hv; obtain rfl := Option.some.inj he; exact (stepV_ok hv).q
    · exact stepF_ok he

theorem stepQ_ok {cf : CF} (hcf : CFok P cf) {op : Op} {tm : List (Nat × AV)} {v : AV} {h : Heap} (he : stepQ P cf op tm h = some v) : OpQ P op tm h v := by
  unfold stepQ at he
  split at he
  · rename_i c hc
    split at he
    · rename_i f args ha
      split at he
      · rename_i u largs hl
        split at he
        · rename_i r h' nx' hr
          split at he
          · rename_i hn
            simp only [Bool.and_eq_true] at hn
            obtain ⟨fo, first, caps, a0, k1, k2, _, k4, rfl⟩ := callArgs_ok ha
            obtain ⟨⟨fn, q1, q2, q3⟩, q4⟩ := hcf _ _ _ _ _ _ _ hr
            rw [isCall_ok hc]
            obtain ⟨cal, xs, ts⟩ := c
            subst k1
            exact op_callq (q4 false (.inr hn)) q1 ⟨q2, q3⟩ k2 k4 (fun nx => lends_ok _ _ _ _ hl _) (by rintro _ _ _ ⟨rfl, rfl, rfl⟩; exact frz1_ok _ _ _ he)
          · cases he
        · cases he
      · cases he
    · cases he
  · split at he
    · rename_i hv; obtain rfl := Option.some.inj he; exact (stepV_ok hv).q
    · split at he
      · rename_i hv; obtain rfl := Option.some.inj he; exact (stepH_ok hv).q
      · exact stepF_ok he

/-- Does the guard let it run? -/
def GdV (its : List IV) (g : Option (Nat × Bool)) (r : Bool) : Prop :=
  match g with
  | none => r = true
  | some (j, b) => ∃ q g, its[j]? = some q ∧ gv q.v = some g ∧ r = (g == some b)

theorem GdV.more {its : List IV} {g : Option (Nat × Bool)} {r : Bool} (h : GdV its g r) (it : IV) : GdV (its ++ [it]) g r := by
  unfold GdV at *
  split
  · exact h
  · obtain ⟨q, b', h1, h2, h3⟩ := h
    exact ⟨q, b', by rw [List.getElem?_append_left (List.getElem?_eq_some_iff.1 h1).1]; exact h1, h2, h3⟩

def KV (P : Program) (its : List IV) (hs : List (Heap × Nat)) (free : Bool) (i : Nat) (o : Oper) (it : IV) : Prop :=
  ∃ r, GdV its o.guard r ∧
    (r = true → (∃ H X, hs[rankV its i]? = some (H, X) ∧ (if it.ef then ∃ H' X', hs[rankV its i + 1]? = some (H', X') ∧ OpOK P o.op ⟨it.tm, H, X⟩ it.v H' X' else OpQ P o.op it.tm H it.v)) ∧ (free = true → it.ef = false ∧ ∀ H, OpQ P o.op it.tm H it.v)) ∧
    (r = false → it.v = .tup [] ∧ (it.ef = true → ∃ H X, hs[rankV its i]? = some (H, X) ∧ hs[rankV its i + 1]? = some (H, X)))

theorem rankV_more (its : List IV) (it : IV) {i : Nat} (h : i ≤ its.length) : rankV (its ++ [it]) i = rankV its i := by
  unfold rankV
  rw [List.take_append_of_le_length h]

theorem rankV_snoc (its : List IV) (it : IV) : rankV (its ++ [it]) (its.length + 1) = rankV its its.length + (if it.ef then 1 else 0) := by
  unfold rankV
  rw [List.take_of_length_le (by simp), List.take_of_length_le (by simp), List.countP_append, List.countP_cons]
  simp

theorem rankV_mono (its : List IV) {i j : Nat} (h : i ≤ j) : rankV its i ≤ rankV its j := by
  unfold rankV
  have e : its.take j = its.take i ++ (its.drop i).take (j - i) := by
    rw [← List.take_add, show i + (j - i) = j from by omega]
  rw [e, List.countP_append]
  omega

theorem rankV_lt {its : List IV} {i j : Nat} {it : IV} (hij : i < j) (hi : its[i]? = some it) (he : it.ef = true) : rankV its i + 1 ≤ rankV its j := by
  have h1 : rankV its (i + 1) = rankV its i + 1 := by
    unfold rankV
    rw [List.take_add_one, hi, List.countP_append]
    simp [he]
  rw [← h1]
  exact rankV_mono its hij

theorem KV.more {its : List IV} {hs : List (Heap × Nat)} {free : Bool} {i : Nat} {o : Oper} {it : IV} (h : KV P its hs free i o it) (jt : IV) (hs' : List (Heap × Nat)) (hi : i ≤ its.length) : KV P (its ++ [jt]) (hs ++ hs') free i o it := by
  have more : ∀ {k : Nat} {p : Heap × Nat}, hs[k]? = some p → (hs ++ hs')[k]? = some p := fun {k p} hk => by
    rw [List.getElem?_append_left (List.getElem?_eq_some_iff.1 hk).1]; exact hk
  obtain ⟨r, h1, h2, h3⟩ := h
  unfold KV
  rw [rankV_more its jt hi]
  refine ⟨r, h1.more jt, fun hr => ?_, fun hr => ?_⟩
  · obtain ⟨⟨H, X, h4, h5⟩, h6⟩ := h2 hr
    refine ⟨⟨H, X, more h4, ?_⟩, h6⟩
    cases hef : it.ef with
    | true =>
      rw [hef] at h5
      obtain ⟨H', X', k1, k2⟩ := h5
      exact ⟨H', X', more k1, k2⟩
    | false => rw [hef] at h5; exact h5
  · obtain ⟨h4, h5⟩ := h3 hr
    exact ⟨h4, fun he => by obtain ⟨H, X, k1, k2⟩ := h5 he; exact ⟨H, X, more k1, more k2⟩⟩

structure FV (P : Program) (st0 : St) (l : List Oper) (ps : List (Nat × List Nat)) (its : List IV) (hs : List (Heap × Nat)) (fr : List Nat) (st : St) : Prop where
  len : l.length = its.length
  plen : ps.length = its.length
  efp : ∀ (i : Nat) (p : Nat × List Nat) (it : IV), ps[i]? = some p → its[i]? = some it → it.ef = Nat.ble 2 p.1 ∧ (p.1 = 0 → fr.contains i = true)
  hlen : hs.length = rankV its its.length + 1
  last : hs[rankV its its.length]? = some (st.h, st.nx)
  zero : hs[0]? = some (st0.h, st0.nx)
  known : ∀ (i : Nat) (o : Oper) (it : IV), l[i]? = some o → its[i]? = some it → KV P its hs (fr.contains i) i o it
  sees : ∀ (i : Nat) (p : Nat × List Nat) (it : IV) (x : Nat), ps[i]? = some p → its[i]? = some it → tget it.tm x = .top ∨ x ∈ p.2 ∧
    (∀ (j : Nat) (o' : Oper) (jt : IV), j < i → l[j]? = some o' → its[j]? = some jt → o'.dst = some x → (∀ (k : Nat) (o'' : Oper), j < k → k < i → l[k]? = some o'' → o''.dst ≠ some x) → tget it.tm x = jt.v) ∧
    ((∀ (j : Nat) (o' : Oper), j < i → l[j]? = some o' → o'.dst ≠ some x) → tget it.tm x = tget st0.tm x)
  val : ∀ (i : Nat) (o : Oper) (it : IV) (x : Nat), l[i]? = some o → its[i]? = some it → o.dst = some x → (∀ (j : Nat) (o' : Oper), i < j → l[j]? = some o' → o'.dst ≠ some x) → tget st.tm x = it.v
  old : ∀ x, (∀ (i : Nat) (o : Oper), l[i]? = some o → o.dst ≠ some x) → tget st.tm x = tget st0.tm x
  frs : ∀ i ∈ fr, i < its.length

theorem FV.snoc {st0 : St} {l : List Oper} {ps : List (Nat × List Nat)} {its : List IV} {hs hs' : List (Heap × Nat)} {fr fr' : List Nat} {st st' : St} (h : FV P st0 l ps its hs fr st) (o : Oper) (p : Nat × List Nat) (it : IV) (htm : st'.tm = (putA o.dst it.v st).tm)
    (hef : it.ef = Nat.ble 2 p.1) (hlen : hs'.length = if it.ef then 1 else 0) (hlast : (hs ++ hs')[rankV its its.length + (if it.ef then 1 else 0)]? = some (st'.h, st'.nx)) (hfr : ∀ i, i < its.length → fr'.contains i = fr.contains i) (hf0 : p.1 = 0 → fr'.contains its.length = true) (hfl : ∀ i ∈ fr', i < its.length + 1)
    (hs1 : ∀ x, tget it.tm x = .top ∨ x ∈ p.2 ∧ tget it.tm x = tget st.tm x)
    (hk : KV P (its ++ [it]) (hs ++ hs') (fr'.contains its.length) its.length o it) : FV P st0 (l ++ [o]) (ps ++ [p]) (its ++ [it]) (hs ++ hs') fr' st' := by
  have hl := h.len
  have hpl := h.plen
  refine ⟨by simp [hl], by simp [hpl], fun i q jt hq hjt => ?_, by simp only [List.length_append, List.length_cons, List.length_nil, Nat.zero_add]; rw [rankV_snoc, h.hlen, hlen]; omega, by simp only [List.length_append, List.length_cons, List.length_nil, Nat.zero_add]; rw [rankV_snoc]; exact hlast, ?_, ?_, ?_, ?_, ?_, fun i hi => by simp only [List.length_append, List.length_cons, List.length_nil]; exact hfl i hi⟩
  · rcases snoc_get hq with ⟨h1, h2⟩ | ⟨h1, h2⟩
    · rcases snoc_get hjt with ⟨h3, h4⟩ | ⟨h3, h4⟩
      · rw [hfr i h3]; exact h.efp i q jt h2 h4
      · omega
    · rcases snoc_get hjt with ⟨h3, h4⟩ | ⟨h3, h4⟩
      · omega
      · subst h2; subst h4; subst h3; exact ⟨hef, hf0⟩
  · rw [List.getElem?_append_left (by rw [h.hlen]; omega)]; exact h.zero
  · intro i o' it' ho hit
    rcases snoc_get ho with ⟨h1, h2⟩ | ⟨h1, h2⟩
    · rcases snoc_get hit with ⟨h3, h4⟩ | ⟨h3, h4⟩
      · rw [hfr i h3]; exact (h.known i o' it' h2 h4).more it hs' (by omega)
      · omega
    · rcases snoc_get hit with ⟨h3, h4⟩ | ⟨h3, h4⟩
      · omega
      · subst h2; subst h4; subst h3; exact hk
  · intro i q jt x hq hjt
    have lft : ∀ (k : Nat) (o'' : Oper), k < i → i ≤ l.length → (l ++ [o])[k]? = some o'' → l[k]? = some o'' := fun k o'' hk hi hh => by
      rw [List.getElem?_append_left (by omega)] at hh; exact hh
    have rgt : ∀ (k : Nat) (o'' : Oper), l[k]? = some o'' → (l ++ [o])[k]? = some o'' := fun k o'' hh => by
      rw [List.getElem?_append_left (List.getElem?_eq_some_iff.1 hh).1]; exact hh
    rcases snoc_get hq with ⟨h1, h2⟩ | ⟨h1, h2⟩
    · rcases snoc_get hjt with ⟨h3, h4⟩ | ⟨h3, h4⟩
      · rcases h.sees i q jt x h2 h4 with e | ⟨e1, e2, e3⟩
        · exact .inl e
        · refine .inr ⟨e1, fun j o' kt hj ho' hkt hd hno => ?_, fun hno => e3 fun j o' hj ho' => hno j o' hj (rgt j o' ho')⟩
          rcases snoc_get hkt with ⟨h5, h6⟩ | ⟨h5, h6⟩
          · exact e2 j o' kt hj (lft j o' hj (by omega) ho') h6 hd (fun k o'' hk1 hk2 ho'' => hno k o'' hk1 hk2 (rgt k o'' ho''))
          · omega
      · omega
    · rcases snoc_get hjt with ⟨h3, h4⟩ | ⟨h3, h4⟩
      · omega
      · subst h2; subst h4
        rcases hs1 x with e | ⟨e1, e2⟩
        · exact .inl e
        · refine .inr ⟨e1, fun j o' kt hj ho' hkt hd hno => ?_, fun hno => ?_⟩
          · rw [e2]
            rcases snoc_get hkt with ⟨h5, h6⟩ | ⟨h5, h6⟩
            · exact h.val j o' kt x (lft j o' hj (by omega) ho') h6 hd (fun k o'' hk1 ho'' => hno k o'' hk1 (by have := (List.getElem?_eq_some_iff.1 ho'').1; omega) (rgt k o'' ho''))
            · omega
          · rw [e2]
            exact h.old x (fun j o' ho' => hno j o' (by have := (List.getElem?_eq_some_iff.1 ho').1; omega) (rgt j o' ho'))
  · intro i o' it' x ho hit hx hno
    rw [htm, tget_putA]
    rcases snoc_get ho with ⟨h1, h2⟩ | ⟨h1, h2⟩
    · rcases snoc_get hit with ⟨h3, h4⟩ | ⟨h3, h4⟩
      · rw [if_neg (hno l.length o h1 (by simp))]
        exact h.val i o' it' x h2 h4 hx (fun j o'' hij hj => hno j o'' hij (by rw [List.getElem?_append_left (List.getElem?_eq_some_iff.1 hj).1]; exact hj))
      · omega
    · rcases snoc_get hit with ⟨h3, h4⟩ | ⟨h3, h4⟩
      · omega
      · subst h2; subst h4
        rw [if_pos hx]
  · intro x hno
    rw [htm, tget_putA, if_neg (hno l.length o (by simp))]
    exact h.old x (fun i o' hi => hno i o' (by rw [List.getElem?_append_left (List.getElem?_eq_some_iff.1 hi).1]; exact hi))

theorem selF_mem {tm : List (Nat × AV)} : ∀ (ks : List Nat) (tm1 : List (Nat × AV)), selF tm ks = some tm1 → ∀ x, tget tm1 x = .top ∨ x ∈ ks ∧ tget tm1 x = tget tm x := by
  intro ks
  induction ks with
  | nil => intro tm1 h x; simp only [selF, Option.some.injEq] at h; subst h; exact .inl rfl
  | cons k ks ih =>
    intro tm1 h x
    simp only [selF] at h
    split at h
    · rename_i v r h1 h2
      obtain rfl := Option.some.inj h
      simp only [tget]
      by_cases e : k = x
      · subst e
        rw [if_pos rfl]
        rw [tgF_eq] at h1
        exact .inr ⟨List.mem_cons_self, (tgetS_spec _ _ _ h1).symm⟩
      · rw [if_neg e]
        exact (ih r h2 x).imp id (fun h => ⟨List.mem_cons_of_mem _ h.1, h.2⟩)
    · cases h

theorem giv_ok {its : List IV} {j : Nat} (hj : j < its.length) {g : Option Bool} (h : giv its j = some g) : ∃ q, its.reverse[j]? = some q ∧ gv q.v = some g := by
  unfold giv at h
  split at h
  · rename_i it hit
    refine ⟨it, ?_, h⟩
    rw [List.getElem?_reverse hj]
    exact hit
  · cases h

theorem runDraw_go {cf : CF} (hcf : CFok P cf) {st0 : St} {rest : List Oper} (ih : ∀ (ps : List (Nat × List Nat)) (done : List Oper) (dps : List (Nat × List Nat)) (its : List IV) (hs : List (Heap × Nat)) (fr : List Nat) (st : St) (its' : List IV) (hs' : List (Heap × Nat)) (fr' : List Nat) (st' : St),
    runDraw P cf rest ps its hs fr st = some (its', hs', fr', st') → FV P st0 done dps its.reverse hs.reverse fr st → FV P st0 (done ++ rest) (dps ++ ps) its'.reverse hs'.reverse fr' st')
    {o : Oper} {k : Nat} {ks : List Nat} {ps : List (Nat × List Nat)} {done : List Oper} {dps : List (Nat × List Nat)} {its : List IV} {hs : List (Heap × Nat)} {fr : List Nat} {st : St} {its' : List IV} {hs' : List (Heap × Nat)} {fr' : List Nat} {st' : St}
    (hh : (match selF st.tm ks with
              | some tm1 => match k with
                | 0 => match stepQ0 P cf o.op tm1 with
                  | some v => forceV v fun v => runDraw P cf rest ps (⟨v, false, tm1⟩ :: its) hs (its.length :: fr) (putA o.dst v st)
                  | none => none
                | 1 => match stepQ P cf o.op tm1 st.h with
                  | some v => forceV v fun v => runDraw P cf rest ps (⟨v, false, tm1⟩ :: its) hs fr (putA o.dst v st)
                  | none => none
                | _ => match stepAny P cf o.op tm1 st.h st.nx with
                  | some (v, h', nx') => forceV v fun v => forceN nx' fun nx' => runDraw P cf rest ps (⟨v, true, tm1⟩ :: its) ((h', nx') :: hs) fr (putA o.dst v ⟨st.tm, h', nx'⟩)
                  | none => none
              | none => none) = some (its', hs', fr', st'))
    (hg : GdV its.reverse o.guard true) (hF : FV P st0 done dps its.reverse hs.reverse fr st) : FV P st0 ((done ++ [o]) ++ rest) ((dps ++ [(k, ks)]) ++ ps) its'.reverse hs'.reverse fr' st' := by
  have cons_c : ∀ (fr : List Nat) (n i : Nat), i < n → (n :: fr).contains i = fr.contains i := fun fr n i hi => by
    rw [List.contains_cons]
    have : (i == n) = false := by simp; omega
    rw [this]; rfl
  have il : its.reverse.length = its.length := List.length_reverse
  have hrl : hs.reverse.length = rankV its.reverse its.reverse.length + 1 := hF.hlen
  split at hh
  · rename_i tm1 htm1
    have hsee := selF_mem ks tm1 htm1
    split at hh
    · split at hh
      · rename_i v hv
        rw [forceV_eq] at hh
        refine ih _ _ _ _ _ _ _ _ _ _ _ hh ?_
        have hq := stepQ0_ok hcf hv
        have := hF.snoc o (0, ks) ⟨v, false, tm1⟩ (st' := putA o.dst v st) (hs' := []) (fr' := its.length :: fr) rfl rfl rfl (by simpa [putA_h, putA_nx] using hF.last) (fun i hi => cons_c fr _ i (by omega)) (fun _ => by simp [il]) (fun i hi => by
          rcases List.mem_cons.1 hi with rfl | hi
          · omega
          · have := hF.frs i hi; omega) hsee ⟨true, hg.more _, fun _ => ⟨⟨st.h, st.nx, by rw [rankV_more _ _ (Nat.le_refl _), List.append_nil]; exact hF.last, hq _⟩, fun _ => ⟨rfl, hq⟩⟩, fun e => by cases e⟩
        rw [List.append_nil] at this
        rw [List.reverse_cons]; exact this
      · cases hh
    · split at hh
      · rename_i v hv
        rw [forceV_eq] at hh
        refine ih _ _ _ _ _ _ _ _ _ _ _ hh ?_
        have hq := stepQ_ok hcf hv
        have := hF.snoc o (1, ks) ⟨v, false, tm1⟩ (st' := putA o.dst v st) (hs' := []) (fr' := fr) rfl rfl rfl (by simpa [putA_h, putA_nx] using hF.last) (fun i hi => rfl) (fun e => by cases e) (fun i hi => Nat.lt_succ_of_lt (hF.frs i hi)) hsee
          ⟨true, hg.more _, fun _ => ⟨⟨st.h, st.nx, by rw [rankV_more _ _ (Nat.le_refl _), List.append_nil]; exact hF.last, hq⟩, fun hc => by
            have := hF.frs its.reverse.length (by simpa using hc)
            omega⟩, fun e => by cases e⟩
        rw [List.append_nil] at this
        rw [List.reverse_cons]; exact this
      · cases hh
    · rename_i k2 hk0 hk1
      split at hh
      · rename_i v h1 n1 hv
        rw [forceV_eq, forceN_eq] at hh
        refine ih _ _ _ _ _ _ _ _ _ _ _ hh ?_
        have hq := stepAny_ok hcf hv
        have h2 : Nat.ble 2 k = true := Nat.ble_eq_true_of_le (by
          match k, hk0, hk1 with
          | 0, h0, _ => exact absurd rfl h0
          | 1, _, h1 => exact absurd rfl h1
          | k + 2, _, _ => omega)
        have := hF.snoc o (k, ks) ⟨v, true, tm1⟩ (st' := putA o.dst v ⟨st.tm, h1, n1⟩) (hs' := [(h1, n1)]) (fr' := fr) (by cases o.dst <;> rfl) h2.symm rfl (by
            rw [putA_h, putA_nx, List.getElem?_append_right (by rw [hrl]; exact Nat.le_refl _), hrl]; simp) (fun i hi => rfl) (fun e => by rw [show k = 0 from e] at h2; cases h2) (fun i hi => Nat.lt_succ_of_lt (hF.frs i hi)) hsee
          ⟨true, hg.more _, fun _ => ⟨⟨st.h, st.nx, by rw [rankV_more _ _ (Nat.le_refl _), List.getElem?_append_left (by rw [hrl]; omega)]; exact hF.last, by
            rw [rankV_more _ _ (Nat.le_refl _)]
            exact ⟨h1, n1, by rw [List.getElem?_append_right (by rw [hrl]; exact Nat.le_refl _), hrl]; simp, hq⟩⟩, fun hc => by
            have := hF.frs its.reverse.length (by simpa using hc)
            omega⟩, fun e => by cases e⟩
        rw [List.reverse_cons, List.reverse_cons]; exact this
      · cases hh
  · cases hh

theorem runDraw_ok {cf : CF} (hcf : CFok P cf) {st0 : St} : ∀ (rest : List Oper) (ps : List (Nat × List Nat)) (done : List Oper) (dps : List (Nat × List Nat)) (its : List IV) (hs : List (Heap × Nat)) (fr : List Nat) (st : St) (its' : List IV) (hs' : List (Heap × Nat)) (fr' : List Nat) (st' : St),
    runDraw P cf rest ps its hs fr st = some (its', hs', fr', st') → FV P st0 done dps its.reverse hs.reverse fr st → FV P st0 (done ++ rest) (dps ++ ps) its'.reverse hs'.reverse fr' st' := by
  have cons_c : ∀ (fr : List Nat) (n i : Nat), i < n → (n :: fr).contains i = fr.contains i := fun fr n i hi => by
    rw [List.contains_cons]
    have : (i == n) = false := by simp; omega
    rw [this]; rfl
  intro rest
  induction rest with
  | nil =>
    intro ps done dps its hs fr st its' hs' fr' st' h hF
    cases ps with
    | nil =>
      simp only [runDraw, Option.some.injEq, Prod.mk.injEq] at h
      obtain ⟨rfl, rfl, rfl, rfl⟩ := h
      simpa using hF
    | cons p ps => simp only [runDraw, reduceCtorEq] at h
  | cons o rest ih =>
    intro ps done dps its hs fr st its' hs' fr' st' h hF
    cases ps with
    | nil => simp only [runDraw, reduceCtorEq] at h
    | cons p ps =>
      obtain ⟨k, ks⟩ := p
      have e1 : done ++ o :: rest = (done ++ [o]) ++ rest := by simp
      have e2 : dps ++ (k, ks) :: ps = (dps ++ [(k, ks)]) ++ ps := by simp
      rw [e1, e2]
      have il : its.reverse.length = its.length := List.length_reverse
      have hrl : hs.reverse.length = rankV its.reverse its.reverse.length + 1 := hF.hlen
      unfold runDraw at h
      simp only [] at h
      split at h
      · rename_i hg
        exact runDraw_go hcf ih h (by rw [hg]; rfl) hF
      · rename_i j b hg
        split at h
        · rename_i hj
          have hj : j < its.length := by simpa using hj
          split at h
          · rename_i g hgv
            obtain ⟨q, q1, q2⟩ := giv_ok hj hgv
            split at h
            · rename_i hgb
              exact runDraw_go hcf ih h (by rw [hg]; exact ⟨q, g, q1, q2, hgb.symm⟩) hF
            · rename_i hgb
              have hgb : (g == some b) = false := by simpa using hgb
              have hG : GdV its.reverse o.guard false := by rw [hg]; exact ⟨q, g, q1, q2, hgb.symm⟩
              split at h
              · rename_i h2
                refine ih _ _ _ _ _ _ _ _ _ _ _ h ?_
                have := hF.snoc o (k, ks) ⟨.tup [], true, []⟩ (st' := putA o.dst (.tup []) st) (hs' := [(st.h, st.nx)]) (fr' := fr) rfl h2.symm rfl (by
                    rw [putA_h, putA_nx, List.getElem?_append_right (by rw [hrl]; exact Nat.le_refl _), hrl]; simp) (fun i hi => rfl) (fun e => by rw [show k = 0 from e] at h2; cases h2) (fun i hi => Nat.lt_succ_of_lt (hF.frs i hi)) (fun x => .inl rfl)
                  ⟨false, hG.more _, (fun e => by cases e), fun _ => ⟨rfl, fun _ => ⟨st.h, st.nx, by rw [rankV_more _ _ (Nat.le_refl _), List.getElem?_append_left (by rw [hrl]; omega)]; exact hF.last, by
                    rw [rankV_more _ _ (Nat.le_refl _), List.getElem?_append_right (by rw [hrl]; exact Nat.le_refl _), hrl]; simp⟩⟩⟩
                rw [List.reverse_cons, List.reverse_cons]; exact this
              · rename_i h2
                refine ih _ _ _ _ _ _ _ _ _ _ _ h ?_
                have := hF.snoc o (k, ks) ⟨.tup [], false, []⟩ (st' := putA o.dst (.tup []) st) (hs' := []) (fr' := its.length :: fr) rfl (by cases hb : Nat.ble 2 k with | true => exact absurd hb h2 | false => rfl) rfl (by simpa [putA_h, putA_nx] using hF.last) (fun i hi => cons_c fr _ i (by omega)) (fun _ => by simp [il]) (fun i hi => by
                  rcases List.mem_cons.1 hi with rfl | hi
                  · omega
                  · have := hF.frs i hi; omega) (fun x => .inl rfl) ⟨false, hG.more _, (fun e => by cases e), fun _ => ⟨rfl, fun e => by cases e⟩⟩
                rw [List.append_nil] at this
                rw [List.reverse_cons]; exact this
          · cases h
        · cases h

end
end Go.Proofs.Ytloddmbbfkejcaa.Abs
end
section
/-
  A machine that runs codes whose inputs are known: what it comes to is what the program comes to. It holds of any program.
-/
namespace Go.Proofs.Ytloddmbbfkejcaa.Abs

section
variable {P : Program}

theorem mkSg_ok {cf : CF} {l : List Oper} {its : List IV} {hs : List (Heap × Nat)} : ∀ (sp : List (List Nat × Nat × Nat)) (acc sg : List SG), mkSg P cf l its hs sp acc = some sg →
    ∃ tail, sg = acc ++ tail ∧ tail.length = sp.length ∧ ∀ (s : Nat) (q : List Nat × Nat × Nat) (g : SG), sp[s]? = some q → tail[s]? = some g → g.e = q.1 ∧ (q.2.1 = 0 → hs[q.2.2]? = some (g.h, g.x)) := by
  intro sp
  induction sp with
  | nil => intro acc sg h; simp only [mkSg, Option.some.injEq] at h; exact ⟨[], by simp [h], rfl, fun s q g hq => by simp at hq⟩
  | cons q sp ih =>
    intro acc sg h
    obtain ⟨e, p, k⟩ := q
    have step : ∀ (g0 : SG), g0.e = e → (p = 0 → hs[k]? = some (g0.h, g0.x)) → mkSg P cf l its hs sp (acc ++ [g0]) = some sg → ∃ tail, sg = acc ++ tail ∧ tail.length = ((e, p, k) :: sp).length ∧ ∀ (s : Nat) (q : List Nat × Nat × Nat) (g : SG), ((e, p, k) :: sp)[s]? = some q → tail[s]? = some g → g.e = q.1 ∧ (q.2.1 = 0 → hs[q.2.2]? = some (g.h, g.x)) := by
      intro g0 h1 h2 h3
      obtain ⟨tail, t1, t2, t3⟩ := ih _ _ h3
      refine ⟨g0 :: tail, by rw [t1]; simp, by simp [t2], fun s q g hq hg => ?_⟩
      cases s with
      | zero =>
        simp only [List.getElem?_cons_zero, Option.some.injEq] at hq hg
        subst hq; subst hg
        exact ⟨h1, h2⟩
      | succ s => simp only [List.getElem?_cons_succ] at hq hg; exact t3 s q g hq hg
    cases p with
    | zero =>
      simp only [mkSg] at h
      split at h
      · rename_i hh x hk
        exact step ⟨e, hh, x⟩ rfl (fun _ => hk) h
      · cases h
    | succ p =>
      simp only [mkSg] at h
      split at h
      · rename_i g o it h1 h2 h3
        split at h
        · exact step ⟨e, g.h, b1of its hs k⟩ rfl (fun e => by cases e) h
        · split at h
          · rename_i v h' x' hv
            exact step ⟨e, h', x'⟩ rfl (fun e => by cases e) h
          · cases h
      · cases h

def toIX (its : List IV) (hs : List (Heap × Nat)) : List IX := its.mapIdx fun i it => ⟨it.v, it.ef, b0of its hs i, b1of its hs i, it.tm⟩

theorem toIX_get {its : List IV} {hs : List (Heap × Nat)} {i : Nat} : (toIX its hs)[i]? = (its[i]?).map fun it => ⟨it.v, it.ef, b0of its hs i, b1of its hs i, it.tm⟩ := by
  unfold toIX
  rw [List.getElem?_mapIdx]

theorem toIX_some {its : List IV} {hs : List (Heap × Nat)} {i : Nat} {ix : IX} (h : (toIX its hs)[i]? = some ix) : ∃ it, its[i]? = some it ∧ ix = ⟨it.v, it.ef, b0of its hs i, b1of its hs i, it.tm⟩ := by
  rw [toIX_get] at h
  obtain ⟨it, h1, h2⟩ := Option.map_eq_some_iff.1 h
  exact ⟨it, h1, h2.symm⟩

theorem hrOK_ok {X β β1 k : Nat} {H1 H2 : Heap} (h : hrOK X β β1 k H1 H2 = true) : HR X β β1 H1 H2 := by
  intro b B hb
  have mem : ∀ (H : Heap) (B : Blk), hget H b = some B → ∃ p ∈ H, p.1 = b := by
    intro H
    induction H with
    | nil => intro B e; cases e
    | cons q t ih =>
      obtain ⟨j, v⟩ := q
      intro B e
      by_cases ej : j = b
      · exact ⟨(j, v), List.mem_cons_self, ej⟩
      · simp only [hget, ej, if_false] at e
        obtain ⟨p, hp, he⟩ := ih B e
        exact ⟨p, List.mem_cons_of_mem _ hp, he⟩
  obtain ⟨p, hp, rfl⟩ := mem H2 B hb
  unfold hrOK at h
  have := List.all_eq_true.1 h p hp
  split at this
  · rename_i B' hB'
    rw [hgetF_eq, hb] at hB'
    obtain rfl := Option.some.inj hB'
    simp only [] at this
    generalize (if (Nat.ble β p.fst && p.fst.blt (β + k)) = true then p.fst - β + X else p.fst) = b1 at this
    split at this
    · rename_i B1 hB1
      simp only [Bool.and_eq_true, Bool.or_eq_true] at this
      obtain ⟨⟨h1, h2⟩, h3⟩ := this
      refine ⟨b1, B1, hgO hB1, Nat.eq_of_beq_eq_true h1, blkEq_ok h2, fun hlt => ?_⟩
      rcases h3 with (h3 | h3) | h3
      · have := Nat.le_of_ble_eq_true h3; omega
      · exact .inl (by simpa using h3)
      · exact .inr (Nat.le_of_ble_eq_true h3)
    · cases this
  · cases this

/-- What another place of an operation says. -/
def ExX (P : Program) (its : List IV) (hs : List (Heap × Nat)) (sg : List SG) (i s' : Nat) (o : Oper) (it : IV) (g : SG) : Prop :=
  if it.ef then ∃ g', sg[s']? = some g' ∧ EffX P o.op it.tm g g' ⟨it.v, it.ef, b0of its hs i, b1of its hs i, it.tm⟩ else OpQ P o.op it.tm g.h it.v

theorem exOK_ok {cf : CF} (hcf : CFok P cf) {l : List Oper} {its : List IV} {hs : List (Heap × Nat)} {sg : List SG} {q : Nat × Nat × Nat} (h : exOK P cf l its hs sg q = true) {o : Oper} {it : IV} {g : SG} (ho : l[q.1]? = some o) (hit : its[q.1]? = some it) (hg : sg[q.2.1]? = some g) :
    match o.guard with
    | none => ExX P its hs sg q.1 q.2.2 o it g
    | some (j, b) => ∃ r w, its[j]? = some r ∧ gv r.v = some w ∧ (w = some b → ExX P its hs sg q.1 q.2.2 o it g) ∧ (w ≠ some b → it.ef = true → ∃ g', sg[q.2.2]? = some g' ∧ g'.h = g.h ∧ g.x ≤ g'.x) := by
  have go : exOK.go P cf its hs sg q o it g = true → ExX P its hs sg q.1 q.2.2 o it g := by
    intro hh
    unfold exOK.go at hh
    unfold ExX
    cases hef : it.ef with
    | true =>
      rw [hef] at hh
      simp only [if_true] at hh ⊢
      split at hh
      · rename_i g' hg'
        refine ⟨g', hg', ?_⟩
        split at hh
        · rename_i hle
          split at hh
          · rename_i v h' x' hv
            simp only [Bool.and_eq_true] at hh
            obtain ⟨⟨⟨k1, k2⟩, k3⟩, k4⟩ := hh
            have k1 := avEq_ok _ _ k1
            have k2 := heapEq_ok _ _ k2
            have k3 := Nat.eq_of_beq_eq_true k3
            have k4 := Nat.eq_of_beq_eq_true k4
            subst k1 k2
            refine .inl ⟨Nat.le_of_ble_eq_true hle, by rw [k4]; exact k3, ?_⟩
            rw [k4]
            exact stepAny_ok hcf hv
          · cases hh
        · simp only [Bool.and_eq_true] at hh
          obtain ⟨⟨k1, k2⟩, hh⟩ := hh
          split at hh
          · rename_i v1 h1 x1 hv
            simp only [Bool.and_eq_true] at hh
            obtain ⟨⟨⟨k3, k4⟩, k5⟩, k6⟩ := hh
            have k3 := Nat.le_of_ble_eq_true k3
            refine .inr ⟨Nat.le_of_ble_eq_true k1, Nat.eq_of_beq_eq_true k2, v1, h1, x1 - g.x, ?_, Nat.le_of_ble_eq_true k4, avEq_ok _ _ k5, hrOK_ok k6⟩
            rw [Nat.add_sub_cancel' k3]
            exact stepAny_ok hcf hv
          · cases hh
      · cases hh
    | false =>
      rw [hef] at hh
      simp only [Bool.false_eq_true, if_false] at hh ⊢
      split at hh
      · rename_i v hv
        rw [← avEq_ok _ _ hh]
        exact stepQ_ok hcf hv
      · cases hh
  unfold exOK at h
  rw [ho, hit, hg] at h
  simp only [] at h
  split at h
  · rename_i j b hgd
    rw [hgd]
    simp only []
    split at h
    · rename_i r hr
      split at h
      · rename_i w hw
        refine ⟨r, w, hr, hw, fun e => ?_, fun e hef => ?_⟩
        · rw [if_pos (by simp [e])] at h; exact go h
        · rw [if_neg (by simpa using e), if_pos hef] at h
          split at h
          · rename_i g' hg'
            simp only [Bool.and_eq_true] at h
            exact ⟨g', hg', (heapEq_ok _ _ h.1).symm, Nat.le_of_ble_eq_true h.2⟩
          · cases h
      · cases h
    · cases h
  · rename_i hgd
    rw [hgd]
    exact go h

theorem rankP_eq {ps : List (Nat × List Nat)} {its : List IV} (hl : ps.length = its.length) (he : ∀ (i : Nat) (p : Nat × List Nat) (it : IV), ps[i]? = some p → its[i]? = some it → it.ef = Nat.ble 2 p.1) (i : Nat) : rankP ps i = rankV its i := by
  have e : its.map (·.ef) = ps.map (fun p => Nat.ble 2 p.1) := by
    refine List.ext_getElem? fun k => ?_
    rw [List.getElem?_map, List.getElem?_map]
    cases h1 : its[k]? with
    | none =>
      rw [List.getElem?_eq_none_iff] at h1
      rw [List.getElem?_eq_none (by omega)]; rfl
    | some it =>
      obtain ⟨p, hp⟩ : ∃ p, ps[k]? = some p := ⟨_, List.getElem?_eq_getElem (by rw [hl]; exact (List.getElem?_eq_some_iff.1 h1).1)⟩
      rw [hp, Option.map_some, Option.map_some, he k p it hp h1]
  unfold rankP rankV
  have c1 : (ps.take i).countP (fun p => Nat.ble 2 p.1) = ((ps.map (fun p => Nat.ble 2 p.1)).take i).countP id := by rw [← List.map_take, List.countP_map]; rfl
  have c2 : (its.take i).countP (fun it => it.ef) = ((its.map (·.ef)).take i).countP id := by rw [← List.map_take, List.countP_map]; rfl
  rw [c1, c2, e]

theorem monoX_ok : ∀ (hs : List (Heap × Nat)), monoX hs = true → ∀ (j i : Nat) (p q : Heap × Nat), i ≤ j → hs[i]? = some p → hs[j]? = some q → p.2 ≤ q.2
  | [], _, j, i, p, q, _, hp, _ => by simp at hp
  | [a], _, j, i, p, q, hij, hp, hq => by
    have h1 : i < 1 := (List.getElem?_eq_some_iff.1 hp).1
    have h2 : j < 1 := (List.getElem?_eq_some_iff.1 hq).1
    obtain rfl : i = 0 := by omega
    obtain rfl : j = 0 := by omega
    rw [hp] at hq
    obtain rfl := Option.some.inj hq
    exact Nat.le_refl _
  | a :: b :: t, h, j, i, p, q, hij, hp, hq => by
    simp only [monoX, Bool.and_eq_true] at h
    cases j with
    | zero =>
      obtain rfl : i = 0 := by omega
      rw [hp] at hq
      obtain rfl := Option.some.inj hq
      exact Nat.le_refl _
    | succ j =>
      rw [List.getElem?_cons_succ] at hq
      cases i with
      | zero =>
        simp only [List.getElem?_cons_zero, Option.some.injEq] at hp
        subst hp
        exact Nat.le_trans (Nat.le_of_ble_eq_true h.1) (monoX_ok (b :: t) h.2 j 0 b q (Nat.zero_le _) rfl hq)
      | succ i =>
        rw [List.getElem?_cons_succ] at hp
        exact monoX_ok (b :: t) h.2 j i p q (by omega) hp hq

theorem sameS_ok {l l' : List Nat} (h : sameS l l' = true) (j : Nat) : j ∈ l ↔ j ∈ l' := by
  unfold sameS at h
  simp only [Bool.and_eq_true] at h
  constructor
  · intro hj; have := List.all_eq_true.1 h.1 j hj; simpa using this
  · intro hj; have := List.all_eq_true.1 h.2 j hj; simpa using this

/-- A region whose order is open. -/
theorem drawn_ok {cf : CF} (hcf : CFok P cf) (hm : P.follows .mixedOrders = true) {c : Ctx} {n id : Nat} {Q : Exit → St → Prop} {l : List Oper} {pl : PL} {st st' : St} (h : drawn P cf n l pl st = some st') (hQ : Q .normal st') : AW P c n (.region id l.toArray true) Q st := by
  unfold drawn at h
  split at h
  · rename_i hchk
    rw [Bool.and_eq_true] at hchk
    obtain ⟨hchk, hdn⟩ := hchk
    split at h
    · rename_i its0 hs0 fr st1 hrun
      split at h
      · rename_i hmono
        split at h
        · rename_i sg hsg
          split at h
          · rename_i hex
            obtain rfl := Option.some.inj h
            have hF := runDraw_ok (P := P) hcf (st0 := st) l pl.its [] [] [] [(st.h, st.nx)] [] st its0 hs0 fr st1 hrun
              ⟨rfl, rfl, fun i p it h => by simp at h, rfl, rfl, rfl, fun i o it h => by simp at h, fun i p it x h => by simp at h, fun i o it x h => by simp at h, fun _ _ => rfl, fun i hi => by cases hi⟩
            rw [List.nil_append, List.nil_append] at hF
            generalize its0.reverse = its at hF hsg hex
            generalize hs0.reverse = hs at hF hsg hex hmono
            obtain ⟨tail, t1, t2, t3⟩ := mkSg_ok _ _ _ hsg
            rw [List.nil_append] at t1
            subst t1
            have hefp := hF.efp
            have hrk : ∀ i, rankP pl.its i = rankV its i := rankP_eq hF.plen (fun i p it a b => (hefp i p it a b).1)
            unfold chkX at hchk
            simp only [Bool.and_eq_true] at hchk
            obtain ⟨⟨⟨⟨⟨⟨cA, cB⟩, cC⟩, cD⟩, cE⟩, cF⟩, cG⟩ := hchk
            -- an operation's checks
            have one : ∀ (i : Nat) (o : Oper), l[i]? = some o → ∃ k ks it, pl.its[i]? = some (k, ks) ∧ its[i]? = some it ∧ it.ef = Nat.ble 2 k ∧ chkX1 l pl i o k ks = true := fun i o ho => by
              have hil : i < l.length := (List.getElem?_eq_some_iff.1 ho).1
              obtain ⟨it, hit⟩ : ∃ it, its[i]? = some it := ⟨_, List.getElem?_eq_getElem (by rw [← hF.len]; exact hil)⟩
              obtain ⟨p, hp⟩ : ∃ p, pl.its[i]? = some p := ⟨_, List.getElem?_eq_getElem (by rw [hF.plen, ← hF.len]; exact hil)⟩
              have := List.all_eq_true.1 cB i (List.mem_range.2 hil)
              rw [ho, hp] at this
              exact ⟨p.1, p.2, it, hp, hit, (hefp i p it hp hit).1, this⟩
            have o_of : ∀ (i : Nat) (it : IV), its[i]? = some it → ∃ o, l[i]? = some o := fun i it h => ⟨_, List.getElem?_eq_getElem (by rw [hF.len]; exact (List.getElem?_eq_some_iff.1 h).1)⟩
            have q_of : ∀ (s : Nat) (g : SG), sg[s]? = some g → ∃ q, pl.sp[s]? = some q ∧ g.e = q.1 ∧ (q.2.1 = 0 → hs[q.2.2]? = some (g.h, g.x)) := fun s g hg => by
              obtain ⟨q, hq⟩ : ∃ q, pl.sp[s]? = some q := ⟨_, List.getElem?_eq_getElem (by rw [← t2]; exact (List.getElem?_eq_some_iff.1 hg).1)⟩
              exact ⟨q, hq, t3 s q g hq hg⟩
            have g_of : ∀ (s : Nat) (q : List Nat × Nat × Nat), pl.sp[s]? = some q → ∃ g, sg[s]? = some g ∧ g.e = q.1 ∧ (q.2.1 = 0 → hs[q.2.2]? = some (g.h, g.x)) := fun s q hq => by
              obtain ⟨g, hg⟩ : ∃ g, sg[s]? = some g := ⟨_, List.getElem?_eq_getElem (by rw [t2]; exact (List.getElem?_eq_some_iff.1 hq).1)⟩
              exact ⟨g, hg, t3 s q g hq hg⟩
            have up : ∀ (i : Nat) (o : Oper), l[i]? = some o → ∀ p ∈ edges o, p < i := fun i o ho p hp => by
              obtain ⟨k, ks, it, _, _, _, hc⟩ := one i o ho
              unfold chkX1 at hc
              simp only [Bool.and_eq_true] at hc
              have := List.all_eq_true.1 hc.1.1.1.1.1.1 p hp
              simpa using this
            have dist0 : ∀ (i j : Nat) (o o' : Oper) (d : Nat), j < i → l[i]? = some o → l[j]? = some o' → o.dst = some d → o'.dst = some d → False := fun i j o o' d hij ho ho' hd hd' => by
              obtain ⟨k, ks, it, _, _, _, hc⟩ := one i o ho
              unfold chkX1 at hc
              simp only [Bool.and_eq_true] at hc
              have h2 := hc.1.1.1.1.1.2
              rw [hd] at h2
              simp only [] at h2
              have hm : o' ∈ l.take i := List.mem_of_getElem? (i := j) (by rw [List.getElem?_take_of_lt hij]; exact ho')
              have := List.all_eq_true.1 h2 o' hm
              rw [dstIs_iff.2 hd'] at this
              cases this
            have dist : ∀ (i j : Nat) (o o' : Oper) (d : Nat), l[i]? = some o → l[j]? = some o' → o.dst = some d → o'.dst = some d → i = j := fun i j o o' d ho ho' hd hd' => by
              rcases Nat.lt_trichotomy i j with h1 | h1 | h1
              · exact (dist0 j i o' o d h1 ho' ho hd' hd).elim
              · exact h1
              · exact (dist0 i j o o' d h1 ho ho' hd hd').elim
            have hlen : sg.length = pl.sp.length := t2
            have hrank : ∀ i, i ≤ its.length → ∃ p, hs[rankV its i]? = some p := fun i hi => ⟨_, List.getElem?_eq_getElem (by rw [hF.hlen]; have := rankV_mono its hi; omega)⟩
            have hb : ∀ (i : Nat) (it : IV), its[i]? = some it → it.ef = true → ∃ p q, hs[rankV its i]? = some p ∧ hs[rankV its i + 1]? = some q ∧ b0of its hs i = p.2 ∧ b1of its hs i = q.2 ∧ p.2 ≤ q.2 := fun i it hit hef => by
              have hil : i < its.length := (List.getElem?_eq_some_iff.1 hit).1
              obtain ⟨p, hp⟩ := hrank i (by omega)
              have hlt := rankV_lt (j := its.length) hil hit hef
              obtain ⟨q, hq⟩ : ∃ q, hs[rankV its i + 1]? = some q := ⟨_, List.getElem?_eq_getElem (by rw [hF.hlen]; omega)⟩
              exact ⟨p, q, hp, hq, by unfold b0of; rw [hp], by unfold b1of; rw [hq], monoX_ok hs hmono _ _ p q (by omega) hp hq⟩
            have hplan : PlanX l (toIX its hs) sg pl.m (dnF pl.dn) (dnF pl.un) := by
              refine ⟨by unfold toIX; rw [List.length_mapIdx]; exact hF.len, up, dist, fun i s ix g hix hef hg => ?_, fun i s o ix ho hix hef hs' hall => ?_, fun i s ix hix hef hs' hall => ?_, fun i j ix jx hix hjx hef hjf hne => ?_, fun s g hg hall => ?_, fun i o j b ho hgd => ?_⟩
              · obtain ⟨it, hit, rfl⟩ := toIX_some hix
                obtain ⟨o, ho⟩ := o_of i it hit
                obtain ⟨k, ks, it', hp, hit', hk, hc⟩ := one i o ho
                rw [hit] at hit'
                obtain rfl := Option.some.inj hit'
                unfold chkX1 at hc
                simp only [Bool.and_eq_true] at hc
                have h3 := hc.1.1.1.1.2
                rw [if_pos (by rw [← hk]; exact hef)] at h3
                obtain ⟨q, hq, hqe, _⟩ := q_of s g hg
                have := List.all_eq_true.1 h3 s (List.mem_range.2 (List.getElem?_eq_some_iff.1 hq).1)
                rw [hq] at this
                simp only [Bool.and_eq_true, Bool.or_eq_true, Bool.not_eq_true'] at this
                rw [hqe]
                exact ⟨fun hmem => this.1.resolve_left (by simp [hmem]), fun hmem => this.2.resolve_left (by simp [hmem])⟩
              · obtain ⟨it, hit, rfl⟩ := toIX_some hix
                obtain ⟨k, ks, it', hp, hit', hk, hc⟩ := one i o ho
                rw [hit] at hit'
                obtain rfl := Option.some.inj hit'
                unfold chkX1 at hc
                simp only [Bool.and_eq_true] at hc
                have h3 := hc.1.1.1.1.2
                have hef : it.ef = false := hef
                rw [if_neg (by rw [← hk, hef]; simp)] at h3
                have := List.all_eq_true.1 h3 s (List.mem_range.2 (by rw [← hlen]; exact hs'))
                simp only [Bool.and_eq_true, Bool.or_eq_true, Bool.not_eq_true'] at this
                refine this.1.resolve_left fun e => ?_
                have e2 : ((edges o).all fun p => dnF pl.dn p s) = true := List.all_eq_true.2 hall
                rw [e2] at e
                cases e
              · obtain ⟨it, hit, rfl⟩ := toIX_some hix
                obtain ⟨o, ho⟩ := o_of i it hit
                obtain ⟨k, ks, it', hp, hit', hk, hc⟩ := one i o ho
                rw [hit] at hit'
                obtain rfl := Option.some.inj hit'
                unfold chkX1 at hc
                simp only [Bool.and_eq_true] at hc
                have h3 := hc.1.1.1.1.2
                have hef : it.ef = false := hef
                rw [if_neg (by rw [← hk, hef]; simp)] at h3
                have := List.all_eq_true.1 h3 s (List.mem_range.2 (by rw [← hlen]; exact hs'))
                simp only [Bool.and_eq_true, Bool.or_eq_true, Bool.not_eq_true'] at this
                refine this.2.resolve_left fun e => ?_
                rw [← Bool.not_eq_true, List.all_eq_true] at e
                refine e fun j hj => ?_
                cases hj' : l[j]? with
                | none => rfl
                | some o' =>
                  simp only [Bool.or_eq_true, Bool.not_eq_true']
                  by_cases hmem : i ∈ edges o'
                  · exact .inr (hall j o' hj' hmem)
                  · exact .inl (by simpa using hmem)
              · obtain ⟨it, hit, rfl⟩ := toIX_some hix
                obtain ⟨jt, hjt, rfl⟩ := toIX_some hjx
                obtain ⟨p, q, p1, p2, p3, p4, p5⟩ := hb i it hit hef
                obtain ⟨p', q', r1, r2, r3, r4, r5⟩ := hb j jt hjt hjf
                show b1of its hs i ≤ b0of its hs j ∨ b1of its hs j ≤ b0of its hs i
                rcases Nat.lt_or_ge i j with hij | hij
                · have := rankV_lt hij hit hef
                  rw [p4, r3]
                  exact .inl (monoX_ok hs hmono _ _ q p' this p2 r1)
                · have := rankV_lt (show j < i by omega) hjt hjf
                  rw [r4, p3]
                  exact .inr (monoX_ok hs hmono _ _ q' p this r2 p1)
              · obtain ⟨q, hq, hqe, _⟩ := q_of s g hg
                have := List.all_eq_true.1 cC s (List.mem_range.2 (List.getElem?_eq_some_iff.1 hq).1)
                rw [hq] at this
                simp only [Bool.or_eq_true] at this
                rcases this with h1 | h1
                · exact Nat.eq_of_beq_eq_true h1
                · rw [List.any_eq_true] at h1
                  obtain ⟨i, hi, h2⟩ := h1
                  simp only [Bool.and_eq_true, Bool.not_eq_true'] at h2
                  have hil : i < its.length := by rw [← hF.plen]; exact List.mem_range.1 hi
                  obtain ⟨it, hit⟩ : ∃ it, its[i]? = some it := ⟨_, List.getElem?_eq_getElem hil⟩
                  obtain ⟨p, hp⟩ : ∃ p, pl.its[i]? = some p := ⟨_, List.getElem?_eq_getElem (by rw [hF.plen]; exact hil)⟩
                  have hef : it.ef = true := by
                    rw [(hefp i p it hp hit).1]
                    have := h2.1
                    unfold isEf at this
                    rw [hp] at this
                    exact this
                  have := hall i _ (by rw [toIX_get, hit]; rfl) hef
                  rw [hqe] at this
                  rw [List.contains_iff_mem.2 this] at h2
                  cases h2.2
              · obtain ⟨k, ks, it, _, _, _, hc⟩ := one i o ho
                unfold chkX1 at hc
                simp only [Bool.and_eq_true] at hc
                have h6 := hc.1.1.2
                rw [hgd] at h6
                simp only [Bool.and_eq_true] at h6
                refine ⟨by simpa using h6.1, ?_⟩
                cases ho' : l[j]? with
                | none => rw [ho'] at h6; cases h6.2
                | some o' =>
                  rw [ho'] at h6
                  obtain ⟨d, hd⟩ := Option.isSome_iff_exists.1 h6.2
                  exact ⟨o', d, rfl, hd⟩
            have hsees : SeesX l (toIX its hs) st.tm := by
              intro i o ix x ho hix
              obtain ⟨it, hit, rfl⟩ := toIX_some hix
              obtain ⟨k, ks, it', hp, hit', hk, hc⟩ := one i o ho
              rw [hit] at hit'
              obtain rfl := Option.some.inj hit'
              rcases hF.sees i (k, ks) it x hp hit with e | ⟨e1, e2, e3⟩
              · exact .inl e
              · refine .inr ?_
                unfold chkX1 at hc
                simp only [Bool.and_eq_true] at hc
                have := List.all_eq_true.1 hc.1.1.1.2 x e1
                rw [Bool.or_eq_true] at this
                rcases this with h5 | h5
                · rw [List.any_eq_true] at h5
                  obtain ⟨p, hp1, h5⟩ := h5
                  cases ho' : l[p]? with
                  | none => rw [ho'] at h5; cases h5
                  | some o' =>
                    rw [ho'] at h5
                    have hd := dstIs_iff.1 h5
                    obtain ⟨_, _, jt, _, hjt, _, _⟩ := one p o' ho'
                    have hpi := up i o ho p hp1
                    refine .inl ⟨p, hp1, o', _, ho', by rw [toIX_get, hjt]; rfl, hd, ?_⟩
                    exact e2 p o' jt hpi ho' hjt hd (fun k' o'' hk1 hk2 ho'' hd'' => by have := dist p k' o' o'' x ho' ho'' hd hd''; omega)
                · rw [List.all_eq_true] at h5
                  have key : ∀ (j : Nat) (o' : Oper), l[j]? = some o' → o'.dst = some x → i ∈ edges o' := fun j o' hj hd => by
                    have := h5 o' (List.mem_of_getElem? hj)
                    rw [dstIs_iff.2 hd] at this
                    simpa using this
                  exact .inr ⟨e3 fun j o' hj ho' hd => by have := up j o' ho' i (key j o' ho' hd); omega, key⟩
            have hE : ∀ x, tget st1.tm x = entX l (toIX its hs) st.tm x := fun x => by
              obtain ⟨e1, e2⟩ := entX_spec l (toIX its hs) st.tm x hplan.len dist
              by_cases hx : ∃ (i : Nat) (o : Oper), l[i]? = some o ∧ o.dst = some x
              · obtain ⟨i, o, ho, hx⟩ := hx
                obtain ⟨_, _, it, _, hit, _, _⟩ := one i o ho
                rw [e1 i o _ ho (by rw [toIX_get, hit]; rfl) hx]
                exact hF.val i o it x ho hit hx (fun j o' hij hj hd => by have := dist i j o o' x ho hj hx hd; omega)
              · rw [e2 (fun i o ho hx' => hx ⟨i, o, ho, hx'⟩)]
                exact hF.old x (fun i o ho hx' => hx ⟨i, o, ho, hx'⟩)
            -- the text's own stages
            have htp : ∀ (k s : Nat), pl.tp[k]? = some s → ∃ g, sg[s]? = some g ∧ hs[k]? = some (g.h, g.x) := fun k s hk => by
              have := List.all_eq_true.1 cE k (List.mem_range.2 (List.getElem?_eq_some_iff.1 hk).1)
              rw [hk] at this
              simp only [] at this
              split at this
              · rename_i e k' hq
                have e1 := Nat.eq_of_beq_eq_true this
                subst e1
                obtain ⟨g, hg, _, h2⟩ := g_of s _ hq
                exact ⟨g, hg, h2 rfl⟩
              · cases this
            have hm1 : pl.tp[rankV its its.length]? = some pl.m := by
              have := cG
              rw [← hF.plen, ← hrk]
              split at this
              · rename_i s hs'; rw [hs', Nat.eq_of_beq_eq_true this]
              · cases this
            obtain ⟨gm, hgm1, hgm2⟩ := htp _ _ hm1
            have hgl := hF.last
            rw [hgm2] at hgl
            obtain ⟨e1, e2⟩ := Prod.mk.inj (Option.some.inj hgl)
            have h00 : sg[0]? = some ⟨[], st.h, st.nx⟩ := by
              have := cF
              split at this
              · rename_i htp0 hsp0
                obtain ⟨g, hg, hge, hg2⟩ := g_of 0 _ hsp0
                have := hg2 rfl
                rw [hF.zero] at this
                obtain ⟨k1, k2⟩ := Prod.mk.inj (Option.some.inj this)
                rw [hg]
                obtain ⟨ge, gh, gx⟩ := g
                simp only at hge k1 k2
                rw [hge, k1, k2]
              · cases this
            refine aw_drawX hm hplan hsees (fun o ho d hd => ?_) hE (fun i ix hix hef => ?_) (fun i s o ho hs' hall hun => ?_) h00 rfl hgm1 (by rw [e1, e2]; exact hQ)
            · have := List.all_eq_true.1 hdn o ho
              exact dstOK_ok this d hd
            · obtain ⟨it, hit, rfl⟩ := toIX_some hix
              obtain ⟨p, q, p1, p2, p3, p4, p5⟩ := hb i it hit hef
              show st.nx ≤ b0of its hs i ∧ b0of its hs i ≤ b1of its hs i
              rw [p3, p4]
              exact ⟨monoX_ok hs hmono _ _ _ p (Nat.zero_le _) hF.zero p1, p5⟩
            · intro o' ix g ho' hix hg
              rw [ho] at ho'
              obtain rfl := Option.some.inj ho'
              obtain ⟨it, hit, rfl⟩ := toIX_some hix
              obtain ⟨k, ks, it', hp, hit', hk, hc⟩ := one i o ho
              rw [hit] at hit'
              obtain rfl := Option.some.inj hit'
              unfold chkX1 at hc
              simp only [Bool.and_eq_true] at hc
              have hcov := List.all_eq_true.1 hc.1.2 s (List.mem_range.2 (by rw [← hlen]; exact hs'))
              have hnext := hc.2
              have hK := hF.known i o it ho hit
              obtain ⟨r, hG, hrT, hrF⟩ := hK
              have hall' : ((edges o).all fun p => dnF pl.dn p s) = true := List.all_eq_true.2 hall
              rw [hall', hun] at hcov
              simp only [Bool.not_true, Bool.false_or, Bool.or_eq_true] at hcov
              -- the text's own place
              have own : (∃ s', pl.tp[rankV its i]? = some s' ∧ s = s') → (r = true → RunX P o.op i ⟨it.v, it.ef, b0of its hs i, b1of its hs i, it.tm⟩ it.tm sg g) ∧
                  (r = false → it.ef = true → ∃ (s' : Nat) (g' : SG), sg[s']? = some g' ∧ (∀ j, j ∈ g'.e ↔ j ∈ g.e ∨ j = i) ∧ g'.h = g.h ∧ g.x ≤ g'.x) := by
                rintro ⟨s', hs1, rfl⟩
                obtain ⟨g1, hg1, hg2⟩ := htp _ _ hs1
                rw [hg] at hg1
                obtain rfl := Option.some.inj hg1
                have nxt : it.ef = true → ∃ (s' : Nat) (g' : SG), sg[s']? = some g' ∧ (∀ j, j ∈ g'.e ↔ j ∈ g.e ∨ j = i) ∧ hs[rankV its i + 1]? = some (g'.h, g'.x) := fun hef => by
                  rw [← hk, hef] at hnext
                  simp only [Bool.not_true, Bool.false_or] at hnext
                  rw [hrk, hs1] at hnext
                  split at hnext
                  · rename_i a b ha hb'
                    obtain rfl := Option.some.inj ha
                    split at hnext
                    · rename_i q q' hq hq'
                      obtain ⟨g', hg', _⟩ := htp _ _ hb'
                      obtain ⟨_, h2⟩ := htp _ _ hb'
                      obtain ⟨g3, hg3, hge3, _⟩ := g_of b q' hq'
                      obtain ⟨g4, hg4, hge4, _⟩ := g_of s q hq
                      rw [hg] at hg4
                      obtain rfl := Option.some.inj hg4
                      obtain ⟨g5, hg5, hg6⟩ := htp _ _ hb'
                      rw [hg3] at hg5
                      obtain rfl := Option.some.inj hg5
                      refine ⟨b, g3, hg3, fun j => ?_, hg6⟩
                      rw [hge3, hge4, sameS_ok hnext j, List.mem_cons]
                      exact ⟨fun h => h.elim .inr .inl, fun h => h.elim .inr .inl⟩
                    · cases hnext
                  · cases hnext
                refine ⟨fun hr => ?_, fun hr hef => ?_⟩
                · obtain ⟨⟨H, X, k1, k2⟩, _⟩ := hrT hr
                  rw [hg2] at k1
                  obtain ⟨rfl, rfl⟩ := Prod.mk.inj (Option.some.inj k1)
                  unfold RunX
                  show (if it.ef = true then _ else _)
                  cases hef : it.ef with
                  | true =>
                    rw [hef] at k2
                    simp only [if_true] at k2 ⊢
                    obtain ⟨H', X', k3, k4⟩ := k2
                    obtain ⟨s', g', n1, n2, n3⟩ := nxt hef
                    rw [n3] at k3
                    obtain ⟨rfl, rfl⟩ := Prod.mk.inj (Option.some.inj k3)
                    refine ⟨s', g', n1, n2, .inl ?_⟩
                    have b0e : b0of its hs i = g.x := by unfold b0of; rw [hg2]
                    have b1e : b1of its hs i = g'.x := by unfold b1of; rw [n3]
                    exact ⟨Nat.le_of_eq b0e.symm, b1e.symm, by show OpOK P o.op ⟨it.tm, g.h, b0of its hs i⟩ it.v g'.h g'.x; rw [b0e]; exact k4⟩
                  | false =>
                    rw [hef] at k2
                    simp only [Bool.false_eq_true, if_false] at k2 ⊢
                    exact k2
                · obtain ⟨_, k5⟩ := hrF hr
                  obtain ⟨H, X, k1, k2⟩ := k5 hef
                  rw [hg2] at k1
                  obtain ⟨rfl, rfl⟩ := Prod.mk.inj (Option.some.inj k1)
                  obtain ⟨s', g', n1, n2, n3⟩ := nxt hef
                  rw [n3] at k2
                  obtain ⟨e5, e6⟩ := Prod.mk.inj (Option.some.inj k2)
                  exact ⟨s', g', n1, n2, e5, Nat.le_of_eq e6.symm⟩
              -- another place
              have oth : (∃ q ∈ pl.ex, q.1 = i ∧ q.2.1 = s) → match o.guard with
                  | none => RunX P o.op i ⟨it.v, it.ef, b0of its hs i, b1of its hs i, it.tm⟩ it.tm sg g
                  | some (j, b) => ∃ r w, its[j]? = some r ∧ gv r.v = some w ∧ (w = some b → RunX P o.op i ⟨it.v, it.ef, b0of its hs i, b1of its hs i, it.tm⟩ it.tm sg g) ∧
                    (w ≠ some b → it.ef = true → ∃ (s' : Nat) (g' : SG), sg[s']? = some g' ∧ (∀ j, j ∈ g'.e ↔ j ∈ g.e ∨ j = i) ∧ g'.h = g.h ∧ g.x ≤ g'.x) := by
                rintro ⟨⟨qi, qs, qt⟩, hq, rfl, rfl⟩
                have h1 := exOK_ok hcf (List.all_eq_true.1 hex _ hq) ho hit hg
                have hmem : it.ef = true → ∀ g', sg[qt]? = some g' → ∀ j, j ∈ g'.e ↔ j ∈ g.e ∨ j = qi := fun hef g' hg' j => by
                  have := List.all_eq_true.1 cD _ hq
                  simp only [] at this
                  split at this
                  · rename_i r1 r2 hr1 hr2
                    have hie : isEf pl qi = true := by
                      unfold isEf
                      rw [hp]
                      show Nat.ble 2 k = true
                      rw [← hk]; exact hef
                    rw [hie] at this
                    simp only [Bool.not_true, Bool.false_or] at this
                    obtain ⟨g3, hg3, hge3, _⟩ := g_of qt r2 hr2
                    obtain ⟨g4, hg4, hge4, _⟩ := g_of qs r1 hr1
                    rw [hg] at hg4
                    obtain rfl := Option.some.inj hg4
                    rw [hg'] at hg3
                    obtain rfl := Option.some.inj hg3
                    rw [hge3, hge4, sameS_ok this j, List.mem_cons]
                    exact ⟨fun h => h.elim .inr .inl, fun h => h.elim .inr .inl⟩
                  · cases this
                have conv : ExX P its hs sg qi qt o it g → RunX P o.op qi ⟨it.v, it.ef, b0of its hs qi, b1of its hs qi, it.tm⟩ it.tm sg g := fun hx => by
                  unfold ExX at hx
                  unfold RunX
                  show (if it.ef = true then _ else _)
                  cases hef : it.ef with
                  | true =>
                    rw [hef] at hx
                    simp only [if_true] at hx ⊢
                    obtain ⟨g', hg', hx⟩ := hx
                    exact ⟨qt, g', hg', hmem hef g' hg', hx⟩
                  | false =>
                    rw [hef] at hx
                    simp only [Bool.false_eq_true, if_false] at hx ⊢
                    exact hx
                split at h1
                · exact conv h1
                · obtain ⟨r1, w, k1, k2, k3, k4⟩ := h1
                  exact ⟨r1, w, k1, k2, fun e => conv (k3 e), fun e hef => by
                    obtain ⟨g', n1, n2, n3⟩ := k4 e hef
                    exact ⟨qt, g', n1, hmem hef g' n1, n2, n3⟩⟩
              have free : k = 0 → r = true → RunX P o.op i ⟨it.v, it.ef, b0of its hs i, b1of its hs i, it.tm⟩ it.tm sg g := fun hk0 hr => by
                obtain ⟨_, k2⟩ := hrT hr
                obtain ⟨k3, k4⟩ := k2 ((hefp i (k, ks) it hp hit).2 hk0)
                unfold RunX
                show (if it.ef = true then _ else _)
                rw [k3]
                simp only [Bool.false_eq_true, if_false]
                exact k4 _
              have sk0 : k = 0 → it.ef = true → False := fun hk0 hef => by rw [hk, hk0] at hef; cases hef
              cases hgd : o.guard with
              | none =>
                rw [hgd] at hG
                have hG : r = true := hG
                simp only []
                rcases hcov with (h1 | h1) | h1
                · exact free (Nat.eq_of_beq_eq_true h1) hG
                · refine (own ?_).1 hG
                  rw [hrk] at h1
                  split at h1
                  · rename_i s' hs1; exact ⟨s', hs1, Nat.eq_of_beq_eq_true h1⟩
                  · cases h1
                · rw [List.any_eq_true] at h1
                  obtain ⟨q, hq, h1⟩ := h1
                  simp only [Bool.and_eq_true] at h1
                  have := oth ⟨q, hq, Nat.eq_of_beq_eq_true h1.1, Nat.eq_of_beq_eq_true h1.2⟩
                  rw [hgd] at this
                  exact this
              | some jb =>
                obtain ⟨j, b⟩ := jb
                rw [hgd] at hG
                obtain ⟨qv, w, hqv, hw, hrw⟩ := hG
                have hqx : ∃ q, (toIX its hs)[j]? = some q ∧ gv q.v = some w := ⟨_, by rw [toIX_get, hqv]; rfl, hw⟩
                have hvn : w ≠ some b → it.v = .tup [] := fun e => (hrF (by rw [hrw]; simpa using e)).1
                simp only []
                rcases hcov with (h1 | h1) | h1
                · have hk0 := Nat.eq_of_beq_eq_true h1
                  exact ⟨w, hqx, fun e => free hk0 (by rw [hrw, e]; simp), fun e => ⟨hvn e, fun hef => (sk0 hk0 hef).elim⟩⟩
                · rw [hrk] at h1
                  split at h1
                  · rename_i s' hs1
                    obtain ⟨k1, k2⟩ := own ⟨s', hs1, Nat.eq_of_beq_eq_true h1⟩
                    exact ⟨w, hqx, fun e => k1 (by rw [hrw, e]; simp), fun e => ⟨hvn e, k2 (by rw [hrw]; simpa using e)⟩⟩
                  · cases h1
                · rw [List.any_eq_true] at h1
                  obtain ⟨q, hq, h1⟩ := h1
                  simp only [Bool.and_eq_true] at h1
                  have := oth ⟨q, hq, Nat.eq_of_beq_eq_true h1.1, Nat.eq_of_beq_eq_true h1.2⟩
                  rw [hgd] at this
                  obtain ⟨r1, w1, k1, k2, k3, k4⟩ := this
                  rw [hqv] at k1
                  obtain rfl := Option.some.inj k1
                  rw [hw] at k2
                  obtain rfl := Option.some.inj k2
                  exact ⟨w, hqx, k3, fun e => ⟨hvn e, k4 e⟩⟩
          · cases h
        · cases h
      · cases h
    · cases h
  · cases h

theorem loopN_ok {self : Self} (hs : RunOK P self) {n f : Nat} {x : Code} {ks : List Nat} {m : Nat} : ∀ (k : Nat) (st : St) (e : Exit) (st' : St), loopN (fun st => self n f x st) ks m k st = some (e, st') → ∀ c Q, Q e st' → LW P c n x Q st := by
  intro k
  induction k with
  | zero => intro st e st' h; simp only [loopN, reduceCtorEq] at h
  | succ k ih =>
    intro st e st' h c Q hQ
    simp only [loopN] at h
    split at h
    · rename_i st1 h1
      split at h
      · rename_i tm1 htm
        rw [forceL_eq] at h
        have hrest := ih _ _ _ h c Q hQ
        refine lw_round (hs _ _ _ _ _ _ h1 _ _ ?_)
        show LW P c n x Q st1
        intro ρ S a w hr
        exact hrest ρ S a w (hr.drop (selF_ok _ _ htm) (gcH_get _ _ _))
      · cases h
    · rename_i hne
      refine lw_round (hs _ _ _ _ _ _ h _ _ ?_)
      cases e with
      | normal => exact (hne st' h).elim
      | exit id => exact hQ
      | goto l => exact hQ
      | ret => exact hQ
      | panic ch => exact hQ
      | outgrown => exact hQ

theorem runStep_ok {T : Cfg} (hw : ∀ cf, CFok P cf → CFok P (T.wrap cf)) (hm : P.follows .mixedOrders = true) {self : Self} (hs : RunOK P self) : RunOK P (runStep P T self) := by
  intro n f code st e st' h c Q hQ
  unfold runStep at h
  split at h
  · simp only [Option.some.injEq, Prod.mk.injEq] at h; obtain ⟨rfl, rfl⟩ := h; exact aw_skip hQ
  · simp only [Option.some.injEq, Prod.mk.injEq] at h; obtain ⟨rfl, rfl⟩ := h; exact aw_exit hQ
  · simp only [Option.some.injEq, Prod.mk.injEq] at h; obtain ⟨rfl, rfl⟩ := h; exact aw_ret hQ
  · rename_i x y
    split at h
    · rename_i st1 h1
      exact aw_seq (hs _ _ _ _ _ _ h1 _ _ (hs _ _ _ _ _ _ h _ _ hQ))
    · rename_i hne
      refine aw_seq (hs _ _ _ _ _ _ h _ _ ?_)
      cases e with
      | normal => exact (hne st' h).elim
      | exit id => exact hQ
      | goto l => exact hQ
      | ret => exact hQ
      | panic ch => exact hQ
      | outgrown => exact hQ
  · rename_i id x
    split at h
    · rename_i id' st1 h1
      refine aw_block (hs _ _ _ _ _ _ h1 _ _ ?_)
      show (if id' = id then Q .normal st1 else Q (.exit id') st1)
      split at h
      · rename_i he
        rw [if_pos (Nat.eq_of_beq_eq_true he)]
        simp only [Option.some.injEq, Prod.mk.injEq] at h; obtain ⟨rfl, rfl⟩ := h; exact hQ
      · rename_i he
        rw [if_neg (fun e => he (by rw [e]; exact Nat.beq_refl _))]
        simp only [Option.some.injEq, Prod.mk.injEq] at h; obtain ⟨rfl, rfl⟩ := h; exact hQ
    · rename_i hne
      refine aw_block (hs _ _ _ _ _ _ h _ _ ?_)
      cases e with
      | exit id' => exact (hne id' st' h).elim
      | normal => exact hQ
      | goto l => exact hQ
      | ret => exact hQ
      | panic ch => exact hQ
      | outgrown => exact hQ
  · split at h
    · rename_i ho; exact aw_yes (oeO ho) (hs _ _ _ _ _ _ h _ _ hQ)
    · rename_i ho; exact aw_no (oeO ho) (hs _ _ _ _ _ _ h _ _ hQ)
    · cases h
  · exact lw_loop (loopN_ok hs _ _ _ _ h _ _ hQ)
  · rename_i id ops
    split at h
    · rename_i pl hpl
      split at h
      · rename_i st1 h1
        simp only [Option.some.injEq, Prod.mk.injEq] at h
        obtain ⟨rfl, rfl⟩ := h
        have := drawn_ok (hw _ (callFn_ok hs)) hm (c := c) (id := id) h1 hQ
        simpa using this
      · cases h
    · cases h
  · rename_i id ops
    split at h
    · rename_i st1 h1
      simp only [Option.some.injEq, Prod.mk.injEq] at h
      obtain ⟨rfl, rfl⟩ := h
      have := aw_region (id := id) (runOps_ok (hw _ (callFn_ok hs)) (c := c) _ _ _ h1 hQ)
      simpa using this
    · cases h
  · cases h

theorem run_ok {T : Cfg} (hw : ∀ cf, CFok P cf → CFok P (T.wrap cf)) (hm : P.follows .mixedOrders = true) (n : Nat) : RunOK P (run P T n) := by
  induction n with
  | zero => intro n f code st e st' h; cases h
  | succ n ih => exact runStep_ok hw hm ih

/-- What a run comes to is what a call comes to. -/
theorem runF_ok {T : Cfg} (hw : ∀ cf, CFok P cf → CFok P (T.wrap cf)) (hm : P.follows .mixedOrders = true) (n : Nat) : CFok P (runF P T n) := hw _ (callFn_ok (run_ok hw hm n))

/-- What is known of a call out of what an operation does. -/
theorem AC.of_op {f : FuncId} {fn : Func} (hf : P.funcs[f]? = some fn) (hn : (fn.name == "runtime.NumGoroutine") = false ∧ fn.body.isNone = false) {args : List AV} {h : Heap} {nx : Nat} {r : AV} {h' : Heap} {nx' : Nat} (hdom : h.all (fun p => p.1 < nx) = true) (hle : nx ≤ nx')
    (hop : OpOK P (.call { callee := .value (.func f), args := ((List.range args.length).map fun i => Operand.tmp i).toArray, argTypes := #[] }) ⟨argTm args, h, nx⟩ r h' nx') (al : Bool) (hal : al = true ∨ (r.nosl = true ∧ h'.all (fun p => p.2.nosl) = true)) :
    AC P f args h nx al (fun a b c => a = r ∧ b = h' ∧ c = nx') := by
  intro ρ S w vals hsim hfresh hargs
  have hrep : Rep ⟨w, Own ρ h, S, ρ, nx⟩ vals.size ⟨argTm args, h, nx⟩ ρ S { tmps := vals, defers := [] } w := by
    have hsz := hargs.1
    refine ⟨rfl, rfl, fun i => ?_, hsim, ⟨rfl, rfl, rfl, Nat.le_refl _, fun _ _ _ => rfl, fun _ h => h, fun _ h => .inl h, fun b B r h1 h2 => .inl ⟨b, B, r, h1, h2, rfl⟩, fun _ _ => rfl⟩, hfresh, Nat.le_refl _, fun b B hb => by simpa using hall_get hdom hb⟩
    rw [tget_argTm, if_pos (Nat.zero_le _), Nat.sub_zero]
    by_cases hi : i < args.length
    · have h1 : args[i]? = some args[i] := List.getElem?_eq_getElem hi
      have h2 : i < vals.size := by omega
      rw [h1]
      have h3 : vals.getD i undef = vals[i] := by simp [Array.getD_eq_getD_getElem?, h2]
      rw [h3]
      exact hargs.2 i _ _ h1 (by simp [h2])
    · rw [List.getElem?_eq_none (by omega)]
      exact .top
  have hd := hop _ _ ρ S _ w hrep ⟨none, _, 0, "", #[], none⟩ rfl
  unfold Does at hd
  have hv : (((List.range args.length).map fun i => Operand.tmp i).toArray.map (Act.eval { tmps := vals, defers := [] })) = vals := by
    refine Array.ext_getElem? fun i => ?_
    have hsz := hargs.1
    by_cases hi : i < args.length
    · have h2 : i < vals.size := by omega
      simp [hi, h2, Act.eval, Array.getD_eq_getD_getElem?]
    · have h2 : ¬ i < vals.size := by omega
      simp [hi, h2]
  have hrun : (execOp (Act.eval { tmps := vals, defers := [] }) ⟨none, .call { callee := .value (.func f), args := ((List.range args.length).map fun i => Operand.tmp i).toArray, argTypes := #[] }, 0, "", #[], none⟩).run P w = .ok (.enter f vals) w := by
    unfold execOp
    have he : Act.eval { tmps := vals, defers := [] } (.func f) = .func (.func f) #[] #[] := rfl
    simp only [resolve, he, Deferred.ofValue, Sem.run_bind, Sem.run_pure, Result.andThen_ok, invoke, hv]
    have := AC.calls (P := P) hf hn (#[] ++ vals ++ #[]) w
    simpa using this
  rw [hrun] at hd
  simp only [] at hd
  refine Calls.mono hd ?_
  rintro e w' ⟨v, rfl, ρ', S', hr, hvr, hext, hS⟩
  have hp := hr.post
  have hown : ∀ b, Own ρ' h' b → Own ρ h b ∨ w.heap.size ≤ b := by
    rintro b ⟨i, B, r, h1, h2, rfl⟩
    exact hp.own i B r h1 h2
  rcases hal with hal | ⟨hn1, hn2⟩
  · exact ⟨v, r, h', nx', ρ', S', rfl, ⟨rfl, rfl, rfl⟩, hvr, hr.sim, hr.fresh, hr.dom, hp.os, hp.tape, hp.output, hp.size, hp.keep, hown, fun b hb => (hp.sNew b hb).imp (fun h => ⟨hal, h⟩) id, hp.ids⟩
  · refine ⟨v, r, h', nx', ρ', fun b => S' b ∧ w.heap.size ≤ b, rfl, ⟨rfl, rfl, rfl⟩, hvr.nosl hn1, ⟨fun b B hb => ?_, hr.sim.inj, fun b hb => hr.sim.lt b hb.1⟩, hr.fresh, hr.dom, hp.os, hp.tape, hp.output, hp.size, hp.keep, hown, fun b hb => .inr hb.2, hp.ids⟩
    rcases hr.sim.blk b B hb with ⟨q, h1, h2, h3, h4⟩ | hv
    · exact .inl ⟨q, h1, h2.nosl (hall_get hn2 hb), fun hs => h3 hs.1, h4⟩
    · exact .inr hv

theorem lendCF_ok {pu : Nat → Bool} {cf : CF} (hcf : CFok P cf) : CFok P (lendCF pu cf) := by
  intro f args h nx r h' nx' he
  unfold lendCF at he
  split at he
  · exact hcf _ _ _ _ _ _ _ he
  · rename_i p t
    split at he
    · split at he
      · rename_i u largs hl
        split at he
        · rename_i r0 h0 n0 hr
          split at he
          · rename_i hc
            rw [forceL_eq] at he
            simp only [Bool.and_eq_true] at hc
            obtain ⟨hns, hdm⟩ := hc
            simp only [Option.some.injEq, Prod.mk.injEq] at he
            obtain ⟨rfl, rfl, rfl⟩ := he
            obtain ⟨⟨fn, q1, q2, q3⟩, q4⟩ := hcf _ _ _ _ _ _ _ hr
            refine ⟨⟨fn, q1, q2, q3⟩, fun al hal => ?_⟩
            have hdom : (p :: t).all (fun p => p.1 < nx) = true := by
              rw [List.all_eq_true]
              intro x hx
              have := List.all_eq_true.1 hdm x hx
              simpa using this
            have eτ : swp [] 0 nx = fun b => b + nx := by
              funext b
              simp only [swp]
              rw [if_neg (by omega)]
            refine AC.of_op q1 ⟨q2, q3⟩ hdom (by omega) ?_ al hal
            have key := op_callg (P := P) (tm := argTm args) (h := p :: t) (nx := nx) (fo := .func f) (xs := ((List.range args.length).map fun i => Operand.tmp i).toArray) (ts := #[]) (first := []) (caps := []) [] 0 false [] [] (args := args) (largs := largs)
              (q4 false (.inr hns)) q1 ⟨q2, q3⟩ rfl ?_ rfl rfl (Nat.zero_le _) (fun p hp => by cases hp) rfl ?_ rfl rfl rfl
            · rw [eτ] at key
              intro c n ρ S a w hr o ho
              refine (key c n ρ S a w hr o ho).mono fun v w' ⟨ρ', S', k1, k2, k3, k4⟩ => ⟨ρ', S', ?_, k2, k3, k4⟩
              refine k1.drop (fun i => .inr rfl) (fun b B hb => ?_)
              rw [hget_append] at hb ⊢
              cases hx : hget (h0.map fun q => (q.1 + nx, q.2.ren fun b => b + nx)) b with
              | none =>
                rw [hx] at hb
                have hb : hget (p :: t) b = some B := by simpa using hb
                show (hget (p :: t) b).or _ = some B
                rw [hb]; rfl
              | some C =>
                rw [hx] at hb
                have hb : C = B := by simpa using hb
                subst hb
                obtain ⟨j, X, j1, j2, _⟩ := hget_map_ren h0 (fun b => b + nx) b C hx
                have hno : hget (p :: t) b = none := by
                  cases hy : hget (p :: t) b with
                  | none => rfl
                  | some D =>
                    have := hall_get hdom hy
                    simp only [decide_eq_true_eq] at this
                    omega
                show (hget (p :: t) b).or _ = some C
                rw [hno]; rfl
            · -- the arguments, in their slots
              have go : ∀ (l : List AV) (k : Nat) (pre : List AV), args = pre ++ l → pre.length = k → oevsS (argTm args) ((List.range' k l.length).map fun i => Operand.tmp i) = some l := by
                intro l
                induction l with
                | nil => intro k pre _ _; rfl
                | cons x l ih =>
                  intro k pre h1 h2
                  have hk : tgetS (argTm args) k = some x := by
                    have gen : ∀ (aa : List AV) (i j : Nat) (y : AV), aa[j]? = some y → tgetS (argTm aa i) (i + j) = some y := by
                      intro aa
                      induction aa with
                      | nil => intro i j y hy; simp at hy
                      | cons z aa ih2 =>
                        intro i j y hy
                        simp only [argTm, tgetS]
                        cases j with
                        | zero => simp only [List.getElem?_cons_zero, Option.some.injEq] at hy; subst hy; simp
                        | succ j =>
                          rw [if_neg (by omega), show i + (j + 1) = (i + 1) + j from by omega]
                          exact ih2 (i + 1) j y (by simpa using hy)
                    have := gen args 0 k x (by rw [h1, List.getElem?_append_right (by omega)]; simp [h2])
                    simpa using this
                  rw [List.length_cons, List.range'_succ, List.map_cons]
                  simp only [oevsS, oevS]
                  rw [hk, ih (k + 1) (pre ++ [x]) (by rw [h1]; simp) (by simp [h2])]
              have := go args 0 [] rfl rfl
              rw [← List.range_eq_range'] at this
              simpa using this
            · have := lends_ok _ _ _ _ hl (swp [] 0 nx)
              simpa using this
          · exact hcf _ _ _ _ _ _ _ he
        · exact hcf _ _ _ _ _ _ _ he
      · exact hcf _ _ _ _ _ _ _ he
    · exact hcf _ _ _ _ _ _ _ he

def enOK (e : EN) : Option (AV × Heap × Nat) → Bool
  | some (r, h, nx) => avEq r e.r && heapEq h e.h && Nat.beq nx e.nx
  | none => false

theorem enOK_ok {e : EN} {o : Option (AV × Heap × Nat)} (h : enOK e o = true) : o = some (e.r, e.h, e.nx) := by
  unfold enOK at h
  split at h
  · simp only [Bool.and_eq_true] at h
    rw [avEq_ok _ _ h.1.1, heapEq_ok _ _ h.1.2, Nat.eq_of_beq_eq_true h.2]
  · cases h

/-- Known calls. -/
inductive Tab (P : Program) (T : List EN → Cfg) : List EN → Prop
  | nil : Tab P T []
  | cons {e t} (n : Nat) (h : Tab P T t) (he : enOK e (runF P (T t) n e.f e.args [] 0) = true) : Tab P T (e :: t)

theorem tabCF_ok {tab : List EN} (ht : ∀ e ∈ tab, (∃ fn, P.funcs[e.f]? = some fn ∧ (fn.name == "runtime.NumGoroutine") = false ∧ fn.body.isNone = false) ∧
    ∀ al, (al = true ∨ (e.r.nosl = true ∧ e.h.all (fun p => p.2.nosl) = true)) → AC P e.f e.args [] 0 al (fun a b c => a = e.r ∧ b = e.h ∧ c = e.nx)) {cf : CF} (hcf : CFok P cf) : CFok P (tabCF tab cf) := by
  have find : ∀ (tab : List EN) f args r, tabF f args tab = some r → ∃ e ∈ tab, e.f = f ∧ e.args = args ∧ r = (e.r, e.h, e.nx) := by
    intro tab
    induction tab with
    | nil => intro f args r h; simp only [tabF, reduceCtorEq] at h
    | cons e t ih =>
      intro f args r h
      simp only [tabF] at h
      split at h
      · rename_i h1
        split at h
        · rename_i h2
          exact ⟨e, List.mem_cons_self, Nat.eq_of_beq_eq_true h1, avsEq_ok _ _ h2, (Option.some.inj h).symm⟩
        · obtain ⟨e', a, b⟩ := ih f args r h; exact ⟨e', List.mem_cons_of_mem _ a, b⟩
      · obtain ⟨e', a, b⟩ := ih f args r h; exact ⟨e', List.mem_cons_of_mem _ a, b⟩
  intro f args h nx r h' nx' he
  unfold tabCF at he
  split at he
  · split at he
    · rename_i q hq
      obtain rfl := Option.some.inj he
      obtain ⟨e, e1, rfl, rfl, e4⟩ := find _ _ _ _ hq
      simp only [Prod.mk.injEq] at e4
      obtain ⟨rfl, rfl, rfl⟩ := e4
      exact ht e e1
    · exact hcf _ _ _ _ _ _ _ he
  · exact hcf _ _ _ _ _ _ _ he

/-- The run with known calls, and whose arguments are lent. -/
def cfgT (pl : Nat → Nat → Option PL) (pu : Nat → Bool) (tab : List EN) : Cfg := ⟨pl, fun cf => lendCF pu (tabCF tab cf)⟩

theorem tab_ok (hm : P.follows .mixedOrders = true) {pl : Nat → Nat → Option PL} {pu : Nat → Bool} {tab : List EN} (h : Tab P (cfgT pl pu) tab) (n : Nat) : CFok P (runF P (cfgT pl pu tab) n) := by
  have main : ∀ e ∈ tab, (∃ fn, P.funcs[e.f]? = some fn ∧ (fn.name == "runtime.NumGoroutine") = false ∧ fn.body.isNone = false) ∧
    ∀ al, (al = true ∨ (e.r.nosl = true ∧ e.h.all (fun p => p.2.nosl) = true)) → AC P e.f e.args [] 0 al (fun a b c => a = e.r ∧ b = e.h ∧ c = e.nx) := by
    clear n
    induction h with
    | nil => intro e he; cases he
    | @cons e t n h he ih =>
      intro e' he'
      rcases List.mem_cons.1 he' with rfl | h1
      · exact runF_ok (T := cfgT pl pu t) (fun cf hcf => lendCF_ok (tabCF_ok ih hcf)) hm n _ _ _ _ _ _ _ (enOK_ok he)
      · exact ih e' h1
  exact runF_ok (T := cfgT pl pu tab) (fun cf hcf => lendCF_ok (tabCF_ok main hcf)) hm n

def okB : Option (AV × Heap × Nat) → Bool
  | some (.bool true, h, _) => h.all fun p => p.2.nosl
  | _ => false

/-- A closed call that comes to yes. -/
theorem ac_yes (hm : P.follows .mixedOrders = true) {pl : Nat → Nat → Option PL} {pu : Nat → Bool} {tab : List EN} (h : Tab P (cfgT pl pu) tab) (n : Nat) {f : FuncId} {args : List AV}
    (he : okB (runF P (cfgT pl pu tab) n f args [] 0) = true) : AC P f args [] 0 false (fun r h nx => r = .bool true) := by
  unfold okB at he
  split at he
  · rename_i h' nx' hr
    refine ((tab_ok hm h n _ _ _ _ _ _ _ hr).2 false (.inr ⟨rfl, he⟩)).mono ?_
    rintro _ _ _ ⟨rfl, _, _⟩; rfl
  · cases he

def find1 {α : Type} : List (Nat × α) → Nat → Option α
  | [], _ => none
  | (k, p) :: u, id => match Nat.beq id k with
    | true => some p
    | false => find1 u id

def look2 (l : List (Nat × List (Nat × PL))) (f id : Nat) : Option PL :=
  match find1 l f with
  | some r => find1 r id
  | none => none

end
end Go.Proofs.Ytloddmbbfkejcaa.Abs
end
section
/-
  slices.Sort of few whole numbers: by insertion.
-/
namespace Go.Proofs.Ytloddmbbfkejcaa.Abs

def ints (l : List Int) : List AV := l.map (AV.int .i64)
end Go.Proofs.Ytloddmbbfkejcaa.Abs
end
section
/-
  slices.Sort of few whole numbers, walked.
-/
namespace Go.Proofs.Ytloddmbbfkejcaa.Abs

theorem getD_some (d : List Int) (k : Nat) (hk : k < d.length) : (ints d)[k]? = some (.int .i64 (d.getD k 0)) := by
  unfold ints
  rw [List.getElem?_map, List.getElem?_eq_getElem hk, List.getD_eq_getElem?_getD, List.getElem?_eq_getElem hk]
  rfl

end Go.Proofs.Ytloddmbbfkejcaa.Abs
end
section
/-
  The reader of package txn.
-/
namespace Go.Proofs.Ytloddmbbfkejcaa.Abs

def rdrB (b : List UInt8) (n : Nat) (bad : Bool) : Blk := .cells 3 [.agg [.sl 1 (bl b), .int .i64 n, .bool bad]]

/-- A number, a text, read on. -/
def numS (b : List UInt8) (s : Nat × Bool) : Nat × Nat × Bool := match takeNum (b.drop s.1) with
  | some (v, k) => (v, s.1 + k, s.2)
  | none => (0, s.1, true)
def textS (b : List UInt8) (s : Nat × Bool) : List UInt8 × Nat × Bool := match takeText (b.drop s.1) with
  | some (v, k) => (v, s.1 + k, s.2)
  | none => ([], s.1, true)

theorem takeText_spec {l v : List UInt8} {n : Nat} (h : takeText l = some (v, n)) : n ≤ l.length ∧ 1 ≤ n ∧ v.length ≤ 255 := by
  unfold takeText at h
  split at h
  · rename_i q k hq
    obtain ⟨h1, h2, h3, h4⟩ := takeNum_spec hq
    split at h
    · rename_i hc
      obtain ⟨rfl, rfl⟩ := Prod.mk.inj (Option.some.inj h)
      refine ⟨by omega, by omega, ?_⟩
      rw [List.length_take]
      omega
    · cases h
  · cases h

theorem numS_le (b : List UInt8) (s : Nat × Bool) (h : s.1 ≤ b.length) : (numS b s).2.1 ≤ b.length ∧ s.1 ≤ (numS b s).2.1 ∧ (numS b s).1 ≤ 9223372036854775807 ∧ ((numS b s).2.2 = false → s.2 = false ∧ s.1 + 1 ≤ (numS b s).2.1) := by
  unfold numS
  split
  · rename_i v k hq
    obtain ⟨h1, h2, h3, h4⟩ := takeNum_spec hq
    rw [List.length_drop] at h1
    exact ⟨by dsimp only; omega, by dsimp only; omega, h4, fun e => ⟨e, by dsimp only; omega⟩⟩
  · exact ⟨h, Nat.le_refl _, by simp, fun e => by cases e⟩

theorem textS_le (b : List UInt8) (s : Nat × Bool) (h : s.1 ≤ b.length) : (textS b s).2.1 ≤ b.length ∧ s.1 ≤ (textS b s).2.1 ∧ (textS b s).1.length ≤ 255 ∧ ((textS b s).2.2 = false → s.2 = false ∧ s.1 + 1 ≤ (textS b s).2.1) := by
  unfold textS
  split
  · rename_i v k hq
    obtain ⟨h1, h2, h3⟩ := takeText_spec hq
    rw [List.length_drop] at h1
    exact ⟨by dsimp only; omega, by dsimp only; omega, h3, fun e => ⟨e, by dsimp only; omega⟩⟩
  · exact ⟨h, Nat.le_refl _, by simp, fun e => by cases e⟩

set_option maxRecDepth 100000 in
theorem rdr_goes (b : List UInt8) (n k : Nat) (bad ok : Bool) (hn : n + k ≤ 1000000) :
    AC Try.prog 147 [.ptr 0 0 0, .int .i64 k, .bool ok] [(0, rdrB b n bad)] 1 true (fun v h nx => v = .tup [] ∧ h = [(0, rdrB b (n + k) (bad || !ok))] ∧ nx = 1) := by
  unfold rdrB
  generalize bl b = B
  cases bad with
  | true =>
    refine ac_fn Try.func147 rfl rfl rfl rfl (fun w0 S0 r0 => ?_)
    refine aw_seq ?_
    refine aw_region ?_
    refine st_p (mv rfl) rfl ?_
    refine st_p (mv rfl) rfl ?_
    refine st_p (op_nilCheck rfl trivial) rfl ?_
    refine st_p (op_fieldAddr Try.underlying143 rfl z4 (by decide) rfl) rfl ?_
    refine st_p (op_load1 Try.underlying4 rfl rfl rfl rfl rfl) rfl ?_
    refine st_p (mv rfl) rfl ?_
    refine st_s rfl rfl rfl rfl rfl ?_
    refine st_s rfl rfl rfl rfl rfl ?_
    refine st_p (pkT rfl rfl) rfl ?_
    refine st_p (op_nilCheck rfl trivial) rfl ?_
    refine st_p (op_fieldAddr Try.underlying143 rfl z4 (by decide) rfl) rfl ?_
    refine st_n (stA z4 rfl rfl rfl rfl rfl rfl rfl rfl rfl rfl) ?_
    refine al_nil ?_
    refine nm ?_
    refine aw_region ?_
    refine st_p (mv rfl) rfl ?_
    refine st_p (op_nilCheck rfl trivial) rfl ?_
    refine st_p (op_fieldAddr Try.underlying143 rfl z3 (by decide) rfl) rfl ?_
    refine st_p (op_load1 Try.underlying3 rfl rfl rfl rfl rfl) rfl ?_
    refine st_p (mv rfl) rfl ?_
    refine st_p (op_addi rfl rfl (by omega)) rfl ?_
    refine st_p (op_nilCheck rfl trivial) rfl ?_
    refine st_p (op_fieldAddr Try.underlying143 rfl z3 (by decide) rfl) rfl ?_
    refine st_n (stA z3 rfl rfl rfl rfl rfl rfl rfl rfl rfl rfl) ?_
    refine al_nil ?_
    exact ret_n ⟨[], [(0, .cells 3 [.agg [.sl 1 B, .int .i64 (n + k : Nat), .bool true]])], 1⟩ (le_to [] rfl rfl rfl rfl rfl trivial ⟨by simp only [Blk.ren, hget, AV.ren, rens, List.map_cons, List.map_nil]; rfl, trivial⟩) (res0 Try.results147) (.inl rfl) ⟨rfl, rfl, rfl⟩
  | false =>
    cases ok with
    | true =>
      refine ac_fn Try.func147 rfl rfl rfl rfl (fun w0 S0 r0 => ?_)
      refine aw_seq ?_
      refine aw_region ?_
      refine st_p (mv rfl) rfl ?_
      refine st_p (mv rfl) rfl ?_
      refine st_p (op_nilCheck rfl trivial) rfl ?_
      refine st_p (op_fieldAddr Try.underlying143 rfl z4 (by decide) rfl) rfl ?_
      refine st_p (op_load1 Try.underlying4 rfl rfl rfl rfl rfl) rfl ?_
      refine st_p (mv rfl) rfl ?_
      refine st_pg rfl rfl rfl (mv rfl) rfl ?_
      refine st_pg rfl rfl rfl (op_notT rfl) rfl ?_
      refine st_p (pkF rfl rfl) rfl ?_
      refine st_p (op_nilCheck rfl trivial) rfl ?_
      refine st_p (op_fieldAddr Try.underlying143 rfl z4 (by decide) rfl) rfl ?_
      refine st_n (stA z4 rfl rfl rfl rfl rfl rfl rfl rfl rfl rfl) ?_
      refine al_nil ?_
      refine nm ?_
      refine aw_region ?_
      refine st_p (mv rfl) rfl ?_
      refine st_p (op_nilCheck rfl trivial) rfl ?_
      refine st_p (op_fieldAddr Try.underlying143 rfl z3 (by decide) rfl) rfl ?_
      refine st_p (op_load1 Try.underlying3 rfl rfl rfl rfl rfl) rfl ?_
      refine st_p (mv rfl) rfl ?_
      refine st_p (op_addi rfl rfl (by omega)) rfl ?_
      refine st_p (op_nilCheck rfl trivial) rfl ?_
      refine st_p (op_fieldAddr Try.underlying143 rfl z3 (by decide) rfl) rfl ?_
      refine st_n (stA z3 rfl rfl rfl rfl rfl rfl rfl rfl rfl rfl) ?_
      refine al_nil ?_
      exact ret_n ⟨[], [(0, .cells 3 [.agg [.sl 1 B, .int .i64 (n + k : Nat), .bool false]])], 1⟩ (le_to [] rfl rfl rfl rfl rfl trivial ⟨by simp only [Blk.ren, hget, AV.ren, rens, List.map_cons, List.map_nil]; rfl, trivial⟩) (res0 Try.results147) (.inl rfl) ⟨rfl, rfl, rfl⟩
    | false =>
      refine ac_fn Try.func147 rfl rfl rfl rfl (fun w0 S0 r0 => ?_)
      refine aw_seq ?_
      refine aw_region ?_
      refine st_p (mv rfl) rfl ?_
      refine st_p (mv rfl) rfl ?_
      refine st_p (op_nilCheck rfl trivial) rfl ?_
      refine st_p (op_fieldAddr Try.underlying143 rfl z4 (by decide) rfl) rfl ?_
      refine st_p (op_load1 Try.underlying4 rfl rfl rfl rfl rfl) rfl ?_
      refine st_p (mv rfl) rfl ?_
      refine st_pg rfl rfl rfl (mv rfl) rfl ?_
      refine st_pg rfl rfl rfl (op_notF rfl) rfl ?_
      refine st_p (pkF rfl rfl) rfl ?_
      refine st_p (op_nilCheck rfl trivial) rfl ?_
      refine st_p (op_fieldAddr Try.underlying143 rfl z4 (by decide) rfl) rfl ?_
      refine st_n (stA z4 rfl rfl rfl rfl rfl rfl rfl rfl rfl rfl) ?_
      refine al_nil ?_
      refine nm ?_
      refine aw_region ?_
      refine st_p (mv rfl) rfl ?_
      refine st_p (op_nilCheck rfl trivial) rfl ?_
      refine st_p (op_fieldAddr Try.underlying143 rfl z3 (by decide) rfl) rfl ?_
      refine st_p (op_load1 Try.underlying3 rfl rfl rfl rfl rfl) rfl ?_
      refine st_p (mv rfl) rfl ?_
      refine st_p (op_addi rfl rfl (by omega)) rfl ?_
      refine st_p (op_nilCheck rfl trivial) rfl ?_
      refine st_p (op_fieldAddr Try.underlying143 rfl z3 (by decide) rfl) rfl ?_
      refine st_n (stA z3 rfl rfl rfl rfl rfl rfl rfl rfl rfl rfl) ?_
      refine al_nil ?_
      exact ret_n ⟨[], [(0, .cells 3 [.agg [.sl 1 B, .int .i64 (n + k : Nat), .bool true]])], 1⟩ (le_to [] rfl rfl rfl rfl rfl trivial ⟨by simp only [Blk.ren, hget, AV.ren, rens, List.map_cons, List.map_nil]; rfl, trivial⟩) (res0 Try.results147) (.inl rfl) ⟨rfl, rfl, rfl⟩

theorem bl_from (b : List UInt8) (n : Nat) : List.take ((((bl b).length : Nat) : Int).toNat - ((n : Nat) : Int).toNat) (List.drop ((n : Nat) : Int).toNat (bl b)) = bl (b.drop n) := by
  rw [Int.toNat_natCast, Int.toNat_natCast, List.take_of_length_le (by rw [List.length_drop]; exact Nat.le_refl _)]
  simp [bl, List.map_drop]

set_option maxRecDepth 100000 in
theorem rdr_num (b : List UInt8) (n : Nat) (bad : Bool) (hb : b.length ≤ 100000) (hn : n ≤ b.length) :
    AC Try.prog 100 [.ptr 0 0 0] [(0, rdrB b n bad)] 1 true (fun v h nx => v = .int .i64 (numS b (n, bad)).1 ∧ h = [(0, rdrB b (numS b (n, bad)).2.1 (numS b (n, bad)).2.2)] ∧ nx = 1) := by
  have ht := num_Take (b.drop n)
  have hbl : (bl b).length = b.length := bl_len b
  rw [← bl_from] at ht
  unfold numS
  dsimp only
  cases hq : takeNum (b.drop n) with
  | none =>
    rw [hq] at ht
    dsimp only [numA] at ht ⊢
    have hg := rdr_goes b n 0 bad false (by omega)
    rw [Bool.not_false, Bool.or_true, Nat.add_zero] at hg
    unfold rdrB at hg ⊢
    refine ac_fn Try.func100 rfl rfl rfl rfl (fun w0 S0 r0 => ?_)
    refine aw_seq ?_
    refine aw_region ?_
    refine st_p (mva rfl) rfl ?_
    refine al_nil ?_
    refine nm ?_
    refine aw_seq ?_
    refine dr_go ?_
    refine dr_f 0 0 [0] rfl (fun H => mv rfl) ?_
    refine dr_f 0 0 [7] rfl (fun H => op_nilCheck rfl trivial) ?_
    refine dr_f 0 0 [8] rfl (fun H => op_fieldAddr Try.underlying143 rfl z22 (by decide) rfl) ?_
    refine dr_q 0 0 [9] rfl (op_load1 Try.underlying22 rfl rfl rfl rfl rfl) ?_
    refine dr_f 0 0 [0] rfl (fun H => mv rfl) ?_
    refine dr_f 0 0 [11] rfl (fun H => op_nilCheck rfl trivial) ?_
    refine dr_f 0 0 [12] rfl (fun H => op_fieldAddr Try.underlying143 rfl z3 (by decide) rfl) ?_
    refine dr_q 0 0 [13] rfl (op_load1 Try.underlying3 rfl rfl rfl rfl rfl) ?_
    refine dr_q 0 0 [10, 14] rfl (op_sliceL Try.underlying22 z5 rfl (by exact ⟨_, rfl⟩) (by exact rfl) (by first | omega | (simp only [bl_len, List.length_map, List.length_append, List.length_take, List.length_drop]; omega)) (by first | omega | (simp only [bl_len, List.length_map, List.length_append, List.length_take, List.length_drop]; omega)) (by first | omega | (simp only [bl_len, List.length_map, List.length_append, List.length_take, List.length_drop]; omega))) ?_
    -- STOP: call diwan/num.Take(t15) -> 16
    refine dr_fq 0 0 [15] rfl (fun H => op_callq (ht) Try.func146 ⟨rfl, rfl⟩ rfl rfl (fun nx => (.cons (.same (by rfl)) .nil)) (by rintro _ _ _ ⟨rfl, rfl, rfl⟩; exact .same rfl)) ?_
    refine dr_f 0 0 [16] rfl (fun H => mv rfl) ?_
    refine dr_f 0 0 [6] rfl (fun H => op_extract rfl rfl) ?_
    refine dr_f 0 0 [6] rfl (fun H => op_extract rfl rfl) ?_
    refine dr_f 0 0 [6] rfl (fun H => op_extract rfl rfl) ?_
    refine dr_f 0 0 [17] rfl (fun H => mva rfl) ?_
    refine dr_f 0 0 [18] rfl (fun H => mva rfl) ?_
    refine dr_f 0 0 [19] rfl (fun H => mva rfl) ?_
    refine dr_end [] (by kernel_rfl) (by kernel_rfl) (by kernel_rfl) (by kernel_rfl) trivial ?_
    refine nm ?_
    refine aw_seq ?_
    refine aw_region ?_
    refine st_p (mv rfl) rfl ?_
    refine st_p (mv rfl) rfl ?_
    refine st_p (mv rfl) rfl ?_
    -- STOP: call (*diwan/txn.reader).goes(t20, t21, t22) -> 23
    refine st_o (op_callg [(0, 0)] 1 true [(0, .cells 3 [.agg [.sl 1 (bl b), .int .i64 n, .bool bad]])] [0] (hg) Try.func147 ⟨rfl, rfl⟩ rfl rfl rfl rfl (by omega) (by intro p hp; simp only [List.mem_cons, List.not_mem_nil, or_false] at hp; rcases hp with rfl | rfl <;> exact ⟨by first | rfl | ((simp [hget, swp, Blk.ren, AV.ren, ints, Function.comp_def]) <;> rfl), rfl⟩) rfl (.cons (.same (by rfl)) (.cons (.same (by rfl)) (.cons (.same (by rfl)) .nil))) rfl rfl rfl) rfl ?_
    refine al_nil ?_
    refine nm ?_
    refine aw_seq ?_
    refine aw_region ?_
    refine st_p (mv rfl) rfl ?_
    refine st_p (mva rfl) rfl ?_
    refine al_nil ?_
    refine nm ?_
    refine aw_ret ?_
    exact ret_a ⟨[(2, .int .i64 0)], [(0, .cells 3 [.agg [.sl 1 (bl b), .int .i64 n, .bool true]])], 1⟩ (le_to [] rfl rfl rfl rfl rfl ⟨rfl, trivial⟩ ⟨rfl, trivial⟩) (res1 Try.results100) (.inl rfl) ⟨rfl, rfl, rfl⟩
  | some vk =>
    obtain ⟨v, k⟩ := vk
    obtain ⟨h1, h2, h3, h4⟩ := takeNum_spec hq
    rw [List.length_drop] at h1
    rw [hq] at ht
    dsimp only [numA] at ht ⊢
    have hg := rdr_goes b n k bad true (by omega)
    rw [Bool.not_true, Bool.or_false] at hg
    unfold rdrB at hg ⊢
    refine ac_fn Try.func100 rfl rfl rfl rfl (fun w0 S0 r0 => ?_)
    refine aw_seq ?_
    refine aw_region ?_
    refine st_p (mva rfl) rfl ?_
    refine al_nil ?_
    refine nm ?_
    refine aw_seq ?_
    refine dr_go ?_
    refine dr_f 0 0 [0] rfl (fun H => mv rfl) ?_
    refine dr_f 0 0 [7] rfl (fun H => op_nilCheck rfl trivial) ?_
    refine dr_f 0 0 [8] rfl (fun H => op_fieldAddr Try.underlying143 rfl z22 (by decide) rfl) ?_
    refine dr_q 0 0 [9] rfl (op_load1 Try.underlying22 rfl rfl rfl rfl rfl) ?_
    refine dr_f 0 0 [0] rfl (fun H => mv rfl) ?_
    refine dr_f 0 0 [11] rfl (fun H => op_nilCheck rfl trivial) ?_
    refine dr_f 0 0 [12] rfl (fun H => op_fieldAddr Try.underlying143 rfl z3 (by decide) rfl) ?_
    refine dr_q 0 0 [13] rfl (op_load1 Try.underlying3 rfl rfl rfl rfl rfl) ?_
    refine dr_q 0 0 [10, 14] rfl (op_sliceL Try.underlying22 z5 rfl (by exact ⟨_, rfl⟩) (by exact rfl) (by first | omega | (simp only [bl_len, List.length_map, List.length_append, List.length_take, List.length_drop]; omega)) (by first | omega | (simp only [bl_len, List.length_map, List.length_append, List.length_take, List.length_drop]; omega)) (by first | omega | (simp only [bl_len, List.length_map, List.length_append, List.length_take, List.length_drop]; omega))) ?_
    -- STOP: call diwan/num.Take(t15) -> 16
    refine dr_fq 0 0 [15] rfl (fun H => op_callq (ht) Try.func146 ⟨rfl, rfl⟩ rfl rfl (fun nx => (.cons (.same (by rfl)) .nil)) (by rintro _ _ _ ⟨rfl, rfl, rfl⟩; exact .same rfl)) ?_
    refine dr_f 0 0 [16] rfl (fun H => mv rfl) ?_
    refine dr_f 0 0 [6] rfl (fun H => op_extract rfl rfl) ?_
    refine dr_f 0 0 [6] rfl (fun H => op_extract rfl rfl) ?_
    refine dr_f 0 0 [6] rfl (fun H => op_extract rfl rfl) ?_
    refine dr_f 0 0 [17] rfl (fun H => mva rfl) ?_
    refine dr_f 0 0 [18] rfl (fun H => mva rfl) ?_
    refine dr_f 0 0 [19] rfl (fun H => mva rfl) ?_
    refine dr_end [] (by kernel_rfl) (by kernel_rfl) (by kernel_rfl) (by kernel_rfl) trivial ?_
    refine nm ?_
    refine aw_seq ?_
    refine aw_region ?_
    refine st_p (mv rfl) rfl ?_
    refine st_p (mv rfl) rfl ?_
    refine st_p (mv rfl) rfl ?_
    -- STOP: call (*diwan/txn.reader).goes(t20, t21, t22) -> 23
    refine st_o (op_callg [(0, 0)] 1 true [(0, .cells 3 [.agg [.sl 1 (bl b), .int .i64 n, .bool bad]])] [0] (hg) Try.func147 ⟨rfl, rfl⟩ rfl rfl rfl rfl (by omega) (by intro p hp; simp only [List.mem_cons, List.not_mem_nil, or_false] at hp; rcases hp with rfl | rfl <;> exact ⟨by first | rfl | ((simp [hget, swp, Blk.ren, AV.ren, ints, Function.comp_def]) <;> rfl), rfl⟩) rfl (.cons (.same (by rfl)) (.cons (.same (by rfl)) (.cons (.same (by rfl)) .nil))) rfl rfl rfl) rfl ?_
    refine al_nil ?_
    refine nm ?_
    refine aw_seq ?_
    refine aw_region ?_
    refine st_p (mv rfl) rfl ?_
    refine st_p (mva rfl) rfl ?_
    refine al_nil ?_
    refine nm ?_
    refine aw_ret ?_
    exact ret_a ⟨[(2, .int .i64 v)], [(0, .cells 3 [.agg [.sl 1 (bl b), .int .i64 (n + k : Nat), .bool bad]])], 1⟩ (le_to [] rfl rfl rfl rfl rfl ⟨rfl, trivial⟩ ⟨rfl, trivial⟩) (res1 Try.results100) (.inl rfl) ⟨rfl, rfl, rfl⟩

set_option maxRecDepth 100000 in
theorem rdr_text (b : List UInt8) (n : Nat) (bad : Bool) (hb : b.length ≤ 100000) (hn : n ≤ b.length) :
    AC Try.prog 101 [.ptr 0 0 0] [(0, rdrB b n bad)] 1 true (fun v h nx => v = sb (textS b (n, bad)).1 ∧ h = [(0, rdrB b (textS b (n, bad)).2.1 (textS b (n, bad)).2.2)] ∧ nx = 1) := by
  have ht := num_TakeText (b.drop n) (by rw [List.length_drop]; omega)
  have hbl : (bl b).length = b.length := bl_len b
  rw [← bl_from] at ht
  unfold textS
  dsimp only
  cases hq : takeText (b.drop n) with
  | none =>
    rw [hq] at ht
    dsimp only [textA] at ht ⊢
    have hg := rdr_goes b n 0 bad false (by omega)
    rw [Bool.not_false, Bool.or_true, Nat.add_zero] at hg
    unfold rdrB at hg ⊢
    refine ac_fn Try.func101 rfl rfl rfl rfl (fun w0 S0 r0 => ?_)
    refine aw_seq ?_
    refine aw_region ?_
    refine st_p (mva rfl) rfl ?_
    refine al_nil ?_
    refine nm ?_
    refine aw_seq ?_
    refine dr_go ?_
    refine dr_f 0 0 [0] rfl (fun H => mv rfl) ?_
    refine dr_f 0 0 [7] rfl (fun H => op_nilCheck rfl trivial) ?_
    refine dr_f 0 0 [8] rfl (fun H => op_fieldAddr Try.underlying143 rfl z22 (by decide) rfl) ?_
    refine dr_q 0 0 [9] rfl (op_load1 Try.underlying22 rfl rfl rfl rfl rfl) ?_
    refine dr_f 0 0 [0] rfl (fun H => mv rfl) ?_
    refine dr_f 0 0 [11] rfl (fun H => op_nilCheck rfl trivial) ?_
    refine dr_f 0 0 [12] rfl (fun H => op_fieldAddr Try.underlying143 rfl z3 (by decide) rfl) ?_
    refine dr_q 0 0 [13] rfl (op_load1 Try.underlying3 rfl rfl rfl rfl rfl) ?_
    refine dr_q 0 0 [10, 14] rfl (op_sliceL Try.underlying22 z5 rfl (by exact ⟨_, rfl⟩) (by exact rfl) (by first | omega | (simp only [bl_len, List.length_map, List.length_append, List.length_take, List.length_drop]; omega)) (by first | omega | (simp only [bl_len, List.length_map, List.length_append, List.length_take, List.length_drop]; omega)) (by first | omega | (simp only [bl_len, List.length_map, List.length_append, List.length_take, List.length_drop]; omega))) ?_
    -- STOP: call diwan/num.TakeText(t15) -> 16
    refine dr_fq 0 0 [15] rfl (fun H => op_callq (ht) Try.func148 ⟨rfl, rfl⟩ rfl rfl (fun nx => (.cons (.same (by rfl)) .nil)) (by rintro _ _ _ ⟨rfl, rfl, rfl⟩; exact .same rfl)) ?_
    refine dr_f 0 0 [16] rfl (fun H => mv rfl) ?_
    refine dr_f 0 0 [6] rfl (fun H => op_extract rfl rfl) ?_
    refine dr_f 0 0 [6] rfl (fun H => op_extract rfl rfl) ?_
    refine dr_f 0 0 [6] rfl (fun H => op_extract rfl rfl) ?_
    refine dr_f 0 0 [17] rfl (fun H => mva rfl) ?_
    refine dr_f 0 0 [18] rfl (fun H => mva rfl) ?_
    refine dr_f 0 0 [19] rfl (fun H => mva rfl) ?_
    refine dr_end [] (by kernel_rfl) (by kernel_rfl) (by kernel_rfl) (by kernel_rfl) trivial ?_
    refine nm ?_
    refine aw_seq ?_
    refine aw_region ?_
    refine st_p (mv rfl) rfl ?_
    refine st_p (mv rfl) rfl ?_
    refine st_p (mv rfl) rfl ?_
    -- STOP: call (*diwan/txn.reader).goes(t20, t21, t22) -> 23
    refine st_o (op_callg [(0, 0)] 1 true [(0, .cells 3 [.agg [.sl 1 (bl b), .int .i64 n, .bool bad]])] [0] (hg) Try.func147 ⟨rfl, rfl⟩ rfl rfl rfl rfl (by omega) (by intro p hp; simp only [List.mem_cons, List.not_mem_nil, or_false] at hp; rcases hp with rfl | rfl <;> exact ⟨by first | rfl | ((simp [hget, swp, Blk.ren, AV.ren, ints, Function.comp_def]) <;> rfl), rfl⟩) rfl (.cons (.same (by rfl)) (.cons (.same (by rfl)) (.cons (.same (by rfl)) .nil))) rfl rfl rfl) rfl ?_
    refine al_nil ?_
    refine nm ?_
    refine aw_seq ?_
    refine aw_region ?_
    refine st_p (mv rfl) rfl ?_
    refine st_p (mva rfl) rfl ?_
    refine al_nil ?_
    refine nm ?_
    refine aw_ret ?_
    exact ret_a ⟨[(2, sb [])], [(0, .cells 3 [.agg [.sl 1 (bl b), .int .i64 n, .bool true]])], 1⟩ (le_to [] rfl rfl rfl rfl rfl ⟨rfl, trivial⟩ ⟨rfl, trivial⟩) (res1 Try.results101) (.inl rfl) ⟨rfl, rfl, rfl⟩
  | some vk =>
    obtain ⟨v, k⟩ := vk
    obtain ⟨h1, h2, h3⟩ := takeText_spec hq
    rw [List.length_drop] at h1
    rw [hq] at ht
    dsimp only [textA] at ht ⊢
    have hg := rdr_goes b n k bad true (by omega)
    rw [Bool.not_true, Bool.or_false] at hg
    unfold rdrB at hg ⊢
    refine ac_fn Try.func101 rfl rfl rfl rfl (fun w0 S0 r0 => ?_)
    refine aw_seq ?_
    refine aw_region ?_
    refine st_p (mva rfl) rfl ?_
    refine al_nil ?_
    refine nm ?_
    refine aw_seq ?_
    refine dr_go ?_
    refine dr_f 0 0 [0] rfl (fun H => mv rfl) ?_
    refine dr_f 0 0 [7] rfl (fun H => op_nilCheck rfl trivial) ?_
    refine dr_f 0 0 [8] rfl (fun H => op_fieldAddr Try.underlying143 rfl z22 (by decide) rfl) ?_
    refine dr_q 0 0 [9] rfl (op_load1 Try.underlying22 rfl rfl rfl rfl rfl) ?_
    refine dr_f 0 0 [0] rfl (fun H => mv rfl) ?_
    refine dr_f 0 0 [11] rfl (fun H => op_nilCheck rfl trivial) ?_
    refine dr_f 0 0 [12] rfl (fun H => op_fieldAddr Try.underlying143 rfl z3 (by decide) rfl) ?_
    refine dr_q 0 0 [13] rfl (op_load1 Try.underlying3 rfl rfl rfl rfl rfl) ?_
    refine dr_q 0 0 [10, 14] rfl (op_sliceL Try.underlying22 z5 rfl (by exact ⟨_, rfl⟩) (by exact rfl) (by first | omega | (simp only [bl_len, List.length_map, List.length_append, List.length_take, List.length_drop]; omega)) (by first | omega | (simp only [bl_len, List.length_map, List.length_append, List.length_take, List.length_drop]; omega)) (by first | omega | (simp only [bl_len, List.length_map, List.length_append, List.length_take, List.length_drop]; omega))) ?_
    -- STOP: call diwan/num.TakeText(t15) -> 16
    refine dr_fq 0 0 [15] rfl (fun H => op_callq (ht) Try.func148 ⟨rfl, rfl⟩ rfl rfl (fun nx => (.cons (.same (by rfl)) .nil)) (by rintro _ _ _ ⟨rfl, rfl, rfl⟩; exact .same rfl)) ?_
    refine dr_f 0 0 [16] rfl (fun H => mv rfl) ?_
    refine dr_f 0 0 [6] rfl (fun H => op_extract rfl rfl) ?_
    refine dr_f 0 0 [6] rfl (fun H => op_extract rfl rfl) ?_
    refine dr_f 0 0 [6] rfl (fun H => op_extract rfl rfl) ?_
    refine dr_f 0 0 [17] rfl (fun H => mva rfl) ?_
    refine dr_f 0 0 [18] rfl (fun H => mva rfl) ?_
    refine dr_f 0 0 [19] rfl (fun H => mva rfl) ?_
    refine dr_end [] (by kernel_rfl) (by kernel_rfl) (by kernel_rfl) (by kernel_rfl) trivial ?_
    refine nm ?_
    refine aw_seq ?_
    refine aw_region ?_
    refine st_p (mv rfl) rfl ?_
    refine st_p (mv rfl) rfl ?_
    refine st_p (mv rfl) rfl ?_
    -- STOP: call (*diwan/txn.reader).goes(t20, t21, t22) -> 23
    refine st_o (op_callg [(0, 0)] 1 true [(0, .cells 3 [.agg [.sl 1 (bl b), .int .i64 n, .bool bad]])] [0] (hg) Try.func147 ⟨rfl, rfl⟩ rfl rfl rfl rfl (by omega) (by intro p hp; simp only [List.mem_cons, List.not_mem_nil, or_false] at hp; rcases hp with rfl | rfl <;> exact ⟨by first | rfl | ((simp [hget, swp, Blk.ren, AV.ren, ints, Function.comp_def]) <;> rfl), rfl⟩) rfl (.cons (.same (by rfl)) (.cons (.same (by rfl)) (.cons (.same (by rfl)) .nil))) rfl rfl rfl) rfl ?_
    refine al_nil ?_
    refine nm ?_
    refine aw_seq ?_
    refine aw_region ?_
    refine st_p (mv rfl) rfl ?_
    refine st_p (mva rfl) rfl ?_
    refine al_nil ?_
    refine nm ?_
    refine aw_ret ?_
    exact ret_a ⟨[(2, sb v)], [(0, .cells 3 [.agg [.sl 1 (bl b), .int .i64 (n + k : Nat), .bool bad]])], 1⟩ (le_to [] rfl rfl rfl rfl rfl ⟨rfl, trivial⟩ ⟨rfl, trivial⟩) (res1 Try.results101) (.inl rfl) ⟨rfl, rfl, rfl⟩

theorem bytes_Equal (a b : List UInt8) : AC Try.prog 149 [.sl 1 (bl a), .sl 1 (bl b)] [] 0 false (fun v h nx => v = .bool (decide (a = b)) ∧ h = [] ∧ nx = 0) := by
  by_cases h : a = b
  · rw [decide_eq_true h]
    refine ac_fn Try.func149 rfl rfl rfl rfl (fun w0 S0 r0 => ?_)
    refine aw_seq ?_
    refine aw_region ?_
    refine st_p (mva rfl) rfl ?_
    refine al_nil ?_
    refine nm ?_
    refine aw_seq ?_
    refine aw_region ?_
    refine st_p (mv rfl) rfl ?_
    refine st_p (op_toStr Try.underlying22 Try.underlying5 Try.underlying9 rfl (.sl (.inr trivial)) rfl) rfl ?_
    refine st_p (mv rfl) rfl ?_
    refine st_p (op_toStr Try.underlying22 Try.underlying5 Try.underlying9 rfl (.sl (.inr trivial)) rfl) rfl ?_
    refine st_p (OpP.conv (op_eqs rfl rfl) (yes (by first | assumption | omega))) rfl ?_
    refine st_p (mva rfl) rfl ?_
    refine al_nil ?_
    refine nm ?_
    refine aw_ret ?_
    exact ret_v (res1 Try.results149) (.inr ⟨rfl, rfl⟩) ⟨rfl, rfl, rfl⟩
  · rw [decide_eq_false h]
    refine ac_fn Try.func149 rfl rfl rfl rfl (fun w0 S0 r0 => ?_)
    refine aw_seq ?_
    refine aw_region ?_
    refine st_p (mva rfl) rfl ?_
    refine al_nil ?_
    refine nm ?_
    refine aw_seq ?_
    refine aw_region ?_
    refine st_p (mv rfl) rfl ?_
    refine st_p (op_toStr Try.underlying22 Try.underlying5 Try.underlying9 rfl (.sl (.inr trivial)) rfl) rfl ?_
    refine st_p (mv rfl) rfl ?_
    refine st_p (op_toStr Try.underlying22 Try.underlying5 Try.underlying9 rfl (.sl (.inr trivial)) rfl) rfl ?_
    refine st_p (OpP.conv (op_eqs rfl rfl) (no (by first | assumption | omega))) rfl ?_
    refine st_p (mva rfl) rfl ?_
    refine al_nil ?_
    refine nm ?_
    refine aw_ret ?_
    exact ret_v (res1 Try.results149) (.inr ⟨rfl, rfl⟩) ⟨rfl, rfl, rfl⟩

/-- Do bytes begin with others? -/
def preB (s p : List UInt8) : Bool := decide (p.length ≤ s.length) && decide (s.take p.length = p)

theorem bytes_HasPrefix (s p : List UInt8) : AC Try.prog 102 [.sl 1 (bl s), .sl 1 (bl p)] [] 0 false (fun v h nx => v = .bool (preB s p) ∧ h = [] ∧ nx = 0) := by
  have hs := bl_len s
  have hp := bl_len p
  have he := bytes_Equal (s.take p.length) p
  rw [show bl (s.take p.length) = List.take ((((bl p).length : Nat) : Int).toNat - Int.toNat 0) (List.drop (Int.toNat 0) (bl s)) from by simp [bl, List.map_take]] at he
  unfold preB
  by_cases h : p.length ≤ s.length
  · rw [decide_eq_true h, Bool.true_and]
    refine ac_fn Try.func102 rfl rfl rfl rfl (fun w0 S0 r0 => ?_)
    refine aw_seq ?_
    refine aw_region ?_
    refine st_p (mva rfl) rfl ?_
    refine al_nil ?_
    refine nm ?_
    refine aw_seq ?_
    refine aw_region ?_
    refine st_p (mv rfl) rfl ?_
    refine st_p (op_len Try.underlying22 rfl) rfl ?_
    refine st_p (mv rfl) rfl ?_
    refine st_p (op_len Try.underlying22 rfl) rfl ?_
    refine st_p (OpP.conv (op_ge rfl rfl) (yes (by first | assumption | omega))) rfl ?_
    refine st_p (mv rfl) rfl ?_
    refine st_pg rfl rfl rfl (mv rfl) rfl ?_
    refine st_pg rfl rfl rfl (mv rfl) rfl ?_
    refine st_pg rfl rfl rfl (op_len Try.underlying22 rfl) rfl ?_
    refine st_pg rfl rfl rfl (op_sliceL Try.underlying22 z5 rfl (by exact rfl) (by exact ⟨_, rfl⟩) (by first | omega | (simp only [bl_len, List.length_map, List.length_append, List.length_take, List.length_drop]; omega)) (by first | omega | (simp only [bl_len, List.length_map, List.length_append, List.length_take, List.length_drop]; omega)) (by first | omega | (simp only [bl_len, List.length_map, List.length_append, List.length_take, List.length_drop]; omega))) rfl ?_
    refine st_pg rfl rfl rfl (mv rfl) rfl ?_
    -- STOP: call bytes.Equal(t14, t15) -> 16
    refine st_og rfl rfl rfl ((op_callq (he) Try.func149 ⟨rfl, rfl⟩ rfl rfl (fun nx => (.cons (.same (by rfl)) (.cons (.same (by rfl)) .nil))) (by rintro _ _ _ ⟨rfl, rfl, rfl⟩; exact .same rfl)).ok) rfl ?_
    refine st_p (pkT rfl rfl) rfl ?_
    refine st_p (mva rfl) rfl ?_
    refine al_nil ?_
    refine nm ?_
    refine aw_ret ?_
    exact ret_v (res1 Try.results102) (.inr ⟨rfl, rfl⟩) ⟨rfl, rfl, rfl⟩
  · rw [decide_eq_false h, Bool.false_and]
    refine ac_fn Try.func102 rfl rfl rfl rfl (fun w0 S0 r0 => ?_)
    refine aw_seq ?_
    refine aw_region ?_
    refine st_p (mva rfl) rfl ?_
    refine al_nil ?_
    refine nm ?_
    refine aw_seq ?_
    refine aw_region ?_
    refine st_p (mv rfl) rfl ?_
    refine st_p (op_len Try.underlying22 rfl) rfl ?_
    refine st_p (mv rfl) rfl ?_
    refine st_p (op_len Try.underlying22 rfl) rfl ?_
    refine st_p (OpP.conv (op_ge rfl rfl) (no (by first | assumption | omega))) rfl ?_
    refine st_p (mv rfl) rfl ?_
    refine st_s rfl rfl rfl rfl rfl ?_
    refine st_s rfl rfl rfl rfl rfl ?_
    refine st_s rfl rfl rfl rfl rfl ?_
    refine st_s rfl rfl rfl rfl rfl ?_
    refine st_s rfl rfl rfl rfl rfl ?_
    -- STOP: call bytes.Equal(t14, t15) -> 16
    refine st_s rfl rfl rfl rfl rfl ?_
    refine st_p (pkF rfl rfl) rfl ?_
    refine st_p (mva rfl) rfl ?_
    refine al_nil ?_
    refine nm ?_
    refine aw_ret ?_
    exact ret_v (res1 Try.results102) (.inr ⟨rfl, rfl⟩) ⟨rfl, rfl, rfl⟩

end Go.Proofs.Ytloddmbbfkejcaa.Abs
end
section
/-
  What a function answers, said under other names, with blocks forgotten. It holds of any program.
-/
namespace Go.Proofs.Ytloddmbbfkejcaa.Abs

theorem AC.le {P : Program} {f : FuncId} {args : List AV} {h0 : Heap} {nx0 : Nat} {al : Bool} {Q Q' : AV → Heap → Nat → Prop} (k : AC P f args h0 nx0 al Q)
    (hq : ∀ r h nx, Q r h nx → nx0 ≤ nx ∧ ∃ r' h' nx', Q' r' h' nx' ∧ ∀ c : Ctx, c.nx0 = nx0 → Le c 1 ⟨[(0, r)], h, nx⟩ ⟨[(0, r')], h', nx'⟩) : AC P f args h0 nx0 al Q' := by
  intro ρ S w vals h1 h2 h3
  refine (k ρ S w vals h1 h2 h3).mono fun e w' ⟨v, r, h, nx, ρ', S', a1, a2, a3, a4, a5, a6, a7⟩ => ?_
  obtain ⟨q1, r', h', nx', q2, q3⟩ := hq r h nx a2
  have hr : Rep ⟨w, Own ρ h0, S', ρ, nx0⟩ 1 ⟨[(0, r)], h, nx⟩ ρ' S' { tmps := #[v], defers := [] } w' := by
    refine ⟨rfl, rfl, fun i => ?_, a4, ⟨a7.os, a7.tape, a7.output, a7.size, a7.keep, fun _ h => h, fun _ h => .inl h, fun b B q o1 o2 => a7.own q.blk ⟨b, B, q, o1, o2, rfl⟩, a7.ids⟩, a5, q1, a6⟩
    cases i with
    | zero => exact a3
    | succ i => exact .top
  obtain ⟨ρ2, hr2⟩ := q3 _ rfl _ _ _ _ hr
  refine ⟨v, r', h', nx', ρ2, S', a1, q2, hr2.tmps 0, hr2.sim, hr2.fresh, hr2.dom, a7.os, a7.tape, a7.output, a7.size, a7.keep, fun b ⟨i, B, q, o1, o2, o3⟩ => ?_, a7.s, hr2.post.ids⟩
  subst o3
  exact hr2.post.own i B q o1 o2

/-- Less is said of a value. -/
theorem le_val {c : Ctx} {n : Nat} {r r' : AV} {h : Heap} {nx : Nat} (hv : ∀ S w ρ v, VR S w ρ r v → VR S w ρ r' v) : Le c n ⟨[(0, r)], h, nx⟩ ⟨[(0, r')], h, nx⟩ := fun ρ S a w hr =>
  ⟨ρ, hr.size, hr.defers, fun i => by
    have := hr.tmps i
    cases i with
    | zero => exact hv _ _ _ _ this
    | succ i => exact .top, hr.sim, hr.post, hr.fresh, hr.le, hr.dom⟩

/-- A loop's ways out, joined: behind it things stand as J says. -/
theorem aw_cutB {P : Program} {c : Ctx} {n : Nat} {a b : Code} {id : Nat} {Q : Exit → St → Prop} {st : St} (J : St) (h : AW P c n a (inBlockA id (thenA (fun st' => Le c n st' J) Q)) st) (k : AW P c n b Q J) : AW P c n a (inBlockA id (thenA (AW P c n b Q) Q)) st := by
  refine aw_mono (fun e st' hq => ?_) h
  have key : ∀ e, thenA (fun st' => Le c n st' J) Q e st' → thenA (AW P c n b Q) Q e st' := fun e hq => by
    cases e with
    | normal => exact aw_le hq k
    | _ => exact hq
  cases e with
  | exit id' =>
    have hq : (if id' = id then thenA (fun st' => Le c n st' J) Q .normal st' else thenA (fun st' => Le c n st' J) Q (.exit id') st') := hq
    show (if id' = id then thenA (AW P c n b Q) Q .normal st' else thenA (AW P c n b Q) Q (.exit id') st')
    split at hq
    · rename_i h; rw [if_pos h]; exact key _ hq
    · rename_i h; rw [if_neg h]; exact key _ hq
  | normal => exact key .normal hq
  | ret => exact key .ret hq
  | goto l => exact key (.goto l) hq
  | panic ch => exact key (.panic ch) hq
  | outgrown => exact key .outgrown hq

end Go.Proofs.Ytloddmbbfkejcaa.Abs
end
section
/-
  txn.Take: what is read, what is written.
-/
namespace Go.Proofs.Ytloddmbbfkejcaa.Abs

def takeRdS (b : List UInt8) (s : Nat × Bool) : RD × Nat × Bool :=
  (⟨(textS b s).1, (numS b (textS b s).2).1, (textS b (numS b (textS b s).2).2).1, decide (((numS b (textS b (numS b (textS b s).2).2).2).1 : Int) = 1)⟩, (numS b (textS b (numS b (textS b s).2).2).2).2)
def takeWrS (b : List UInt8) (s : Nat × Bool) : WR × Nat × Bool :=
  (⟨(textS b s).1, (textS b (textS b s).2).1, decide (((numS b (textS b (textS b s).2).2).1 : Int) = 1)⟩, (numS b (textS b (textS b s).2).2).2)
def loopS {α : Type} (f : Nat × Bool → α × Nat × Bool) : Nat → Nat × Bool → List α × Nat × Bool
  | 0, s => ([], s)
  | i + 1, s => if s.2 then ([], s) else ((f s).1 :: (loopS f i (f s).2).1, (loopS f i (f s).2).2)

theorem loopS_bad {α : Type} (f : Nat × Bool → α × Nat × Bool) (i : Nat) (s : Nat × Bool) (h : s.2 = true) : loopS f i s = ([], s) := by
  cases i with
  | zero => rfl
  | succ i => simp only [loopS, h, if_true]

theorem takeRdS_le (b : List UInt8) (s : Nat × Bool) (h : s.1 ≤ b.length) : (takeRdS b s).2.1 ≤ b.length ∧ s.1 ≤ (takeRdS b s).2.1 ∧ ((takeRdS b s).2.2 = false → s.1 + 1 ≤ (takeRdS b s).2.1) := by
  obtain ⟨a1, a2, a3, a4⟩ := textS_le b s h
  obtain ⟨b1, b2, b3, b4⟩ := numS_le b _ a1
  obtain ⟨c1, c2, c3, c4⟩ := textS_le b _ b1
  obtain ⟨d1, d2, d3, d4⟩ := numS_le b _ c1
  exact ⟨d1, by unfold takeRdS; dsimp only; omega, fun e => by have := (d4 e).2; unfold takeRdS; dsimp only; omega⟩
theorem takeWrS_le (b : List UInt8) (s : Nat × Bool) (h : s.1 ≤ b.length) : (takeWrS b s).2.1 ≤ b.length ∧ s.1 ≤ (takeWrS b s).2.1 ∧ ((takeWrS b s).2.2 = false → s.1 + 1 ≤ (takeWrS b s).2.1) := by
  obtain ⟨a1, a2, a3, a4⟩ := textS_le b s h
  obtain ⟨c1, c2, c3, c4⟩ := textS_le b _ a1
  obtain ⟨d1, d2, d3, d4⟩ := numS_le b _ c1
  exact ⟨d1, by unfold takeWrS; dsimp only; omega, fun e => by have := (d4 e).2; unfold takeWrS; dsimp only; omega⟩

def takeA (b : List UInt8) := numS b (0, false)
def takeQ (b : List UInt8) := numS b (takeA b).2
def takeC (b : List UInt8) := numS b (takeQ b).2
def takeR (b : List UInt8) := loopS (takeRdS b) (takeC b).1 (takeC b).2
def takeD (b : List UInt8) := numS b (takeR b).2
def takeW (b : List UInt8) := loopS (takeWrS b) (takeD b).1 (takeD b).2
def takeT (b : List UInt8) : TX := ⟨(takeA b).1, (takeQ b).1, (takeR b).1, (takeW b).1⟩
def takeOk (b : List UInt8) : Bool := !(takeW b).2.2 && (mayTxB (takeT b) && (preB b (putTx (takeT b)) && decide ((putTx (takeT b)).length = (takeW b).2.1)))

theorem ren_rds (σ : Nat → Nat) (l : List RD) : (Blk.cells 4 (l.map rdA)).ren σ = .cells 4 (l.map rdA) := by simp [Blk.ren, AV.ren, rens, rdA, sb, Function.comp_def]
theorem ren_wrs (σ : Nat → Nat) (l : List WR) : (Blk.cells 3 (l.map wrA)).ren σ = .cells 3 (l.map wrA) := by simp [Blk.ren, AV.ren, rens, wrA, sb, Function.comp_def]

theorem putTx_pos2 (t : TX) : 1 ≤ (putTx t).length := by
  have := putNum_pos t.ses.toNat
  unfold putTx txMid txHead
  simp only [List.flatten_cons, List.length_append]
  omega

/-- What is read, behind the head. -/
theorem take_eqs (b : List UInt8) : takeQ b = numS b (takeA b).2 ∧ takeC b = numS b (takeQ b).2 ∧ takeR b = loopS (takeRdS b) (takeC b).1 (takeC b).2 ∧ takeD b = numS b (takeR b).2 ∧ takeW b = loopS (takeWrS b) (takeD b).1 (takeD b).2 := ⟨rfl, rfl, rfl, rfl, rfl⟩

theorem loopS_le {α : Type} (b : List UInt8) (f : Nat × Bool → α × Nat × Bool) (hf : ∀ s, s.1 ≤ b.length → (f s).2.1 ≤ b.length) : ∀ (i : Nat) (s : Nat × Bool), s.1 ≤ b.length → (loopS f i s).2.1 ≤ b.length := by
  intro i
  induction i with
  | zero => intro s h; exact h
  | succ i ih =>
    intro s h
    simp only [loopS]
    split
    · exact h
    · exact ih _ (hf s h)

theorem loopS_ver (b : List UInt8) : ∀ (i : Nat) (s : Nat × Bool), s.1 ≤ b.length → ∀ r ∈ (loopS (takeRdS b) i s).1, r.ver ≤ 9223372036854775807 ∧ r.key.length ≤ 255 := by
  intro i
  induction i with
  | zero => intro s _ r hr; cases hr
  | succ i ih =>
    intro s hs r hr
    simp only [loopS] at hr
    split at hr
    · cases hr
    · rcases List.mem_cons.1 hr with rfl | hr
      · obtain ⟨q1, _, q2, _⟩ := textS_le b s hs
        obtain ⟨_, _, q3, _⟩ := numS_le b _ q1
        exact ⟨by unfold takeRdS; dsimp only; omega, q2⟩
      · exact ih _ (takeRdS_le b s hs).1 r hr
theorem loopS_key (b : List UInt8) : ∀ (i : Nat) (s : Nat × Bool), s.1 ≤ b.length → ∀ r ∈ (loopS (takeWrS b) i s).1, r.key.length ≤ 255 := by
  intro i
  induction i with
  | zero => intro s _ r hr; cases hr
  | succ i ih =>
    intro s hs r hr
    simp only [loopS] at hr
    split at hr
    · cases hr
    · rcases List.mem_cons.1 hr with rfl | hr
      · exact (textS_le b s hs).2.2.1
      · exact ih _ (takeWrS_le b s hs).1 r hr

theorem loopS_len {α : Type} (b : List UInt8) (f : Nat × Bool → α × Nat × Bool) (hf : ∀ s, s.1 ≤ b.length → (f s).2.1 ≤ b.length ∧ s.1 ≤ (f s).2.1 ∧ ((f s).2.2 = false → s.1 + 1 ≤ (f s).2.1)) : ∀ (i : Nat) (s : Nat × Bool), s.1 ≤ b.length → (loopS f i s).1.length + s.1 ≤ b.length + 1 := by
  intro i
  induction i with
  | zero => intro s h; simp [loopS]; omega
  | succ i ih =>
    intro s h
    simp only [loopS]
    split
    · simp; omega
    · obtain ⟨h1, h2, h3⟩ := hf s h
      have := ih _ h1
      simp only [List.length_cons]
      cases hb : (f s).2.2 with
      | true => rw [loopS_bad _ _ _ hb]; simp; omega
      | false => have := h3 hb; omega

set_option maxRecDepth 100000 in
set_option maxHeartbeats 8000000 in
theorem txn_Take0 (b : List UInt8) (hb : b.length ≤ 100000) :
    AC Try.prog 34 [.sl 1 (bl b)] [] 0 false (fun v h nx =>
      v = cond (takeOk b) (.tup [.agg [.int .i64 ((takeA b).1 : Nat), .int .i64 ((takeQ b).1 : Nat), .own 2 0 (takeR b).1.length, .own 3 0 (takeW b).1.length], .int .i64 ((takeW b).2.1 : Nat), .bool true]) (.tup [.agg [.int .i64 0, .int .i64 0, .nils, .nils], .int .i64 0, .bool false]) ∧
      h = cond (takeOk b) [(0, .cells 4 [.agg [.int .i64 ((takeA b).1 : Nat), .int .i64 ((takeQ b).1 : Nat), .own 2 0 (takeR b).1.length, .own 3 0 (takeW b).1.length]]), (2, .cells 4 ((takeR b).1.map rdA)), (3, .cells 3 ((takeW b).1.map wrA))] [(0, .cells 4 [.agg [.int .i64 0, .int .i64 0, .nils, .nils]])] ∧ nx = cond (takeOk b) 4 1) := by
  have hnum : ∀ s : Nat × Bool, s.1 ≤ b.length → AC Try.prog 100 [.ptr 0 0 0] [(0, rdrB b s.1 s.2)] 1 true (fun v h nx => v = .int .i64 (numS b s).1 ∧ h = [(0, rdrB b (numS b s).2.1 (numS b s).2.2)] ∧ nx = 1) := fun s hs => rdr_num b s.1 s.2 hb hs
  have htext : ∀ s : Nat × Bool, s.1 ≤ b.length → AC Try.prog 101 [.ptr 0 0 0] [(0, rdrB b s.1 s.2)] 1 true (fun v h nx => v = sb (textS b s).1 ∧ h = [(0, rdrB b (textS b s).2.1 (textS b s).2.2)] ∧ nx = 1) := fun s hs => rdr_text b s.1 s.2 hb hs
  obtain ⟨eQ, eC, eR, eD, eW⟩ := take_eqs b
  obtain ⟨lA, _, mA, _⟩ := numS_le b (0, false) (Nat.zero_le _)
  have hA := hnum (0, false) (Nat.zero_le _)
  rw [show numS b (0, false) = takeA b from rfl] at hA lA mA
  obtain ⟨lQ, _, mQ, _⟩ := numS_le b _ lA
  have hQ := hnum _ lA
  rw [← eQ] at hQ lQ mQ
  obtain ⟨lC, _, mC, _⟩ := numS_le b _ lQ
  have hC := hnum _ lQ
  rw [← eC] at hC lC mC
  have lR := loopS_le b (takeRdS b) (fun s hs => (takeRdS_le b s hs).1) (takeC b).1 _ lC
  rw [← eR] at lR
  obtain ⟨lD, _, mD, _⟩ := numS_le b _ lR
  have hD := hnum _ lR
  rw [← eD] at hD lD mD
  have lW := loopS_le b (takeWrS b) (fun s hs => (takeWrS_le b s hs).1) (takeD b).1 _ lD
  rw [← eW] at lW
  have hO : takeOk b = (!(takeW b).2.2 && (mayTxB (takeT b) && (preB b (putTx (takeT b)) && decide ((putTx (takeT b)).length = (takeW b).2.1)))) := rfl
  unfold takeT at *
  generalize takeOk b = ok at hO ⊢
  have vR := loopS_ver b (takeC b).1 (takeC b).2 lC
  rw [← eR] at vR
  have kW := loopS_key b (takeD b).1 (takeD b).2 lD
  rw [← eW] at kW
  have nR := loopS_len b (takeRdS b) (takeRdS_le b) (takeC b).1 (takeC b).2 lC
  rw [← eR] at nR
  have nW := loopS_len b (takeWrS b) (takeWrS_le b) (takeD b).1 (takeD b).2 lD
  rw [← eW] at nW
  clear eQ eC
  generalize takeA b = A at *
  generalize takeQ b = Q at *
  generalize takeC b = C at *
  generalize takeR b = R at *
  generalize takeD b = D at *
  generalize takeW b = W at *
  obtain ⟨vA, nA, bA⟩ := A
  obtain ⟨vQ, nQ, bQ⟩ := Q
  obtain ⟨vC, sC⟩ := C
  dsimp only at *
  refine ac_fn Try.func34 rfl rfl rfl rfl (fun w0 S0 r0 => ?_)
  refine aw_seq ?_
  refine aw_region ?_
  refine st_o (op_alloc a26 rfl rfl) rfl ?_
  refine st_p (mva rfl) rfl ?_
  refine st_p (mva rfl) rfl ?_
  refine al_nil ?_
  refine nm ?_
  refine aw_seq ?_
  refine aw_region ?_
  refine st_p (mv rfl) rfl ?_
  refine st_p (op_build Try.underlying143 a143 rfl rfl (by intro f hf; simp only [List.mem_cons, List.not_mem_nil, or_false] at hf; rcases hf with rfl | rfl | rfl <;> exact ⟨_, by first | exact z3 | exact z4 | exact z22⟩) (pcons rfl rfl z22 rfl .nil) rfl) rfl ?_
  refine st_o (bx rfl rfl) rfl ?_
  refine st_p (mva rfl) rfl ?_
  refine al_nil ?_
  refine nm ?_
  refine aw_seq ?_
  refine aw_region ?_
  refine st_p (mv rfl) rfl ?_
  refine st_p (mkf rfl rfl) rfl ?_
  refine st_p (mv rfl) rfl ?_
  refine st_p (mkf rfl rfl) rfl ?_
  refine st_p (mva rfl) rfl ?_
  refine st_p (mva rfl) rfl ?_
  refine al_nil ?_
  refine nm ?_
  refine aw_seq ?_
  refine aw_region ?_
  refine st_p (mv rfl) rfl ?_
  -- STOP: call t20() -> 21
  refine st_o (op_callg [(0, 1)] 1 true [(0, rdrB b 0 false)] [1] (hA) Try.func100 ⟨rfl, rfl⟩ rfl rfl rfl rfl (by omega) (by intro p hp; simp only [List.mem_cons, List.not_mem_nil, or_false] at hp; rcases hp with rfl <;> exact ⟨by first | rfl | ((simp [hget, swp, Blk.ren, AV.ren, ints, Function.comp_def]) <;> rfl), rfl⟩) rfl (.cons (.same (by rfl)) .nil) rfl rfl rfl) rfl ?_
  refine st_p (mv rfl) rfl ?_
  -- STOP: call t22() -> 23
  refine st_o (op_callg [(0, 1)] 1 true [(0, rdrB b nA bA)] [1] (hQ) Try.func100 ⟨rfl, rfl⟩ rfl rfl rfl rfl (by omega) (by intro p hp; simp only [List.mem_cons, List.not_mem_nil, or_false] at hp; rcases hp with rfl <;> exact ⟨by first | rfl | ((simp [hget, swp, Blk.ren, AV.ren, ints, Function.comp_def]) <;> rfl), rfl⟩) rfl (.cons (.same (by rfl)) .nil) rfl rfl rfl) rfl ?_
  refine st_p (op_fieldAddr Try.underlying26 rfl z3 (by decide) rfl) rfl ?_
  refine st_n (stA z3 rfl rfl rfl rfl rfl rfl rfl rfl rfl rfl) ?_
  refine st_p (op_fieldAddr Try.underlying26 rfl z3 (by decide) rfl) rfl ?_
  refine st_n (stA z3 rfl rfl rfl rfl rfl rfl rfl rfl rfl rfl) ?_
  refine al_nil ?_
  refine nm ?_
  refine aw_seq ?_
  refine aw_seq ?_
  refine aw_region ?_
  refine st_p (mv rfl) rfl ?_
  -- STOP: call t26() -> 27
  refine st_o (op_callg [(0, 1)] 1 true [(0, rdrB b nQ bQ)] [1] (hC) Try.func100 ⟨rfl, rfl⟩ rfl rfl rfl rfl (by omega) (by intro p hp; simp only [List.mem_cons, List.not_mem_nil, or_false] at hp; rcases hp with rfl <;> exact ⟨by first | rfl | ((simp [hget, swp, Blk.ren, AV.ren, ints, Function.comp_def]) <;> rfl), rfl⟩) rfl (.cons (.same (by rfl)) .nil) rfl rfl rfl) rfl ?_
  refine st_p (mva rfl) rfl ?_
  refine al_nil ?_
  refine nm ?_
  refine aw_block ?_
  -- LOOP
  refine aw_virtB 0 2 4 rfl rfl rfl rfl ?_
  refine aw_cutB (⟨[(0, .sl 1 (bl b)), (2, .ptr 0 0 0), (3, .int .i64 0), (4, .bool false), (5, .ptr 1 0 0), (6, .fn (.func 100) [.ptr 1 0 0] []), (7, .fn (.func 101) [.ptr 1 0 0] [])], [(0, .cells 4 [.agg [.int .i64 vA, .int .i64 vQ, .own 2 0 R.1.length, .nils]]), (1, rdrB b R.2.1 R.2.2), (2, .cells 4 (R.1.map rdA))], 3⟩) ?_ ?_
  · skip
    refine aw_loop (fun p : {p : Nat × List RD × Nat × Bool // p.1 ≤ 9223372036854775807 ∧ p.2.2.1 ≤ b.length ∧ p.2.1.length ≤ p.2.2.1 + 1 ∧ (p.2.2.2 = false → p.2.1.length ≤ p.2.2.1) ∧ p.2.1 ++ (loopS (takeRdS b) p.1 p.2.2).1 = R.1 ∧ (loopS (takeRdS b) p.1 p.2.2).2 = R.2} => ⟨[(0, .sl 1 (bl b)), (2, .ptr 0 0 0), (3, .int .i64 0), (4, .bool false), (5, .ptr 1 0 0), (6, .fn (.func 100) [.ptr 1 0 0] []), (7, .fn (.func 101) [.ptr 1 0 0] []), (8, .int .i64 p.1.1)], [(0, .cells 4 [.agg [.int .i64 vA, .int .i64 vQ, .own 2 0 p.1.2.1.length, .nils]]), (1, rdrB b p.1.2.2.1 p.1.2.2.2), (2, .cells 4 (p.1.2.1.map rdA))], 3⟩) (fun p => p.1.1) ⟨(vC, [], sC), by dsimp only; exact ⟨mC, lC, Nat.zero_le _, fun _ => Nat.zero_le _, by rw [eR]; rfl, by rw [eR]⟩⟩ ?_ ?_
    · exact le_to [(2, 5)] rfl rfl rfl rfl rfl ⟨rfl, rfl, rfl, rfl, rfl, rfl, rfl, rfl, trivial⟩ ⟨rfl, rfl, rfl, trivial⟩
    · rintro ⟨⟨i, acc, n, bad⟩, h0, h1, h2, h3, h4, h5⟩
      dsimp only at h0 h1 h2 h3 h4 h5 ⊢
      have hal : (acc.map rdA).length = acc.length := List.length_map _
      unfold rdrB
      cases i with
      | zero =>
        have h4 : acc = R.1 := by simpa [loopS] using h4
        have h5 : (n, bad) = R.2 := h5
        refine aw_seq ?_
        refine aw_seq ?_
        refine aw_region ?_
        refine st_p (mv rfl) rfl ?_
        refine st_p (OpP.conv (op_gt rfl rfl) (no (by first | assumption | omega))) rfl ?_
        refine st_p (mv rfl) rfl ?_
        refine st_s rfl rfl rfl rfl rfl ?_
        refine st_s rfl rfl rfl rfl rfl ?_
        refine st_s rfl rfl rfl rfl rfl ?_
        refine st_s rfl rfl rfl rfl rfl ?_
        refine st_s rfl rfl rfl rfl rfl ?_
        refine st_p (pkF rfl rfl) rfl ?_
        refine al_nil ?_
        refine nm ?_
        -- IF t36
        refine aw_no (rfl) ?_
        refine aw_exit ?_
        refine xs ?_
        refine xs ?_
        refine xb ?_
        refine nm ?_
        exact le_to [] rfl rfl rfl rfl rfl ⟨rfl, rfl, rfl, rfl, rfl, rfl, rfl, trivial⟩ ⟨by rw [← h4]; rfl, by rw [← h5]; rfl, by rw [ren_rds, ← h4]; rfl, trivial⟩
      | succ i =>
        cases bad with
        | true =>
          rw [loopS_bad _ _ _ rfl] at h4 h5
          have h4 : acc = R.1 := by simpa using h4
          refine aw_seq ?_
          refine aw_seq ?_
          refine aw_region ?_
          refine st_p (mv rfl) rfl ?_
          refine st_p (OpP.conv (op_gt rfl rfl) (yes (by first | assumption | omega))) rfl ?_
          refine st_p (mv rfl) rfl ?_
          refine st_pg rfl rfl rfl (mv rfl) rfl ?_
          refine st_pg rfl rfl rfl (op_nilCheck rfl trivial) rfl ?_
          refine st_pg rfl rfl rfl (op_fieldAddr Try.underlying143 rfl z4 (by decide) rfl) rfl ?_
          refine st_pg rfl rfl rfl (op_load1 Try.underlying4 rfl rfl rfl rfl rfl) rfl ?_
          refine st_pg rfl rfl rfl (op_notT rfl) rfl ?_
          refine st_p (pkT rfl rfl) rfl ?_
          refine al_nil ?_
          refine nm ?_
          -- IF t36
          refine aw_no (rfl) ?_
          refine aw_exit ?_
          refine xs ?_
          refine xs ?_
          refine xb ?_
          refine nm ?_
          exact le_to [] rfl rfl rfl rfl rfl ⟨rfl, rfl, rfl, rfl, rfl, rfl, rfl, trivial⟩ ⟨by rw [← h4]; rfl, by rw [← h5]; rfl, by rw [ren_rds, ← h4]; rfl, trivial⟩
        | false =>
          have hst : ∀ s : Nat × Bool, takeRdS b s = (⟨(textS b s).1, (numS b (textS b s).2).1, (textS b (numS b (textS b s).2).2).1, decide (((numS b (textS b (numS b (textS b s).2).2).2).1 : Int) = 1)⟩, (numS b (textS b (numS b (textS b s).2).2).2).2) := fun _ => rfl
          simp only [loopS, Bool.false_eq_true, if_false] at h4 h5
          obtain ⟨g1, g2, g3⟩ := takeRdS_le b (n, false) h1
          rw [hst (n, false)] at h4 h5 g1 g2 g3
          have k1 := htext (n, false) h1
          obtain ⟨q1, _⟩ := textS_le b (n, false) h1
          have k2 := hnum _ q1
          obtain ⟨q2, _, q2m, _⟩ := numS_le b _ q1
          have k3 := htext _ q2
          obtain ⟨q3, _⟩ := textS_le b _ q2
          have k4 := hnum _ q3
          generalize textS b (n, false) = X1 at *
          generalize numS b X1.2 = X2 at *
          generalize textS b X2.2 = X3 at *
          generalize numS b X3.2 = X4 at *
          obtain ⟨y1, n1, b1⟩ := X1
          obtain ⟨y2, n2, b2⟩ := X2
          obtain ⟨y3, n3, b3⟩ := X3
          obtain ⟨y4, n4, b4⟩ := X4
          dsimp only at *
          unfold rdrB at k1 k2 k3 k4
          refine aw_seq ?_
          refine aw_seq ?_
          refine aw_region ?_
          refine st_p (mv rfl) rfl ?_
          refine st_p (OpP.conv (op_gt rfl rfl) (yes (by first | assumption | omega))) rfl ?_
          refine st_p (mv rfl) rfl ?_
          refine st_pg rfl rfl rfl (mv rfl) rfl ?_
          refine st_pg rfl rfl rfl (op_nilCheck rfl trivial) rfl ?_
          refine st_pg rfl rfl rfl (op_fieldAddr Try.underlying143 rfl z4 (by decide) rfl) rfl ?_
          refine st_pg rfl rfl rfl (op_load1 Try.underlying4 rfl rfl rfl rfl rfl) rfl ?_
          refine st_pg rfl rfl rfl (op_notF rfl) rfl ?_
          refine st_p (pkT rfl rfl) rfl ?_
          refine al_nil ?_
          refine nm ?_
          -- IF t36
          refine aw_yes (rfl) ?_
          refine aw_skip ?_
          refine nm ?_
          refine aw_seq ?_
          refine aw_block ?_
          refine aw_seq ?_
          refine aw_region ?_
          refine st_p (mv rfl) rfl ?_
          -- STOP: call t39() -> 40
          refine st_o (op_callg [(0, 1)] 1 true [(0, .cells 3 [.agg [.sl 1 (bl b), .int .i64 n, .bool false]])] [1] (k1) Try.func101 ⟨rfl, rfl⟩ rfl rfl rfl rfl (by omega) (by intro p hp; simp only [List.mem_cons, List.not_mem_nil, or_false] at hp; rcases hp with rfl | rfl <;> exact ⟨by first | rfl | ((simp [hget, swp, Blk.ren, AV.ren, ints, Function.comp_def]) <;> rfl), rfl⟩) rfl (.cons (.same (by rfl)) .nil) rfl rfl rfl) rfl ?_
          refine st_p (mv rfl) rfl ?_
          -- STOP: call t41() -> 42
          refine st_o (op_callg [(0, 1)] 1 true [(0, .cells 3 [.agg [.sl 1 (bl b), .int .i64 n1, .bool b1]])] [1] (k2) Try.func100 ⟨rfl, rfl⟩ rfl rfl rfl rfl (by omega) (by intro p hp; simp only [List.mem_cons, List.not_mem_nil, or_false] at hp; rcases hp with rfl | rfl <;> exact ⟨by first | rfl | ((simp [hget, swp, Blk.ren, AV.ren, ints, Function.comp_def]) <;> rfl), rfl⟩) rfl (.cons (.same (by rfl)) .nil) rfl rfl rfl) rfl ?_
          refine st_p (mv rfl) rfl ?_
          -- STOP: call t43() -> 44
          refine st_o (op_callg [(0, 1)] 1 true [(0, .cells 3 [.agg [.sl 1 (bl b), .int .i64 n2, .bool b2]])] [1] (k3) Try.func101 ⟨rfl, rfl⟩ rfl rfl rfl rfl (by omega) (by intro p hp; simp only [List.mem_cons, List.not_mem_nil, or_false] at hp; rcases hp with rfl | rfl <;> exact ⟨by first | rfl | ((simp [hget, swp, Blk.ren, AV.ren, ints, Function.comp_def]) <;> rfl), rfl⟩) rfl (.cons (.same (by rfl)) .nil) rfl rfl rfl) rfl ?_
          refine st_p (op_build Try.underlying46 a46 rfl rfl (by intro f hf; simp only [List.mem_cons, List.not_mem_nil, or_false] at hf; rcases hf with rfl | rfl | rfl | rfl <;> exact ⟨_, by first | exact z3 | exact z4 | exact z9⟩) (pcons rfl rfl z9 rfl (pcons rfl rfl z3 rfl (pcons rfl rfl z9 rfl .nil))) rfl) rfl ?_
          refine st_o (op_alloc a46 rfl rfl) rfl ?_
          refine st_n (stA z46 rfl rfl rfl rfl rfl rfl rfl rfl rfl rfl) ?_
          refine al_nil ?_
          refine nm ?_
          refine aw_seq ?_
          refine aw_region ?_
          refine st_p (mv rfl) rfl ?_
          -- STOP: call t46() -> 47
          refine st_o (op_callg [(0, 1)] 1 true [(0, .cells 3 [.agg [.sl 1 (bl b), .int .i64 n3, .bool b3]])] [1] (k4) Try.func100 ⟨rfl, rfl⟩ rfl rfl rfl rfl (by omega) (by intro p hp; simp only [List.mem_cons, List.not_mem_nil, or_false] at hp; rcases hp with rfl | rfl <;> exact ⟨by first | rfl | ((simp [hget, swp, Blk.ren, AV.ren, ints, Function.comp_def]) <;> rfl), rfl⟩) rfl (.cons (.same (by rfl)) .nil) rfl rfl rfl) rfl ?_
          refine st_p (op_eq rfl rfl) rfl ?_
          refine st_p (op_fieldAddr Try.underlying46 rfl z4 (by decide) rfl) rfl ?_
          refine st_n (stA z4 rfl rfl rfl rfl rfl rfl rfl rfl rfl rfl) ?_
          refine al_nil ?_
          refine nm ?_
          refine aw_region ?_
          refine st_p (op_fieldAddr Try.underlying26 rfl z23 (by decide) rfl) rfl ?_
          refine st_p (op_load1 Try.underlying23 rfl rfl rfl rfl rfl) rfl ?_
          refine st_p (op_loadA Try.underlying46 rfl z46 rfl rfl rfl rfl) rfl ?_
          refine st_o (bsl Try.underlying23 i46 o46 (by decide) rfl rfl rfl (by decide)) rfl ?_
          refine st_o (op_app Try.underlying23 Try.underlying23 (.inl ⟨_, rfl⟩) i46 o46 rfl rfl rfl (by first | rfl | omega | (simp; done) | (simp; omega)) ((SrcA.whole rfl (by first | rfl | simp)).ok rfl (by intro z hz; simp only [List.mem_singleton, List.drop_zero, List.take_succ_cons, List.take_zero, List.mem_cons, List.not_mem_nil, or_false, List.mem_map] at hz; first | (subst hz; rfl) | (obtain ⟨_, _, rfl⟩ := hz; rfl) | (rcases hz with rfl | rfl <;> rfl))) (by simp; try omega) rfl) rfl ?_
          refine st_p (op_fieldAddr Try.underlying26 rfl z23 (by decide) rfl) rfl ?_
          refine st_n (stA z23 rfl rfl rfl rfl rfl rfl rfl rfl rfl rfl) ?_
          refine al_nil ?_
          refine nmb ?_
          refine nm ?_
          refine aw_region ?_
          refine st_p (mv rfl) rfl ?_
          refine st_p (op_subi rfl rfl (by omega)) rfl ?_
          refine st_p (mva rfl) rfl ?_
          refine al_nil ?_
          refine nm ?_
          have hl : (acc ++ [(⟨y1, y2, y3, decide ((y4 : Int) = 1)⟩ : RD)]).length = acc.length + 1 := by simp
          have h3 := h3 rfl
          refine ⟨⟨(i, acc ++ [⟨y1, y2, y3, decide ((y4 : Int) = 1)⟩], n4, b4), by dsimp only; exact ⟨by omega, g1, by omega, fun e => by have := g3 e; omega, by rw [List.append_assoc]; exact h4, h5⟩⟩, by dsimp only; omega, le_to [(2, 9)] rfl rfl rfl rfl rfl ⟨rfl, rfl, rfl, rfl, rfl, rfl, rfl, ?_, trivial⟩ ⟨?_, rfl, ?_, trivial⟩⟩
          · show AV.int .i64 (((i + 1 : Nat) : Int) - 1) = AV.int .i64 (i : Int)
            congr 1
            omega
          · simp [Blk.ren, hget, swp, AV.ren, rens]
          · simp [Blk.ren, hget, swp, AV.ren, rens, sb, rdA]
  · obtain ⟨rl, sR⟩ := R
    obtain ⟨vD, sD⟩ := D
    dsimp only at *
    have hrl : (rl.map rdA).length = rl.length := List.length_map _
    unfold rdrB at hD
    unfold rdrB
    refine aw_seq ?_
    refine aw_seq ?_
    refine aw_region ?_
    refine st_p (mv rfl) rfl ?_
    -- STOP: call t56() -> 57
    refine st_o (op_callg [(0, 1)] 1 true [(0, .cells 3 [.agg [.sl 1 (bl b), .int .i64 sR.1, .bool sR.2]])] [1] (hD) Try.func100 ⟨rfl, rfl⟩ rfl rfl rfl rfl (by omega) (by intro p hp; simp only [List.mem_cons, List.not_mem_nil, or_false] at hp; rcases hp with rfl | rfl <;> exact ⟨by first | rfl | ((simp [hget, swp, Blk.ren, AV.ren, ints, Function.comp_def]) <;> rfl), rfl⟩) rfl (.cons (.same (by rfl)) .nil) rfl rfl rfl) rfl ?_
    refine st_p (mva rfl) rfl ?_
    refine al_nil ?_
    refine nm ?_
    refine aw_block ?_
    -- LOOP
    refine aw_virtB 0 3 3 rfl rfl rfl rfl ?_
    refine aw_cutB (⟨[(0, .sl 1 (bl b)), (2, .ptr 0 0 0), (3, .int .i64 0), (4, .bool false), (5, .ptr 1 0 0), (6, .fn (.func 100) [.ptr 1 0 0] []), (7, .fn (.func 101) [.ptr 1 0 0] [])], [(0, .cells 4 [.agg [.int .i64 vA, .int .i64 vQ, .own 2 0 rl.length, .own 3 0 W.1.length]]), (1, .cells 3 [.agg [.sl 1 (bl b), .int .i64 W.2.1, .bool W.2.2]]), (2, .cells 4 (rl.map rdA)), (3, .cells 3 (W.1.map wrA))], 4⟩) ?_ ?_
    · skip
      refine aw_loop (fun p : {p : Nat × List WR × Nat × Bool // p.1 ≤ 9223372036854775807 ∧ p.2.2.1 ≤ b.length ∧ p.2.1.length ≤ p.2.2.1 + 1 ∧ (p.2.2.2 = false → p.2.1.length ≤ p.2.2.1) ∧ p.2.1 ++ (loopS (takeWrS b) p.1 p.2.2).1 = W.1 ∧ (loopS (takeWrS b) p.1 p.2.2).2 = W.2} => ⟨[(0, .sl 1 (bl b)), (2, .ptr 0 0 0), (3, .int .i64 0), (4, .bool false), (5, .ptr 1 0 0), (6, .fn (.func 100) [.ptr 1 0 0] []), (7, .fn (.func 101) [.ptr 1 0 0] []), (10, .int .i64 p.1.1)], [(0, .cells 4 [.agg [.int .i64 vA, .int .i64 vQ, .own 2 0 rl.length, .own 3 0 p.1.2.1.length]]), (1, .cells 3 [.agg [.sl 1 (bl b), .int .i64 p.1.2.2.1, .bool p.1.2.2.2]]), (2, .cells 4 (rl.map rdA)), (3, .cells 3 (p.1.2.1.map wrA))], 4⟩) (fun p => p.1.1) ⟨(vD, [], sD), by dsimp only; exact ⟨mD, lD, Nat.zero_le _, fun _ => Nat.zero_le _, by rw [eW]; rfl, by rw [eW]⟩⟩ ?_ ?_
      · exact le_to [(3, 4)] rfl rfl rfl rfl rfl ⟨rfl, rfl, rfl, rfl, rfl, rfl, rfl, rfl, trivial⟩ ⟨rfl, rfl, by rw [ren_rds]; rfl, rfl, trivial⟩
      · rintro ⟨⟨i, acc, n, bad⟩, h0, h1, h2, h3, h4, h5⟩
        dsimp only at h0 h1 h2 h3 h4 h5 ⊢
        have hal : (acc.map wrA).length = acc.length := List.length_map _
        cases i with
        | zero =>
          have h4 : acc = W.1 := by simpa [loopS] using h4
          have h5 : (n, bad) = W.2 := h5
          refine aw_seq ?_
          refine aw_seq ?_
          refine aw_region ?_
          refine st_p (mv rfl) rfl ?_
          refine st_p (OpP.conv (op_gt rfl rfl) (no (by first | assumption | omega))) rfl ?_
          refine st_p (mv rfl) rfl ?_
          refine st_s rfl rfl rfl rfl rfl ?_
          refine st_s rfl rfl rfl rfl rfl ?_
          refine st_s rfl rfl rfl rfl rfl ?_
          refine st_s rfl rfl rfl rfl rfl ?_
          refine st_s rfl rfl rfl rfl rfl ?_
          refine st_p (pkF rfl rfl) rfl ?_
          refine al_nil ?_
          refine nm ?_
          -- IF t66
          refine aw_no (rfl) ?_
          refine aw_exit ?_
          refine xs ?_
          refine xs ?_
          refine xb ?_
          refine nm ?_
          exact le_to [] rfl rfl rfl rfl rfl ⟨rfl, rfl, rfl, rfl, rfl, rfl, rfl, trivial⟩ ⟨by rw [← h4]; rfl, by rw [← h5]; rfl, by rw [ren_rds]; rfl, by rw [ren_wrs, ← h4]; rfl, trivial⟩
        | succ i =>
          cases bad with
          | true =>
            rw [loopS_bad _ _ _ rfl] at h4 h5
            have h4 : acc = W.1 := by simpa using h4
            refine aw_seq ?_
            refine aw_seq ?_
            refine aw_region ?_
            refine st_p (mv rfl) rfl ?_
            refine st_p (OpP.conv (op_gt rfl rfl) (yes (by first | assumption | omega))) rfl ?_
            refine st_p (mv rfl) rfl ?_
            refine st_pg rfl rfl rfl (mv rfl) rfl ?_
            refine st_pg rfl rfl rfl (op_nilCheck rfl trivial) rfl ?_
            refine st_pg rfl rfl rfl (op_fieldAddr Try.underlying143 rfl z4 (by decide) rfl) rfl ?_
            refine st_pg rfl rfl rfl (op_load1 Try.underlying4 rfl rfl rfl rfl rfl) rfl ?_
            refine st_pg rfl rfl rfl (op_notT rfl) rfl ?_
            refine st_p (pkT rfl rfl) rfl ?_
            refine al_nil ?_
            refine nm ?_
            -- IF t66
            refine aw_no (rfl) ?_
            refine aw_exit ?_
            refine xs ?_
            refine xs ?_
            refine xb ?_
            refine nm ?_
            exact le_to [] rfl rfl rfl rfl rfl ⟨rfl, rfl, rfl, rfl, rfl, rfl, rfl, trivial⟩ ⟨by rw [← h4]; rfl, by rw [← h5]; rfl, by rw [ren_rds]; rfl, by rw [ren_wrs, ← h4]; rfl, trivial⟩
          | false =>
            have hst : ∀ s : Nat × Bool, takeWrS b s = (⟨(textS b s).1, (textS b (textS b s).2).1, decide (((numS b (textS b (textS b s).2).2).1 : Int) = 1)⟩, (numS b (textS b (textS b s).2).2).2) := fun _ => rfl
            simp only [loopS, Bool.false_eq_true, if_false] at h4 h5
            obtain ⟨g1, g2, g3⟩ := takeWrS_le b (n, false) h1
            rw [hst (n, false)] at h4 h5 g1 g2 g3
            have k1 := htext (n, false) h1
            obtain ⟨q1, _⟩ := textS_le b (n, false) h1
            have k2 := htext _ q1
            obtain ⟨q2, _⟩ := textS_le b _ q1
            have k3 := hnum _ q2
            obtain ⟨q3, _, q3m, _⟩ := numS_le b _ q2
            generalize textS b (n, false) = X1 at *
            generalize textS b X1.2 = X2 at *
            generalize numS b X2.2 = X3 at *
            obtain ⟨y1, n1, b1⟩ := X1
            obtain ⟨y2, n2, b2⟩ := X2
            obtain ⟨y3, n3, b3⟩ := X3
            dsimp only at *
            unfold rdrB at k1 k2 k3
            refine aw_seq ?_
            refine aw_seq ?_
            refine aw_region ?_
            refine st_p (mv rfl) rfl ?_
            refine st_p (OpP.conv (op_gt rfl rfl) (yes (by first | assumption | omega))) rfl ?_
            refine st_p (mv rfl) rfl ?_
            refine st_pg rfl rfl rfl (mv rfl) rfl ?_
            refine st_pg rfl rfl rfl (op_nilCheck rfl trivial) rfl ?_
            refine st_pg rfl rfl rfl (op_fieldAddr Try.underlying143 rfl z4 (by decide) rfl) rfl ?_
            refine st_pg rfl rfl rfl (op_load1 Try.underlying4 rfl rfl rfl rfl rfl) rfl ?_
            refine st_pg rfl rfl rfl (op_notF rfl) rfl ?_
            refine st_p (pkT rfl rfl) rfl ?_
            refine al_nil ?_
            refine nm ?_
            -- IF t66
            refine aw_yes (rfl) ?_
            refine aw_skip ?_
            refine nm ?_
            refine aw_seq ?_
            refine aw_block ?_
            refine aw_seq ?_
            refine aw_region ?_
            refine st_p (mv rfl) rfl ?_
            -- STOP: call t69() -> 70
            refine st_o (op_callg [(0, 1)] 1 true [(0, .cells 3 [.agg [.sl 1 (bl b), .int .i64 n, .bool false]])] [1] (k1) Try.func101 ⟨rfl, rfl⟩ rfl rfl rfl rfl (by omega) (by intro p hp; simp only [List.mem_cons, List.not_mem_nil, or_false] at hp; rcases hp with rfl | rfl <;> exact ⟨by first | rfl | ((simp [hget, swp, Blk.ren, AV.ren, ints, Function.comp_def]) <;> rfl), rfl⟩) rfl (.cons (.same (by rfl)) .nil) rfl rfl rfl) rfl ?_
            refine st_p (mv rfl) rfl ?_
            -- STOP: call t71() -> 72
            refine st_o (op_callg [(0, 1)] 1 true [(0, .cells 3 [.agg [.sl 1 (bl b), .int .i64 n1, .bool b1]])] [1] (k2) Try.func101 ⟨rfl, rfl⟩ rfl rfl rfl rfl (by omega) (by intro p hp; simp only [List.mem_cons, List.not_mem_nil, or_false] at hp; rcases hp with rfl | rfl <;> exact ⟨by first | rfl | ((simp [hget, swp, Blk.ren, AV.ren, ints, Function.comp_def]) <;> rfl), rfl⟩) rfl (.cons (.same (by rfl)) .nil) rfl rfl rfl) rfl ?_
            refine st_p (op_build Try.underlying48 a48 rfl rfl (by intro f hf; simp only [List.mem_cons, List.not_mem_nil, or_false] at hf; rcases hf with rfl | rfl | rfl <;> exact ⟨_, by first | exact z4 | exact z9⟩) (pcons rfl rfl z9 rfl (pcons rfl rfl z9 rfl .nil)) rfl) rfl ?_
            refine st_o (op_alloc a48 rfl rfl) rfl ?_
            refine st_n (stA z48 rfl rfl rfl rfl rfl rfl rfl rfl rfl rfl) ?_
            refine al_nil ?_
            refine nm ?_
            refine aw_seq ?_
            refine aw_region ?_
            refine st_p (mv rfl) rfl ?_
            -- STOP: call t74() -> 75
            refine st_o (op_callg [(0, 1)] 1 true [(0, .cells 3 [.agg [.sl 1 (bl b), .int .i64 n2, .bool b2]])] [1] (k3) Try.func100 ⟨rfl, rfl⟩ rfl rfl rfl rfl (by omega) (by intro p hp; simp only [List.mem_cons, List.not_mem_nil, or_false] at hp; rcases hp with rfl | rfl <;> exact ⟨by first | rfl | ((simp [hget, swp, Blk.ren, AV.ren, ints, Function.comp_def]) <;> rfl), rfl⟩) rfl (.cons (.same (by rfl)) .nil) rfl rfl rfl) rfl ?_
            refine st_p (op_eq rfl rfl) rfl ?_
            refine st_p (op_fieldAddr Try.underlying48 rfl z4 (by decide) rfl) rfl ?_
            refine st_n (stA z4 rfl rfl rfl rfl rfl rfl rfl rfl rfl rfl) ?_
            refine al_nil ?_
            refine nm ?_
            refine aw_region ?_
            refine st_p (op_fieldAddr Try.underlying26 rfl z24 (by decide) rfl) rfl ?_
            refine st_p (op_load1 Try.underlying24 rfl rfl rfl rfl rfl) rfl ?_
            refine st_p (op_loadA Try.underlying48 rfl z48 rfl rfl rfl rfl) rfl ?_
            refine st_o (bsl Try.underlying24 i48 o48 (by decide) rfl rfl rfl (by decide)) rfl ?_
            refine st_o (op_app Try.underlying24 Try.underlying24 (.inl ⟨_, rfl⟩) i48 o48 rfl rfl rfl (by first | rfl | omega | (simp; done) | (simp; omega)) ((SrcA.whole rfl (by first | rfl | simp)).ok rfl (by intro z hz; simp only [List.mem_singleton, List.drop_zero, List.take_succ_cons, List.take_zero, List.mem_cons, List.not_mem_nil, or_false, List.mem_map] at hz; first | (subst hz; rfl) | (obtain ⟨_, _, rfl⟩ := hz; rfl) | (rcases hz with rfl | rfl <;> rfl))) (by simp; try omega) rfl) rfl ?_
            refine st_p (op_fieldAddr Try.underlying26 rfl z24 (by decide) rfl) rfl ?_
            refine st_n (stA z24 rfl rfl rfl rfl rfl rfl rfl rfl rfl rfl) ?_
            refine al_nil ?_
            refine nmb ?_
            refine nm ?_
            refine aw_region ?_
            refine st_p (mv rfl) rfl ?_
            refine st_p (op_subi rfl rfl (by omega)) rfl ?_
            refine st_p (mva rfl) rfl ?_
            refine al_nil ?_
            refine nm ?_
            have hl : (acc ++ [(⟨y1, y2, decide ((y3 : Int) = 1)⟩ : WR)]).length = acc.length + 1 := by simp
            have h3 := h3 rfl
            refine ⟨⟨(i, acc ++ [⟨y1, y2, decide ((y3 : Int) = 1)⟩], n3, b3), by dsimp only; exact ⟨by omega, g1, by omega, fun e => by have := g3 e; omega, by rw [List.append_assoc]; exact h4, h5⟩⟩, by dsimp only; omega, le_to [(3, 9)] rfl rfl rfl rfl rfl ⟨rfl, rfl, rfl, rfl, rfl, rfl, rfl, ?_, trivial⟩ ⟨?_, rfl, ?_, ?_, trivial⟩⟩
            · show AV.int .i64 (((i + 1 : Nat) : Int) - 1) = AV.int .i64 (i : Int)
              congr 1
              omega
            · simp [Blk.ren, hget, swp, AV.ren, rens]
            · rw [ren_rds]; rfl
            · simp [Blk.ren, hget, swp, AV.ren, rens, sb, wrA]
    · obtain ⟨wl, nZ, bW⟩ := W
      dsimp only at *
      have hwl : (wl.map wrA).length = wl.length := List.length_map _
      have hput := txn_Put ⟨(vA : Nat), (vQ : Nat), rl, wl⟩
      have hno := txn_Put_no ⟨(vA : Nat), (vQ : Nat), rl, wl⟩
      have hpre := bytes_HasPrefix b (putTx ⟨(vA : Nat), (vQ : Nat), rl, wl⟩)
      have hpos := putTx_pos2 ⟨(vA : Nat), (vQ : Nat), rl, wl⟩
      have hbp : (bl (putTx ⟨(vA : Nat), (vQ : Nat), rl, wl⟩)).length = (putTx ⟨(vA : Nat), (vQ : Nat), rl, wl⟩).length := bl_len _
      have hbne : bl (putTx ⟨(vA : Nat), (vQ : Nat), rl, wl⟩) ≠ [] := fun e => by rw [e] at hbp; simp at hbp; omega
      have hno := fun h => hno h (by dsimp only; omega) (by dsimp only; omega) (fun r hr => by have := (vR r hr).2; omega) (fun r hr => by have := kW r hr; omega)
      have hput := fun h => hput h (fun r hr => (vR r hr).1)
      generalize putTx ⟨(vA : Nat), (vQ : Nat), rl, wl⟩ = X at *
      generalize mayTxB ⟨(vA : Nat), (vQ : Nat), rl, wl⟩ = m at *
      generalize preB b X = pb at *
      dsimp only [txA] at hput hno
      cases bW with
      | true =>
        have hO : ok = false := by rw [hO]; rfl
        subst hO
        cases m with
        | true =>
          have hput := hput rfl
          refine aw_seq ?_
          refine aw_seq ?_
          refine aw_region ?_
          refine st_p (op_loadA Try.underlying26 rfl z26 rfl rfl rfl rfl) rfl ?_
          -- STOP: call diwan/txn.Put(t84) -> 85
          refine st_o ((op_callq (hput) Try.func25 ⟨rfl, rfl⟩ rfl rfl (fun nx => (.cons (.of_list (.cons (.same (by rfl)) (.cons (.same (by rfl)) (.cons (.whole rfl rfl rfl (by first | rfl | simp) (by first | rfl | simp [Function.comp_def, AV.ren, rens, sb, rdA, wrA]) (by first | rfl | simp [AV.plain, plains, bl_plain, sb, AV.ren, rdA, wrA])) (.cons (.whole rfl rfl rfl (by first | rfl | simp) (by first | rfl | simp [Function.comp_def, AV.ren, rens, sb, rdA, wrA]) (by first | rfl | simp [AV.plain, plains, bl_plain, sb, AV.ren, rdA, wrA])) .nil))))) .nil)) (by rintro _ _ _ ⟨rfl, rfl, rfl⟩; exact .whole rfl (by simp) (by first | rfl | simp [AV.plain, plains, bl_plain]))).ok) rfl ?_
          refine st_p (mva rfl) rfl ?_
          refine al_nil ?_
          refine nm ?_
          refine aw_seq ?_
          refine aw_region ?_
          refine st_p (mv rfl) rfl ?_
          refine st_p (op_nilCheck rfl trivial) rfl ?_
          refine st_p (op_fieldAddr Try.underlying143 rfl z4 (by decide) rfl) rfl ?_
          refine st_p (op_load1 Try.underlying4 rfl rfl rfl rfl rfl) rfl ?_
          refine st_p (mv rfl) rfl ?_
          refine st_s rfl rfl rfl rfl rfl ?_
          refine st_s rfl rfl rfl rfl rfl ?_
          refine st_p (pkT rfl rfl) rfl ?_
          refine st_p (mv rfl) rfl ?_
          refine st_s rfl rfl rfl rfl rfl ?_
          refine st_s rfl rfl rfl rfl rfl ?_
          -- STOP: call bytes.HasPrefix(t95, t96) -> 97
          refine st_s rfl rfl rfl rfl rfl ?_
          refine st_s rfl rfl rfl rfl rfl ?_
          refine st_p (pkT rfl rfl) rfl ?_
          refine st_p (mv rfl) rfl ?_
          refine st_s rfl rfl rfl rfl rfl ?_
          refine st_s rfl rfl rfl rfl rfl ?_
          refine st_s rfl rfl rfl rfl rfl ?_
          refine st_s rfl rfl rfl rfl rfl ?_
          refine st_s rfl rfl rfl rfl rfl ?_
          refine st_s rfl rfl rfl rfl rfl ?_
          refine st_s rfl rfl rfl rfl rfl ?_
          refine st_p (pkT rfl rfl) rfl ?_
          refine al_nil ?_
          refine nm ?_
          -- IF t108
          refine aw_yes (rfl) ?_
          refine aw_seq ?_
          refine aw_region ?_
          refine st_p (op_build Try.underlying26 a26 rfl rfl (by intro f hf; simp only [List.mem_cons, List.not_mem_nil, or_false] at hf; rcases hf with rfl | rfl | rfl | rfl <;> exact ⟨_, by first | exact z3 | exact z23 | exact z24⟩) .nil rfl) rfl ?_
          refine st_n (stA z26 rfl rfl rfl rfl rfl rfl rfl rfl rfl rfl) ?_
          refine st_p (mva rfl) rfl ?_
          refine st_p (mva rfl) rfl ?_
          refine al_nil ?_
          refine nm ?_
          refine aw_ret ?_
          refine rs ?_
          exact ret_a ⟨[(2, .ptr 0 0 0), (3, .int .i64 0), (4, .bool false)], [(0, .cells 4 [.agg [.int .i64 0, .int .i64 0, .nils, .nils]])], 1⟩ (le_to [] rfl rfl rfl rfl rfl ⟨rfl, rfl, rfl, trivial⟩ ⟨rfl, trivial⟩) (resS_ok (by rfl)) (.inr ⟨rfl, rfl⟩) ⟨rfl, rfl, rfl⟩
        | false =>
          have hno := hno rfl
          refine aw_seq ?_
          refine aw_seq ?_
          refine aw_region ?_
          refine st_p (op_loadA Try.underlying26 rfl z26 rfl rfl rfl rfl) rfl ?_
          -- STOP: call diwan/txn.Put(t84) -> 85
          refine st_o ((op_callq (hno) Try.func25 ⟨rfl, rfl⟩ rfl rfl (fun nx => (.cons (.of_list (.cons (.same (by rfl)) (.cons (.same (by rfl)) (.cons (.whole rfl rfl rfl (by first | rfl | simp) (by first | rfl | simp [Function.comp_def, AV.ren, rens, sb, rdA, wrA]) (by first | rfl | simp [AV.plain, plains, bl_plain, sb, AV.ren, rdA, wrA])) (.cons (.whole rfl rfl rfl (by first | rfl | simp) (by first | rfl | simp [Function.comp_def, AV.ren, rens, sb, rdA, wrA]) (by first | rfl | simp [AV.plain, plains, bl_plain, sb, AV.ren, rdA, wrA])) .nil))))) .nil)) (by rintro _ _ _ ⟨rfl, rfl, rfl⟩; exact .same rfl)).ok) rfl ?_
          refine st_p (mva rfl) rfl ?_
          refine al_nil ?_
          refine nm ?_
          refine aw_seq ?_
          refine aw_region ?_
          refine st_p (mv rfl) rfl ?_
          refine st_p (op_nilCheck rfl trivial) rfl ?_
          refine st_p (op_fieldAddr Try.underlying143 rfl z4 (by decide) rfl) rfl ?_
          refine st_p (op_load1 Try.underlying4 rfl rfl rfl rfl rfl) rfl ?_
          refine st_p (mv rfl) rfl ?_
          refine st_s rfl rfl rfl rfl rfl ?_
          refine st_s rfl rfl rfl rfl rfl ?_
          refine st_p (pkT rfl rfl) rfl ?_
          refine st_p (mv rfl) rfl ?_
          refine st_s rfl rfl rfl rfl rfl ?_
          refine st_s rfl rfl rfl rfl rfl ?_
          -- STOP: call bytes.HasPrefix(t95, t96) -> 97
          refine st_s rfl rfl rfl rfl rfl ?_
          refine st_s rfl rfl rfl rfl rfl ?_
          refine st_p (pkT rfl rfl) rfl ?_
          refine st_p (mv rfl) rfl ?_
          refine st_s rfl rfl rfl rfl rfl ?_
          refine st_s rfl rfl rfl rfl rfl ?_
          refine st_s rfl rfl rfl rfl rfl ?_
          refine st_s rfl rfl rfl rfl rfl ?_
          refine st_s rfl rfl rfl rfl rfl ?_
          refine st_s rfl rfl rfl rfl rfl ?_
          refine st_s rfl rfl rfl rfl rfl ?_
          refine st_p (pkT rfl rfl) rfl ?_
          refine al_nil ?_
          refine nm ?_
          -- IF t108
          refine aw_yes (rfl) ?_
          refine aw_seq ?_
          refine aw_region ?_
          refine st_p (op_build Try.underlying26 a26 rfl rfl (by intro f hf; simp only [List.mem_cons, List.not_mem_nil, or_false] at hf; rcases hf with rfl | rfl | rfl | rfl <;> exact ⟨_, by first | exact z3 | exact z23 | exact z24⟩) .nil rfl) rfl ?_
          refine st_n (stA z26 rfl rfl rfl rfl rfl rfl rfl rfl rfl rfl) ?_
          refine st_p (mva rfl) rfl ?_
          refine st_p (mva rfl) rfl ?_
          refine al_nil ?_
          refine nm ?_
          refine aw_ret ?_
          refine rs ?_
          exact ret_a ⟨[(2, .ptr 0 0 0), (3, .int .i64 0), (4, .bool false)], [(0, .cells 4 [.agg [.int .i64 0, .int .i64 0, .nils, .nils]])], 1⟩ (le_to [] rfl rfl rfl rfl rfl ⟨rfl, rfl, rfl, trivial⟩ ⟨rfl, trivial⟩) (resS_ok (by rfl)) (.inr ⟨rfl, rfl⟩) ⟨rfl, rfl, rfl⟩
      | false =>
        cases m with
        | false =>
          have hO : ok = false := by rw [hO]; rfl
          subst hO
          have hno := hno rfl
          refine aw_seq ?_
          refine aw_seq ?_
          refine aw_region ?_
          refine st_p (op_loadA Try.underlying26 rfl z26 rfl rfl rfl rfl) rfl ?_
          -- STOP: call diwan/txn.Put(t84) -> 85
          refine st_o ((op_callq (hno) Try.func25 ⟨rfl, rfl⟩ rfl rfl (fun nx => (.cons (.of_list (.cons (.same (by rfl)) (.cons (.same (by rfl)) (.cons (.whole rfl rfl rfl (by first | rfl | simp) (by first | rfl | simp [Function.comp_def, AV.ren, rens, sb, rdA, wrA]) (by first | rfl | simp [AV.plain, plains, bl_plain, sb, AV.ren, rdA, wrA])) (.cons (.whole rfl rfl rfl (by first | rfl | simp) (by first | rfl | simp [Function.comp_def, AV.ren, rens, sb, rdA, wrA]) (by first | rfl | simp [AV.plain, plains, bl_plain, sb, AV.ren, rdA, wrA])) .nil))))) .nil)) (by rintro _ _ _ ⟨rfl, rfl, rfl⟩; exact .same rfl)).ok) rfl ?_
          refine st_p (mva rfl) rfl ?_
          refine al_nil ?_
          refine nm ?_
          refine aw_seq ?_
          refine aw_region ?_
          refine st_p (mv rfl) rfl ?_
          refine st_p (op_nilCheck rfl trivial) rfl ?_
          refine st_p (op_fieldAddr Try.underlying143 rfl z4 (by decide) rfl) rfl ?_
          refine st_p (op_load1 Try.underlying4 rfl rfl rfl rfl rfl) rfl ?_
          refine st_p (mv rfl) rfl ?_
          refine st_pg rfl rfl rfl (mv rfl) rfl ?_
          refine st_pg rfl rfl rfl (op_eqn (b := true) Try.underlying22 rfl rfl) rfl ?_
          refine st_p (pkF rfl rfl) rfl ?_
          refine st_p (mv rfl) rfl ?_
          refine st_s rfl rfl rfl rfl rfl ?_
          refine st_s rfl rfl rfl rfl rfl ?_
          -- STOP: call bytes.HasPrefix(t95, t96) -> 97
          refine st_s rfl rfl rfl rfl rfl ?_
          refine st_s rfl rfl rfl rfl rfl ?_
          refine st_p (pkT rfl rfl) rfl ?_
          refine st_p (mv rfl) rfl ?_
          refine st_s rfl rfl rfl rfl rfl ?_
          refine st_s rfl rfl rfl rfl rfl ?_
          refine st_s rfl rfl rfl rfl rfl ?_
          refine st_s rfl rfl rfl rfl rfl ?_
          refine st_s rfl rfl rfl rfl rfl ?_
          refine st_s rfl rfl rfl rfl rfl ?_
          refine st_s rfl rfl rfl rfl rfl ?_
          refine st_p (pkT rfl rfl) rfl ?_
          refine al_nil ?_
          refine nm ?_
          -- IF t108
          refine aw_yes (rfl) ?_
          refine aw_seq ?_
          refine aw_region ?_
          refine st_p (op_build Try.underlying26 a26 rfl rfl (by intro f hf; simp only [List.mem_cons, List.not_mem_nil, or_false] at hf; rcases hf with rfl | rfl | rfl | rfl <;> exact ⟨_, by first | exact z3 | exact z23 | exact z24⟩) .nil rfl) rfl ?_
          refine st_n (stA z26 rfl rfl rfl rfl rfl rfl rfl rfl rfl rfl) ?_
          refine st_p (mva rfl) rfl ?_
          refine st_p (mva rfl) rfl ?_
          refine al_nil ?_
          refine nm ?_
          refine aw_ret ?_
          refine rs ?_
          exact ret_a ⟨[(2, .ptr 0 0 0), (3, .int .i64 0), (4, .bool false)], [(0, .cells 4 [.agg [.int .i64 0, .int .i64 0, .nils, .nils]])], 1⟩ (le_to [] rfl rfl rfl rfl rfl ⟨rfl, rfl, rfl, trivial⟩ ⟨rfl, trivial⟩) (resS_ok (by rfl)) (.inr ⟨rfl, rfl⟩) ⟨rfl, rfl, rfl⟩
        | true =>
          have hput := hput rfl
          cases pb with
          | false =>
            have hO : ok = false := by rw [hO]; rfl
            subst hO
            refine aw_seq ?_
            refine aw_seq ?_
            refine aw_region ?_
            refine st_p (op_loadA Try.underlying26 rfl z26 rfl rfl rfl rfl) rfl ?_
            -- STOP: call diwan/txn.Put(t84) -> 85
            refine st_o ((op_callq (hput) Try.func25 ⟨rfl, rfl⟩ rfl rfl (fun nx => (.cons (.of_list (.cons (.same (by rfl)) (.cons (.same (by rfl)) (.cons (.whole rfl rfl rfl (by first | rfl | simp) (by first | rfl | simp [Function.comp_def, AV.ren, rens, sb, rdA, wrA]) (by first | rfl | simp [AV.plain, plains, bl_plain, sb, AV.ren, rdA, wrA])) (.cons (.whole rfl rfl rfl (by first | rfl | simp) (by first | rfl | simp [Function.comp_def, AV.ren, rens, sb, rdA, wrA]) (by first | rfl | simp [AV.plain, plains, bl_plain, sb, AV.ren, rdA, wrA])) .nil))))) .nil)) (by rintro _ _ _ ⟨rfl, rfl, rfl⟩; exact .whole rfl (by simp) (by first | rfl | simp [AV.plain, plains, bl_plain]))).ok) rfl ?_
            refine st_p (mva rfl) rfl ?_
            refine al_nil ?_
            refine nm ?_
            refine aw_seq ?_
            refine aw_region ?_
            refine st_p (mv rfl) rfl ?_
            refine st_p (op_nilCheck rfl trivial) rfl ?_
            refine st_p (op_fieldAddr Try.underlying143 rfl z4 (by decide) rfl) rfl ?_
            refine st_p (op_load1 Try.underlying4 rfl rfl rfl rfl rfl) rfl ?_
            refine st_p (mv rfl) rfl ?_
            refine st_pg rfl rfl rfl (mv rfl) rfl ?_
            refine st_pg rfl rfl rfl (op_eqn (b := false) Try.underlying22 rfl ⟨by first | assumption | omega | simp, rfl⟩) rfl ?_
            refine st_p (pkF rfl rfl) rfl ?_
            refine st_p (mv rfl) rfl ?_
            refine st_pg rfl rfl rfl (mv rfl) rfl ?_
            refine st_pg rfl rfl rfl (mv rfl) rfl ?_
            -- STOP: call bytes.HasPrefix(t95, t96) -> 97
            refine st_og rfl rfl rfl ((op_callq (hpre) Try.func102 ⟨rfl, rfl⟩ rfl rfl (fun nx => (.cons (.same (by rfl)) (.cons (.same (by rfl)) .nil))) (by rintro _ _ _ ⟨rfl, rfl, rfl⟩; exact .same rfl)).ok) rfl ?_
            refine st_pg rfl rfl rfl (op_notF rfl) rfl ?_
            refine st_p (pkF rfl rfl) rfl ?_
            refine st_p (mv rfl) rfl ?_
            refine st_s rfl rfl rfl rfl rfl ?_
            refine st_s rfl rfl rfl rfl rfl ?_
            refine st_s rfl rfl rfl rfl rfl ?_
            refine st_s rfl rfl rfl rfl rfl ?_
            refine st_s rfl rfl rfl rfl rfl ?_
            refine st_s rfl rfl rfl rfl rfl ?_
            refine st_s rfl rfl rfl rfl rfl ?_
            refine st_p (pkT rfl rfl) rfl ?_
            refine al_nil ?_
            refine nm ?_
            -- IF t108
            refine aw_yes (rfl) ?_
            refine aw_seq ?_
            refine aw_region ?_
            refine st_p (op_build Try.underlying26 a26 rfl rfl (by intro f hf; simp only [List.mem_cons, List.not_mem_nil, or_false] at hf; rcases hf with rfl | rfl | rfl | rfl <;> exact ⟨_, by first | exact z3 | exact z23 | exact z24⟩) .nil rfl) rfl ?_
            refine st_n (stA z26 rfl rfl rfl rfl rfl rfl rfl rfl rfl rfl) ?_
            refine st_p (mva rfl) rfl ?_
            refine st_p (mva rfl) rfl ?_
            refine al_nil ?_
            refine nm ?_
            refine aw_ret ?_
            refine rs ?_
            exact ret_a ⟨[(2, .ptr 0 0 0), (3, .int .i64 0), (4, .bool false)], [(0, .cells 4 [.agg [.int .i64 0, .int .i64 0, .nils, .nils]])], 1⟩ (le_to [] rfl rfl rfl rfl rfl ⟨rfl, rfl, rfl, trivial⟩ ⟨rfl, trivial⟩) (resS_ok (by rfl)) (.inr ⟨rfl, rfl⟩) ⟨rfl, rfl, rfl⟩
          | true =>
            by_cases hlen : X.length = nZ
            · have hO : ok = true := by rw [hO, decide_eq_true hlen]; rfl
              subst hO
              refine aw_seq ?_
              refine aw_seq ?_
              refine aw_region ?_
              refine st_p (op_loadA Try.underlying26 rfl z26 rfl rfl rfl rfl) rfl ?_
              -- STOP: call diwan/txn.Put(t84) -> 85
              refine st_o ((op_callq (hput) Try.func25 ⟨rfl, rfl⟩ rfl rfl (fun nx => (.cons (.of_list (.cons (.same (by rfl)) (.cons (.same (by rfl)) (.cons (.whole rfl rfl rfl (by first | rfl | simp) (by first | rfl | simp [Function.comp_def, AV.ren, rens, sb, rdA, wrA]) (by first | rfl | simp [AV.plain, plains, bl_plain, sb, AV.ren, rdA, wrA])) (.cons (.whole rfl rfl rfl (by first | rfl | simp) (by first | rfl | simp [Function.comp_def, AV.ren, rens, sb, rdA, wrA]) (by first | rfl | simp [AV.plain, plains, bl_plain, sb, AV.ren, rdA, wrA])) .nil))))) .nil)) (by rintro _ _ _ ⟨rfl, rfl, rfl⟩; exact .whole rfl (by simp) (by first | rfl | simp [AV.plain, plains, bl_plain]))).ok) rfl ?_
              refine st_p (mva rfl) rfl ?_
              refine al_nil ?_
              refine nm ?_
              refine aw_seq ?_
              refine aw_region ?_
              refine st_p (mv rfl) rfl ?_
              refine st_p (op_nilCheck rfl trivial) rfl ?_
              refine st_p (op_fieldAddr Try.underlying143 rfl z4 (by decide) rfl) rfl ?_
              refine st_p (op_load1 Try.underlying4 rfl rfl rfl rfl rfl) rfl ?_
              refine st_p (mv rfl) rfl ?_
              refine st_pg rfl rfl rfl (mv rfl) rfl ?_
              refine st_pg rfl rfl rfl (op_eqn (b := false) Try.underlying22 rfl ⟨by first | assumption | omega | simp, rfl⟩) rfl ?_
              refine st_p (pkF rfl rfl) rfl ?_
              refine st_p (mv rfl) rfl ?_
              refine st_pg rfl rfl rfl (mv rfl) rfl ?_
              refine st_pg rfl rfl rfl (mv rfl) rfl ?_
              -- STOP: call bytes.HasPrefix(t95, t96) -> 97
              refine st_og rfl rfl rfl ((op_callq (hpre) Try.func102 ⟨rfl, rfl⟩ rfl rfl (fun nx => (.cons (.same (by rfl)) (.cons (.same (by rfl)) .nil))) (by rintro _ _ _ ⟨rfl, rfl, rfl⟩; exact .same rfl)).ok) rfl ?_
              refine st_pg rfl rfl rfl (op_notT rfl) rfl ?_
              refine st_p (pkF rfl rfl) rfl ?_
              refine st_p (mv rfl) rfl ?_
              refine st_pg rfl rfl rfl (mv rfl) rfl ?_
              refine st_pg rfl rfl rfl (op_len Try.underlying22 rfl) rfl ?_
              refine st_pg rfl rfl rfl (mv rfl) rfl ?_
              refine st_pg rfl rfl rfl (op_nilCheck rfl trivial) rfl ?_
              refine st_pg rfl rfl rfl (op_fieldAddr Try.underlying143 rfl z3 (by decide) rfl) rfl ?_
              refine st_pg rfl rfl rfl (op_load1 Try.underlying3 rfl rfl rfl rfl rfl) rfl ?_
              refine st_pg rfl rfl rfl (OpP.conv (op_ne rfl rfl) (no (by first | assumption | omega))) rfl ?_
              refine st_p (pkF rfl rfl) rfl ?_
              refine al_nil ?_
              refine nm ?_
              -- IF t108
              refine aw_no (rfl) ?_
              refine aw_skip ?_
              refine nm ?_
              refine aw_seq ?_
              refine dr_go ?_
              refine dr_q 0 0 [2] rfl (op_loadA Try.underlying26 rfl z26 rfl rfl rfl rfl) ?_
              refine dr_f 0 1 [5] rfl (fun H => mv rfl) ?_
              refine dr_f 0 1 [111] rfl (fun H => op_nilCheck rfl trivial) ?_
              refine dr_f 0 1 [112] rfl (fun H => op_fieldAddr Try.underlying143 rfl z3 (by decide) rfl) ?_
              refine dr_q 0 1 [113] rfl (op_load1 Try.underlying3 rfl rfl rfl rfl rfl) ?_
              refine dr_n 0 [2, 110] rfl (stA z26 rfl rfl rfl rfl rfl rfl rfl rfl rfl rfl) ?_
              refine dr_f 1 1 [114] rfl (fun H => mva rfl) ?_
              refine dr_f 1 1 [] rfl (fun H => mva rfl) ?_
              refine dr_end [(4, 1)] (by kernel_rfl) (by kernel_rfl) (by kernel_rfl) (by kernel_rfl) ⟨(by first | exact ⟨_, rfl, OpP.q (op_load1L Try.underlying3 rfl rfl rfl)⟩ | exact ⟨_, rfl, OpP.q (op_load1 Try.underlying3 rfl rfl rfl rfl rfl)⟩ | exact ⟨_, rfl, OpP.q (op_load1 Try.underlying3 rfl rfl rfl (by assumption) rfl)⟩ | exact ⟨_, rfl, OpP.q (op_load1 Try.underlying3 rfl rfl rfl rfl (by assumption))⟩), trivial⟩ ?_
              refine nm ?_
              refine aw_ret ?_
              exact ret_a ⟨[(2, .ptr 0 0 0), (3, .int .i64 (nZ : Nat)), (4, .bool true)], [(0, .cells 4 [.agg [.int .i64 (vA : Nat), .int .i64 (vQ : Nat), .own 2 0 rl.length, .own 3 0 wl.length]]), (2, .cells 4 (rl.map rdA)), (3, .cells 3 (wl.map wrA))], 4⟩ (le_to [] rfl rfl rfl rfl rfl ⟨rfl, rfl, rfl, trivial⟩ ⟨rfl, by rw [ren_rds]; rfl, by rw [ren_wrs]; rfl, trivial⟩) (resS_ok (by rfl)) (.inr ⟨rfl, by simp [Blk.nosl, AV.nosl, nosls, rdA, wrA, sb]⟩) ⟨rfl, rfl, rfl⟩
            · have hO : ok = false := by rw [hO, decide_eq_false hlen]; rfl
              subst hO
              refine aw_seq ?_
              refine aw_seq ?_
              refine aw_region ?_
              refine st_p (op_loadA Try.underlying26 rfl z26 rfl rfl rfl rfl) rfl ?_
              -- STOP: call diwan/txn.Put(t84) -> 85
              refine st_o ((op_callq (hput) Try.func25 ⟨rfl, rfl⟩ rfl rfl (fun nx => (.cons (.of_list (.cons (.same (by rfl)) (.cons (.same (by rfl)) (.cons (.whole rfl rfl rfl (by first | rfl | simp) (by first | rfl | simp [Function.comp_def, AV.ren, rens, sb, rdA, wrA]) (by first | rfl | simp [AV.plain, plains, bl_plain, sb, AV.ren, rdA, wrA])) (.cons (.whole rfl rfl rfl (by first | rfl | simp) (by first | rfl | simp [Function.comp_def, AV.ren, rens, sb, rdA, wrA]) (by first | rfl | simp [AV.plain, plains, bl_plain, sb, AV.ren, rdA, wrA])) .nil))))) .nil)) (by rintro _ _ _ ⟨rfl, rfl, rfl⟩; exact .whole rfl (by simp) (by first | rfl | simp [AV.plain, plains, bl_plain]))).ok) rfl ?_
              refine st_p (mva rfl) rfl ?_
              refine al_nil ?_
              refine nm ?_
              refine aw_seq ?_
              refine aw_region ?_
              refine st_p (mv rfl) rfl ?_
              refine st_p (op_nilCheck rfl trivial) rfl ?_
              refine st_p (op_fieldAddr Try.underlying143 rfl z4 (by decide) rfl) rfl ?_
              refine st_p (op_load1 Try.underlying4 rfl rfl rfl rfl rfl) rfl ?_
              refine st_p (mv rfl) rfl ?_
              refine st_pg rfl rfl rfl (mv rfl) rfl ?_
              refine st_pg rfl rfl rfl (op_eqn (b := false) Try.underlying22 rfl ⟨by first | assumption | omega | simp, rfl⟩) rfl ?_
              refine st_p (pkF rfl rfl) rfl ?_
              refine st_p (mv rfl) rfl ?_
              refine st_pg rfl rfl rfl (mv rfl) rfl ?_
              refine st_pg rfl rfl rfl (mv rfl) rfl ?_
              -- STOP: call bytes.HasPrefix(t95, t96) -> 97
              refine st_og rfl rfl rfl ((op_callq (hpre) Try.func102 ⟨rfl, rfl⟩ rfl rfl (fun nx => (.cons (.same (by rfl)) (.cons (.same (by rfl)) .nil))) (by rintro _ _ _ ⟨rfl, rfl, rfl⟩; exact .same rfl)).ok) rfl ?_
              refine st_pg rfl rfl rfl (op_notT rfl) rfl ?_
              refine st_p (pkF rfl rfl) rfl ?_
              refine st_p (mv rfl) rfl ?_
              refine st_pg rfl rfl rfl (mv rfl) rfl ?_
              refine st_pg rfl rfl rfl (op_len Try.underlying22 rfl) rfl ?_
              refine st_pg rfl rfl rfl (mv rfl) rfl ?_
              refine st_pg rfl rfl rfl (op_nilCheck rfl trivial) rfl ?_
              refine st_pg rfl rfl rfl (op_fieldAddr Try.underlying143 rfl z3 (by decide) rfl) rfl ?_
              refine st_pg rfl rfl rfl (op_load1 Try.underlying3 rfl rfl rfl rfl rfl) rfl ?_
              refine st_pg rfl rfl rfl (OpP.conv (op_ne rfl rfl) (yes (by first | assumption | omega))) rfl ?_
              refine st_p (pkF rfl rfl) rfl ?_
              refine al_nil ?_
              refine nm ?_
              -- IF t108
              refine aw_yes (rfl) ?_
              refine aw_seq ?_
              refine aw_region ?_
              refine st_p (op_build Try.underlying26 a26 rfl rfl (by intro f hf; simp only [List.mem_cons, List.not_mem_nil, or_false] at hf; rcases hf with rfl | rfl | rfl | rfl <;> exact ⟨_, by first | exact z3 | exact z23 | exact z24⟩) .nil rfl) rfl ?_
              refine st_n (stA z26 rfl rfl rfl rfl rfl rfl rfl rfl rfl rfl) ?_
              refine st_p (mva rfl) rfl ?_
              refine st_p (mva rfl) rfl ?_
              refine al_nil ?_
              refine nm ?_
              refine aw_ret ?_
              refine rs ?_
              exact ret_a ⟨[(2, .ptr 0 0 0), (3, .int .i64 0), (4, .bool false)], [(0, .cells 4 [.agg [.int .i64 0, .int .i64 0, .nils, .nils]])], 1⟩ (le_to [] rfl rfl rfl rfl rfl ⟨rfl, rfl, rfl, trivial⟩ ⟨rfl, trivial⟩) (resS_ok (by rfl)) (.inr ⟨rfl, rfl⟩) ⟨rfl, rfl, rfl⟩

end Go.Proofs.Ytloddmbbfkejcaa.Abs
end
section
/-
  txn.Take: what comes back of what was put, plain.
-/
namespace Go.Proofs.Ytloddmbbfkejcaa.Abs

theorem Fzs.agg {h' : Heap} {xs ys : List AV} (h : Fzs h' xs ys) : Fz h' (.agg xs) (.agg ys) := by
  have : xs.length = ys.length ∧ ∀ (i : Nat) (x y : AV), xs[i]? = some x → ys[i]? = some y → Fz h' x y := by
    induction h with
    | nil => exact ⟨rfl, fun i x y hx => by simp at hx⟩
    | cons h _ ih =>
      refine ⟨by simp [ih.1], fun i x y hx hy => ?_⟩
      cases i with
      | zero => simp only [List.getElem?_cons_zero, Option.some.injEq] at hx hy; subst hx; subst hy; exact h
      | succ i => simp only [List.getElem?_cons_succ] at hx hy; exact ih.2 i x y hx hy
  exact .agg this.1 this.2

theorem txn_Take_yes (b : List UInt8) (hb : b.length ≤ 100000) (hok : takeOk b = true) :
    AC Try.prog 34 [.sl 1 (bl b)] [] 0 false (fun v h nx => v = .tup [.agg [.int .i64 (takeT b).ses, .int .i64 (takeT b).seq, .own 0 0 (takeT b).reads.length, .own 1 0 (takeT b).writes.length], .int .i64 ((takeW b).2.1 : Nat), .bool true] ∧
      h = [(0, .cells 4 ((takeT b).reads.map rdA)), (1, .cells 3 ((takeT b).writes.map wrA))] ∧ nx = 2) := by
  have k0 := txn_Take0 b hb
  rw [hok] at k0
  simp only [cond_true] at k0
  unfold takeT
  dsimp only
  generalize takeA b = A at k0 ⊢
  generalize takeQ b = Q at k0 ⊢
  generalize takeR b = R at k0 ⊢
  generalize takeW b = W at k0 ⊢
  refine k0.le ?_
  rintro r h nx ⟨rfl, rfl, rfl⟩
  refine ⟨Nat.zero_le _, _, _, _, ⟨rfl, rfl, rfl⟩, fun c hc => ?_⟩
  exact le_to [(0, 2), (1, 3)] rfl (by rw [hc]; rfl) (by rw [hc]; rfl) rfl rfl ⟨rfl, trivial⟩ ⟨by rw [ren_rds]; rfl, by rw [ren_wrs]; rfl, trivial⟩

theorem txn_Take_no (b : List UInt8) (hb : b.length ≤ 100000) (hok : takeOk b = false) :
    AC Try.prog 34 [.sl 1 (bl b)] [] 0 false (fun v h nx => v = .tup [txA ⟨0, 0, [], []⟩, .int .i64 0, .bool false] ∧ h = [] ∧ nx = 0) := by
  have k : AC Try.prog 34 [.sl 1 (bl b)] [] 0 false (fun v h nx => v = .tup [.agg [.int .i64 0, .int .i64 0, .nils, .nils], .int .i64 0, .bool false] ∧ h = [] ∧ nx = 0) := by
    have k0 := txn_Take0 b hb
    rw [hok] at k0
    simp only [cond_false] at k0
    refine k0.le ?_
    rintro r h nx ⟨rfl, rfl, rfl⟩
    refine ⟨Nat.zero_le _, _, _, _, ⟨rfl, rfl, rfl⟩, fun c hc => ?_⟩
    exact le_to [] rfl rfl (by rw [hc]; rfl) rfl rfl ⟨rfl, trivial⟩ trivial
  refine k.le ?_
  rintro r h nx ⟨rfl, rfl, rfl⟩
  refine ⟨Nat.zero_le _, _, _, _, ⟨rfl, rfl, rfl⟩, fun c hc => le_val fun S w ρ v hv => ?_⟩
  cases hv with
  | tup vs h1 h2 =>
    refine .tup vs h1 fun i x u hx hu => ?_
    match i with
    | 0 =>
      simp only [List.getElem?_cons_zero, Option.some.injEq] at hx
      subst hx
      have := h2 0 _ u rfl hu
      cases this with
      | agg ws k1 k2 =>
        refine .agg ws k1 fun j y z hy hz => ?_
        match j with
        | 0 => exact k2 0 y z hy hz
        | 1 => exact k2 1 y z hy hz
        | 2 =>
          simp only [List.getElem?_cons_succ, List.getElem?_cons_zero, Option.some.injEq] at hy
          subst hy
          have := k2 2 _ z rfl hz
          cases this
          exact .sl0
        | 3 =>
          simp only [List.getElem?_cons_succ, List.getElem?_cons_zero, Option.some.injEq] at hy
          subst hy
          have := k2 3 _ z rfl hz
          cases this
          exact .sl0
        | j + 4 => simp at hy
    | 1 => exact h2 1 x u hx hu
    | 2 => exact h2 2 x u hx hu
    | i + 3 => simp at hx

/-! ### Plain -/

theorem takeN_put : ∀ (k v i v0 m : Nat) (rest : List UInt8), v ≤ k → (i = 0 ∨ 0 < v) → (putNum v).length ≤ m → takeN ((putNum v ++ rest).take m) i v0 = some (v0 + v * 128 ^ i, i + (putNum v).length) := by
  intro k
  induction k with
  | zero =>
    intro v i v0 m rest hv hi hm
    have hv0 : v = 0 := by omega
    subst hv0
    rw [putNum_lo (by omega)] at hm ⊢
    obtain ⟨q, rfl⟩ : ∃ q, m = q + 1 := ⟨m - 1, by simp at hm; omega⟩
    rw [List.cons_append, List.take_succ_cons, takeN]
    rcases hi with rfl | hi
    · simp
    · omega
  | succ k ih =>
    intro v i v0 m rest hv hi hm
    by_cases h : v < 128
    · rw [putNum_lo h] at hm ⊢
      obtain ⟨q, rfl⟩ : ∃ q, m = q + 1 := ⟨m - 1, by simp at hm; omega⟩
      rw [List.cons_append, List.take_succ_cons, takeN]
      have e : (UInt8.ofNat v).toNat = v := by have := u8_nat (n := v) (by omega); omega
      rw [e, if_pos h, if_pos hi]
      rfl
    · rw [putNum_hi h] at hm ⊢
      obtain ⟨q, rfl⟩ : ∃ q, m = q + 1 := ⟨m - 1, by simp at hm; omega⟩
      rw [List.cons_append, List.take_succ_cons, takeN]
      have e : (UInt8.ofNat (v % 128 + 128)).toNat = v % 128 + 128 := by have := u8_nat (n := v % 128 + 128) (by omega); omega
      rw [e, if_neg (by omega), ih (v / 128) (i + 1) _ q rest (by omega) (.inr (by omega)) (by simp at hm; omega)]
      have e2 : v % 128 * 128 ^ i + v / 128 * 128 ^ (i + 1) = v * 128 ^ i := by
        rw [Nat.pow_succ, Nat.mul_comm (128 ^ i) 128, ← Nat.mul_assoc, ← Nat.add_mul]
        congr 1
        omega
      rw [List.length_cons, Nat.add_sub_cancel]
      congr 2
      · omega
      · omega

theorem takeNum_put (v : Nat) (rest : List UInt8) (hv : v ≤ 9223372036854775807) : takeNum (putNum v ++ rest) = some (v, (putNum v).length) := by
  have := takeN_put v v 0 0 9 rest (Nat.le_refl _) (.inl rfl) (putNum_le v hv)
  unfold takeNum
  rw [this]
  simp

theorem takeText_put (s rest : List UInt8) (hs : s.length ≤ 255) : takeText (putText s ++ rest) = some (s, (putText s).length) := by
  unfold takeText putText
  rw [List.append_assoc, takeNum_put _ _ (by omega)]
  dsimp only
  rw [if_pos ⟨hs, by simp only [List.length_append]; omega⟩, List.drop_left, List.take_left, List.length_append]

/-- What lies behind. -/
theorem drop_on {b x rest : List UInt8} {n : Nat} (h : b.drop n = x ++ rest) : b.drop (n + x.length) = rest := by
  rw [← List.drop_drop, h, List.drop_left]

theorem numS_put {b rest : List UInt8} {s : Nat × Bool} {v : Nat} (hv : v ≤ 9223372036854775807) (h : b.drop s.1 = putNum v ++ rest) : numS b s = (v, s.1 + (putNum v).length, s.2) := by
  unfold numS
  rw [h, takeNum_put v rest hv]
theorem textS_put {b rest t : List UInt8} {s : Nat × Bool} (ht : t.length ≤ 255) (h : b.drop s.1 = putText t ++ rest) : textS b s = (t, s.1 + (putText t).length, s.2) := by
  unfold textS
  rw [h, takeText_put t rest ht]

theorem flag_put (x : Bool) : [flagN x] = putNum (if x then 1 else 0) := by
  cases x
  · rw [putNum_lo (by decide)]; rfl
  · rw [putNum_lo (by decide)]; rfl

theorem takeRdS_put {b rest : List UInt8} {s : Nat × Bool} {r : RD} (hk : r.key.length ≤ 255) (hv0 : 0 ≤ r.ver) (hv : r.ver ≤ 9223372036854775807) (hw : r.val.length ≤ 255) (h : b.drop s.1 = rdBytes r ++ rest) : takeRdS b s = (r, s.1 + (rdBytes r).length, s.2) := by
  obtain ⟨k, v, w, f⟩ := r
  dsimp only at hk hv0 hv hw
  unfold rdBytes at h ⊢
  simp only [List.flatten_cons, List.flatten_nil, List.append_nil, List.append_assoc] at h
  dsimp only at h ⊢
  rw [flag_put] at h ⊢
  have e1 := textS_put hk h
  have h2 := drop_on h
  have e2 := numS_put (s := (s.1 + (putText k).length, s.2)) (by omega) h2
  have h3 := drop_on h2
  have e3 := textS_put (s := (s.1 + (putText k).length + (putNum v.toNat).length, s.2)) hw h3
  have h4 := drop_on h3
  have e4 := numS_put (s := (s.1 + (putText k).length + (putNum v.toNat).length + (putText w).length, s.2)) (by cases f <;> decide) h4
  unfold takeRdS
  rw [e1]
  dsimp only at e2 e3 e4 ⊢
  rw [e2]
  dsimp only at e3 e4 ⊢
  rw [e3]
  dsimp only at e4 ⊢
  rw [e4]
  dsimp only
  simp only [Prod.mk.injEq, RD.mk.injEq, true_and, and_true, List.flatten_cons, List.flatten_nil, List.append_nil, List.length_append]
  refine ⟨⟨by omega, ?_⟩, by omega⟩
  cases f <;> rfl

theorem takeWrS_put {b rest : List UInt8} {s : Nat × Bool} {r : WR} (hk : r.key.length ≤ 255) (hw : r.val.length ≤ 255) (h : b.drop s.1 = wrBytes r ++ rest) : takeWrS b s = (r, s.1 + (wrBytes r).length, s.2) := by
  obtain ⟨k, w, f⟩ := r
  dsimp only at hk hw
  unfold wrBytes at h ⊢
  simp only [List.flatten_cons, List.flatten_nil, List.append_nil, List.append_assoc] at h
  dsimp only at h ⊢
  rw [flag_put] at h ⊢
  have e1 := textS_put hk h
  have h2 := drop_on h
  have e2 := textS_put (s := (s.1 + (putText k).length, s.2)) hw h2
  have h3 := drop_on h2
  have e3 := numS_put (s := (s.1 + (putText k).length + (putText w).length, s.2)) (by cases f <;> decide) h3
  unfold takeWrS
  rw [e1]
  dsimp only at e2 e3 ⊢
  rw [e2]
  dsimp only at e3 ⊢
  rw [e3]
  dsimp only
  simp only [Prod.mk.injEq, WR.mk.injEq, true_and, and_true, List.flatten_cons, List.flatten_nil, List.append_nil, List.length_append]
  refine ⟨?_, by omega⟩
  cases f <;> rfl

theorem loopS_put {α : Type} {b : List UInt8} {f : Nat × Bool → α × Nat × Bool} {g : α → List UInt8} : ∀ (l : List α) (n : Nat) (rest : List UInt8), (∀ r ∈ l, ∀ (n : Nat) (rest : List UInt8), b.drop n = g r ++ rest → f (n, false) = (r, n + (g r).length, false)) →
    b.drop n = (l.map g).flatten ++ rest → loopS f l.length (n, false) = (l, n + (l.map g).flatten.length, false) := by
  intro l
  induction l with
  | nil => intro n rest _ _; rfl
  | cons r l ih =>
    intro n rest hf h
    simp only [List.map_cons, List.flatten_cons, List.append_assoc] at h
    have e1 := hf r List.mem_cons_self n _ h
    have h2 := drop_on h
    have e2 := ih (n + (g r).length) rest (fun x hx => hf x (List.mem_cons_of_mem _ hx)) h2
    simp only [List.length_cons, loopS, Bool.false_eq_true, if_false, e1, e2]
    simp only [List.map_cons, List.flatten_cons, List.length_append, Nat.add_assoc]

/-- What was put comes back, whatever stands behind. -/
theorem take_put (t : TX) (y : List UInt8) (hm : mayTxB t = true) (hv : ∀ r ∈ t.reads, r.ver ≤ 9223372036854775807) : takeT (putTx t ++ y) = t ∧ (takeW (putTx t ++ y)).2 = ((putTx t).length, false) := by
  have hm' := hm
  unfold mayTxB at hm'
  simp only [Bool.and_eq_true, decide_eq_true_eq] at hm'
  obtain ⟨t1, t2, t3, t4, t5, t6, t7, t8, t9, t10⟩ := hm'
  rw [List.all_eq_true] at t9 t10
  have hkr : ∀ r ∈ t.reads, r.key.length ≤ 255 := fun r hr => by have := (mayB_len (rising_key t6 _ (List.mem_map_of_mem hr))).2; omega
  have hkw : ∀ r ∈ t.writes, r.key.length ≤ 255 := fun r hr => by have := (mayB_len (rising_key t8 _ (List.mem_map_of_mem hr))).2; omega
  have hvr : ∀ r ∈ t.reads, r.val.length ≤ 255 := fun r hr => by have := (readB_val (t9 r hr)).2; omega
  have hvw : ∀ r ∈ t.writes, r.val.length ≤ 255 := fun r hr => by
    have := t10 r hr
    unfold writeB at this
    simp only [Bool.and_eq_true, decide_eq_true_eq] at this
    omega
  have h0 : (putTx t ++ y).drop 0 = putNum t.ses.toNat ++ (putNum t.seq.toNat ++ (putNum t.reads.length ++ ((t.reads.map rdBytes).flatten ++ (putNum t.writes.length ++ ((t.writes.map wrBytes).flatten ++ y))))) := by
    unfold putTx txMid txHead
    simp only [List.drop_zero, List.flatten_cons, List.flatten_nil, List.append_nil, List.append_assoc]
  have hlen : (putTx t).length = (putNum t.ses.toNat).length + (putNum t.seq.toNat).length + (putNum t.reads.length).length + (t.reads.map rdBytes).flatten.length + (putNum t.writes.length).length + (t.writes.map wrBytes).flatten.length := by
    unfold putTx txMid txHead
    simp only [List.flatten_cons, List.flatten_nil, List.append_nil, List.length_append]
    omega
  generalize putTx t ++ y = b at h0
  have eA : takeA b = (t.ses.toNat, 0 + (putNum t.ses.toNat).length, false) := numS_put (s := (0, false)) (by omega) h0
  have h1 := drop_on h0
  have eQ : takeQ b = (t.seq.toNat, 0 + (putNum t.ses.toNat).length + (putNum t.seq.toNat).length, false) := by
    unfold takeQ; rw [eA]; exact numS_put (s := (_, false)) (by omega) h1
  have h2 := drop_on h1
  have eC : takeC b = (t.reads.length, 0 + (putNum t.ses.toNat).length + (putNum t.seq.toNat).length + (putNum t.reads.length).length, false) := by
    unfold takeC; rw [eQ]; exact numS_put (s := (_, false)) (by omega) h2
  have h3 := drop_on h2
  have eR : takeR b = (t.reads, 0 + (putNum t.ses.toNat).length + (putNum t.seq.toNat).length + (putNum t.reads.length).length + (t.reads.map rdBytes).flatten.length, false) := by
    unfold takeR; rw [eC]
    exact loopS_put t.reads _ _ (fun r hr n rest h => takeRdS_put (s := (n, false)) (hkr r hr) (readB_val (t9 r hr)).1 (hv r hr) (hvr r hr) h) h3
  have h4 := drop_on h3
  have eD : takeD b = (t.writes.length, 0 + (putNum t.ses.toNat).length + (putNum t.seq.toNat).length + (putNum t.reads.length).length + (t.reads.map rdBytes).flatten.length + (putNum t.writes.length).length, false) := by
    unfold takeD; rw [eR]; exact numS_put (s := (_, false)) (by omega) h4
  have h5 := drop_on h4
  have eW : takeW b = (t.writes, 0 + (putNum t.ses.toNat).length + (putNum t.seq.toNat).length + (putNum t.reads.length).length + (t.reads.map rdBytes).flatten.length + (putNum t.writes.length).length + (t.writes.map wrBytes).flatten.length, false) := by
    unfold takeW; rw [eD]
    exact loopS_put t.writes _ _ (fun r hr n rest h => takeWrS_put (s := (n, false)) (hkw r hr) (hvw r hr) h) h5
  refine ⟨?_, ?_⟩
  · unfold takeT
    rw [eA, eQ, eR, eW]
    obtain ⟨a, c, rl, wl⟩ := t
    dsimp only at *
    rw [show ((a.toNat : Nat) : Int) = a by omega, show ((c.toNat : Nat) : Int) = c by omega]
  · rw [eW, hlen]
    simp only [Prod.mk.injEq, and_true]
    omega

theorem takeOk_put (t : TX) (y : List UInt8) (hm : mayTxB t = true) (hv : ∀ r ∈ t.reads, r.ver ≤ 9223372036854775807) : takeOk (putTx t ++ y) = true := by
  obtain ⟨h1, h2⟩ := take_put t y hm hv
  unfold takeOk
  rw [h1, h2, hm]
  simp [preB]

/-- What is taken was put there. -/
theorem takeOk_pre {b : List UInt8} (h : takeOk b = true) : mayTxB (takeT b) = true ∧ ∃ z, b = putTx (takeT b) ++ z := by
  unfold takeOk preB at h
  simp only [Bool.and_eq_true, decide_eq_true_eq] at h
  obtain ⟨_, h2, ⟨h3, h4⟩, _⟩ := h
  refine ⟨h2, b.drop (putTx (takeT b)).length, ?_⟩
  conv => rhs; lhs; rw [← h4]
  exact (List.take_append_drop _ _).symm

/-- Cut off it is none. -/
theorem take_short (t : TX) (m : Nat) (hm : mayTxB t = true) (hlt : m < (putTx t).length) : takeOk ((putTx t).take m) = false := by
  cases h : takeOk ((putTx t).take m) with
  | false => rfl
  | true =>
    obtain ⟨h1, z, h2⟩ := takeOk_pre h
    have e : putTx (takeT ((putTx t).take m)) ++ (z ++ (putTx t).drop m) = putTx t ++ [] := by
      rw [← List.append_assoc, ← h2, List.take_append_drop, List.append_nil]
    have h3 := (putTx_pre h1 hm e).2
    have := congrArg List.length h3
    simp at this
    omega

end Go.Proofs.Ytloddmbbfkejcaa.Abs
end
section
/-
  begun of diwanlaw5, run: it comes to yes.
-/
namespace Go.Proofs.Ytloddmbbfkejcaa.Abs
namespace Runbegun5
/-- The plans of the regions whose order is open. -/
def planRows : List (Nat × List (Nat × PL)) := [
  (25, [(3, ⟨[(0, [1]), (1, [11]), (2, [12]), (0, [1]), (1, [14]), (2, [15]), (0, [1]), (1, [17]), (0, [18]), (2, [19]), (2, [13, 16, 20]), (2, [21]), (0, [22])], [([], 0, 0), ([2], 0, 1), ([2, 5], 0, 2), ([2, 5, 9], 0, 3), ([2, 5, 9, 10], 0, 4), ([2, 5, 9, 10, 11], 0, 5)], [0, 1, 2, 3, 4, 5], [[0, 1, 2, 3, 4, 5], [0, 1, 2, 3, 4, 5], [1, 2, 3, 4, 5], [0, 1, 2, 3, 4, 5], [0, 1, 2, 3, 4, 5], [2, 3, 4, 5], [0, 1, 2, 3, 4, 5], [0, 1, 2, 3, 4, 5], [0, 1, 2, 3, 4, 5], [3, 4, 5], [4, 5], [5], [5]], [[0], [0], [0], [0, 1], [0, 1], [0, 1], [0, 1, 2], [0, 1, 2], [0, 1, 2], [0, 1, 2], [0, 1, 2, 3], [0, 1, 2, 3, 4], [0, 1, 2, 3, 4, 5]], [(4, 0, 0), (7, 0, 0), (7, 1, 0)], 5⟩),
    (7, ⟨[(0, [3]), (0, [5]), (1, [31]), (2, [32]), (0, [5]), (1, [34]), (2, [35]), (0, [5]), (1, [37]), (2, [38]), (2, [30, 33, 36, 39]), (2, [40]), (0, [5]), (1, [42]), (2, [43]), (2, [44]), (2, [41, 45]), (0, [46])], [([], 0, 0), ([3], 0, 1), ([3, 6], 0, 2), ([3, 6, 9], 0, 3), ([3, 6, 9, 10], 0, 4), ([3, 6, 9, 10, 11], 0, 5), ([3, 6, 9, 10, 11, 14], 0, 6), ([3, 6, 9, 10, 11, 14, 15], 0, 7), ([3, 6, 9, 10, 11, 14, 15, 16], 0, 8)], [0, 1, 2, 3, 4, 5, 6, 7, 8], [[0, 1, 2, 3, 4, 5, 6, 7, 8], [0, 1, 2, 3, 4, 5, 6, 7, 8], [0, 1, 2, 3, 4, 5, 6, 7, 8], [1, 2, 3, 4, 5, 6, 7, 8], [0, 1, 2, 3, 4, 5, 6, 7, 8], [0, 1, 2, 3, 4, 5, 6, 7, 8], [2, 3, 4, 5, 6, 7, 8], [0, 1, 2, 3, 4, 5, 6, 7, 8], [0, 1, 2, 3, 4, 5, 6, 7, 8], [3, 4, 5, 6, 7, 8], [4, 5, 6, 7, 8], [5, 6, 7, 8], [0, 1, 2, 3, 4, 5, 6, 7, 8], [0, 1, 2, 3, 4, 5, 6, 7, 8], [6, 7, 8], [7, 8], [8], [8]], [[0, 1, 2, 3], [0], [0], [0], [0, 1], [0, 1], [0, 1], [0, 1, 2], [0, 1, 2], [0, 1, 2], [0, 1, 2, 3], [0, 1, 2, 3, 4], [0, 1, 2, 3, 4, 5], [0, 1, 2, 3, 4, 5], [0, 1, 2, 3, 4, 5], [0, 1, 2, 3, 4, 5, 6], [0, 1, 2, 3, 4, 5, 6, 7], [0, 1, 2, 3, 4, 5, 6, 7, 8]], [(5, 0, 0), (8, 0, 0), (8, 1, 0), (13, 0, 0), (13, 1, 0), (13, 2, 0), (13, 3, 0), (13, 4, 0)], 8⟩),
    (13, ⟨[(0, [3]), (0, [7]), (1, [62]), (2, [63]), (0, [7]), (1, [65]), (2, [66]), (2, [61, 64, 67]), (2, [68]), (0, [7]), (1, [70]), (2, [71]), (2, [72]), (2, [69, 73]), (0, [74])], [([], 0, 0), ([3], 0, 1), ([3, 6], 0, 2), ([3, 6, 7], 0, 3), ([3, 6, 7, 8], 0, 4), ([3, 6, 7, 8, 11], 0, 5), ([3, 6, 7, 8, 11, 12], 0, 6), ([3, 6, 7, 8, 11, 12, 13], 0, 7)], [0, 1, 2, 3, 4, 5, 6, 7], [[0, 1, 2, 3, 4, 5, 6, 7], [0, 1, 2, 3, 4, 5, 6, 7], [0, 1, 2, 3, 4, 5, 6, 7], [1, 2, 3, 4, 5, 6, 7], [0, 1, 2, 3, 4, 5, 6, 7], [0, 1, 2, 3, 4, 5, 6, 7], [2, 3, 4, 5, 6, 7], [3, 4, 5, 6, 7], [4, 5, 6, 7], [0, 1, 2, 3, 4, 5, 6, 7], [0, 1, 2, 3, 4, 5, 6, 7], [5, 6, 7], [6, 7], [7], [7]], [[0, 1, 2], [0], [0], [0], [0, 1], [0, 1], [0, 1], [0, 1, 2], [0, 1, 2, 3], [0, 1, 2, 3, 4], [0, 1, 2, 3, 4], [0, 1, 2, 3, 4], [0, 1, 2, 3, 4, 5], [0, 1, 2, 3, 4, 5, 6], [0, 1, 2, 3, 4, 5, 6, 7]], [(5, 0, 0), (10, 0, 0), (10, 1, 0), (10, 2, 0), (10, 3, 0)], 7⟩)]),
  (34, [(19, ⟨[(1, [2]), (0, [5]), (0, [111]), (0, [112]), (1, [113]), (2, [2, 110]), (0, [114]), (0, [])], [([], 0, 0), ([5], 0, 1)], [0, 1], [[0, 1], [0, 1], [0, 1], [0, 1], [0, 1], [1], [1], [1]], [[0], [0, 1], [0, 1], [0, 1], [0, 1], [0], [0, 1], [0, 1]], [(4, 1, 0)], 1⟩)]),
  (92, [(6, ⟨[(0, [0]), (0, [5]), (1, [16, 17]), (1, [18]), (0, [1]), (0, [5]), (1, [20, 21]), (1, [22]), (0, [19, 23])], [([], 0, 0)], [0], [[0], [0], [0], [0], [0], [0], [0], [0], [0]], [[0], [0], [0], [0], [0], [0], [0], [0], [0]], [], 0⟩)]),
  (93, [(6, ⟨[(0, [0]), (0, [5]), (1, [16, 17]), (1, [18]), (0, [1]), (0, [5]), (1, [20, 21]), (1, [22]), (0, [19, 23])], [([], 0, 0)], [0], [[0], [0], [0], [0], [0], [0], [0], [0], [0]], [[0], [0], [0], [0], [0], [0], [0], [0], [0]], [], 0⟩)]),
  (96, [(6, ⟨[(0, [0]), (0, [3]), (1, [16, 17]), (1, [18]), (0, [0]), (0, [3]), (0, [21]), (1, [20, 22]), (1, [23]), (0, [19, 24])], [([], 0, 0)], [0], [[0], [0], [0], [0], [0], [0], [0], [0], [0], [0]], [[0], [0], [0], [0], [0], [0], [0], [0], [0], [0]], [], 0⟩),
    (11, ⟨[(0, [4]), (0, [5]), (1, [35, 36]), (1, [37]), (0, [4]), (0, [5]), (0, [40]), (1, [39, 41]), (1, [42]), (0, [38, 43])], [([], 0, 0)], [0], [[0], [0], [0], [0], [0], [0], [0], [0], [0], [0]], [[0], [0], [0], [0], [0], [0], [0], [0], [0], [0]], [], 0⟩)]),
  (99, [(1, ⟨[(0, [0]), (1, [1]), (2, [5, 6]), (1, [2]), (0, [7, 8]), (0, [9])], [([], 0, 0), ([2], 0, 1)], [0, 1], [[0, 1], [0, 1], [1], [0, 1], [1], [1]], [[0], [0], [0], [0, 1], [0, 1], [0, 1]], [(3, 0, 0)], 1⟩)]),
  (100, [(1, ⟨[(0, [0]), (0, [7]), (0, [8]), (1, [9]), (0, [0]), (0, [11]), (0, [12]), (1, [13]), (1, [10, 14]), (2, [15]), (0, [16]), (0, [6]), (0, [6]), (0, [6]), (0, [17]), (0, [18]), (0, [19])], [([], 0, 0), ([9], 0, 1)], [0, 1], [[0, 1], [0, 1], [0, 1], [0, 1], [0, 1], [0, 1], [0, 1], [0, 1], [0, 1], [1], [1], [1], [1], [1], [1], [1], [1]], [[0], [0], [0], [0], [0], [0], [0], [0], [0], [0], [0, 1], [0, 1], [0, 1], [0, 1], [0, 1], [0, 1], [0, 1]], [], 1⟩)]),
  (101, [(1, ⟨[(0, [0]), (0, [7]), (0, [8]), (1, [9]), (0, [0]), (0, [11]), (0, [12]), (1, [13]), (1, [10, 14]), (2, [15]), (0, [16]), (0, [6]), (0, [6]), (0, [6]), (0, [17]), (0, [18]), (0, [19])], [([], 0, 0), ([9], 0, 1)], [0, 1], [[0, 1], [0, 1], [0, 1], [0, 1], [0, 1], [0, 1], [0, 1], [0, 1], [0, 1], [1], [1], [1], [1], [1], [1], [1], [1]], [[0], [0], [0], [0], [0], [0], [0], [0], [0], [0], [0, 1], [0, 1], [0, 1], [0, 1], [0, 1], [0, 1], [0, 1]], [], 1⟩)]),
  (142, [(17, ⟨[(0, [1]), (0, [73]), (0, [74]), (0, [0]), (0, [1]), (0, [77]), (1, [76, 78]), (1, [79]), (0, [0]), (0, [11]), (1, [81, 82]), (1, [83]), (2, [80, 84]), (0, [85]), (0, [75, 86])], [([], 0, 0), ([12], 0, 1)], [0, 1], [[0, 1], [0, 1], [0, 1], [0, 1], [0, 1], [0, 1], [0, 1], [0, 1], [0, 1], [0, 1], [0, 1], [0, 1], [1], [1], [1]], [[0], [0], [0], [0], [0], [0], [0], [0], [0], [0], [0], [0], [0], [0, 1], [0, 1]], [], 1⟩)]),
  (175, [(4, ⟨[(0, [7]), (0, [1]), (0, [16, 17]), (0, [18]), (0, [0]), (0, [7]), (1, [20, 21]), (1, [22]), (0, [0]), (0, [7]), (0, [25]), (1, [24, 26]), (1, [27]), (2, [23, 28]), (0, [19, 29])], [([], 0, 0), ([13], 0, 1)], [0, 1], [[0, 1], [0, 1], [0, 1], [0, 1], [0, 1], [0, 1], [0, 1], [0, 1], [0, 1], [0, 1], [0, 1], [0, 1], [0, 1], [1], [1]], [[0], [0], [0], [0], [0], [0], [0], [0], [0], [0], [0], [0], [0], [0], [0, 1]], [], 1⟩),
    (6, ⟨[(0, [0]), (0, [7]), (0, [0]), (0, [7]), (0, [36]), (0, [0]), (0, [7]), (0, [39]), (1, [38, 40]), (1, [41]), (0, [0]), (0, [7]), (1, [43, 44]), (1, [45]), (1, [33, 34]), (2, [47, 42]), (1, [35, 37]), (2, [48, 46])], [([], 0, 0), ([15], 0, 1), ([15, 17], 0, 2)], [0, 1, 2], [[0, 1, 2], [0, 1, 2], [0, 1, 2], [0, 1, 2], [0, 1, 2], [0, 1, 2], [0, 1, 2], [0, 1, 2], [0, 1, 2], [0, 1, 2], [0, 1, 2], [0, 1, 2], [0, 1, 2], [0, 1, 2], [0, 1, 2], [1, 2], [1, 2], [2]], [[0], [0], [0, 1], [0, 1], [0, 1], [0], [0], [0], [0], [0], [0], [0], [0], [0], [0], [0], [0, 1], [0, 1]], [], 2⟩)]),
  (176, [(10, ⟨[(0, [0]), (0, [6]), (0, [0]), (0, [6]), (0, [10]), (0, [36, 37]), (0, [0]), (0, [6]), (0, [10]), (0, [40, 41]), (1, [39, 42]), (1, [43]), (0, [0]), (0, [6]), (1, [45, 46]), (1, [47]), (1, [33, 34]), (2, [49, 44]), (1, [35, 38]), (2, [50, 48])], [([], 0, 0), ([17], 0, 1), ([17, 19], 0, 2)], [0, 1, 2], [[0, 1, 2], [0, 1, 2], [0, 1, 2], [0, 1, 2], [0, 1, 2], [0, 1, 2], [0, 1, 2], [0, 1, 2], [0, 1, 2], [0, 1, 2], [0, 1, 2], [0, 1, 2], [0, 1, 2], [0, 1, 2], [0, 1, 2], [0, 1, 2], [0, 1, 2], [1, 2], [1, 2], [2]], [[0], [0], [0, 1], [0, 1], [0, 1], [0, 1], [0], [0], [0], [0], [0], [0], [0], [0], [0], [0], [0], [0], [0, 1], [0, 1]], [], 2⟩)]),
  (177, [(10, ⟨[(0, [0]), (0, [9]), (0, [0]), (0, [1]), (0, [10]), (0, [50, 51]), (0, [0]), (0, [1]), (0, [10]), (0, [54, 55]), (1, [53, 56]), (1, [57]), (0, [0]), (0, [9]), (1, [59, 60]), (1, [61]), (1, [47, 48]), (2, [63, 58]), (1, [49, 52]), (2, [64, 62])], [([], 0, 0), ([17], 0, 1), ([17, 19], 0, 2)], [0, 1, 2], [[0, 1, 2], [0, 1, 2], [0, 1, 2], [0, 1, 2], [0, 1, 2], [0, 1, 2], [0, 1, 2], [0, 1, 2], [0, 1, 2], [0, 1, 2], [0, 1, 2], [0, 1, 2], [0, 1, 2], [0, 1, 2], [0, 1, 2], [0, 1, 2], [0, 1, 2], [1, 2], [1, 2], [2]], [[0], [0], [0, 1], [0, 1], [0, 1], [0, 1], [0], [0], [0], [0], [0], [0], [0], [0], [0], [0], [0], [0], [0, 1], [0, 1]], [], 2⟩)]),
  (179, [(3, ⟨[(0, [0]), (0, [6]), (0, [0]), (0, [7]), (0, [0]), (0, [7]), (1, [18, 19]), (1, [20]), (0, [0]), (0, [6]), (1, [22, 23]), (1, [24]), (1, [14, 15]), (2, [26, 21]), (1, [16, 17]), (2, [27, 25])], [([], 0, 0), ([13], 0, 1), ([13, 15], 0, 2)], [0, 1, 2], [[0, 1, 2], [0, 1, 2], [0, 1, 2], [0, 1, 2], [0, 1, 2], [0, 1, 2], [0, 1, 2], [0, 1, 2], [0, 1, 2], [0, 1, 2], [0, 1, 2], [0, 1, 2], [0, 1, 2], [1, 2], [1, 2], [2]], [[0], [0], [0, 1], [0, 1], [0], [0], [0], [0], [0], [0], [0], [0], [0], [0], [0, 1], [0, 1]], [], 2⟩)]),
  (180, [(5, ⟨[(0, [7]), (0, [2]), (0, [17, 18]), (0, [19]), (0, [0]), (0, [7]), (1, [21, 22]), (1, [23]), (0, [0]), (0, [7]), (0, [26]), (1, [25, 27]), (1, [28]), (2, [24, 29]), (0, [30]), (0, [20, 31])], [([], 0, 0), ([13], 0, 1)], [0, 1], [[0, 1], [0, 1], [0, 1], [0, 1], [0, 1], [0, 1], [0, 1], [0, 1], [0, 1], [0, 1], [0, 1], [0, 1], [0, 1], [1], [1], [1]], [[0], [0], [0], [0], [0], [0], [0], [0], [0], [0], [0], [0], [0], [0], [0, 1], [0, 1]], [], 1⟩),
    (11, ⟨[(0, [0]), (0, [7]), (0, [0]), (0, [7]), (0, [45]), (0, [0]), (0, [7]), (0, [48]), (1, [47, 49]), (1, [50]), (0, [0]), (0, [7]), (1, [52, 53]), (1, [54]), (1, [42, 43]), (2, [56, 51]), (1, [44, 46]), (2, [57, 55])], [([], 0, 0), ([15], 0, 1), ([15, 17], 0, 2)], [0, 1, 2], [[0, 1, 2], [0, 1, 2], [0, 1, 2], [0, 1, 2], [0, 1, 2], [0, 1, 2], [0, 1, 2], [0, 1, 2], [0, 1, 2], [0, 1, 2], [0, 1, 2], [0, 1, 2], [0, 1, 2], [0, 1, 2], [0, 1, 2], [1, 2], [1, 2], [2]], [[0], [0], [0, 1], [0, 1], [0, 1], [0], [0], [0], [0], [0], [0], [0], [0], [0], [0], [0], [0, 1], [0, 1]], [], 2⟩),
    (16, ⟨[(0, [0]), (0, [9]), (1, [68, 69]), (1, [70]), (0, [0]), (0, [9]), (0, [73]), (1, [72, 74]), (1, [75]), (2, [71, 76]), (0, [77])], [([], 0, 0), ([9], 0, 1)], [0, 1], [[0, 1], [0, 1], [0, 1], [0, 1], [0, 1], [0, 1], [0, 1], [0, 1], [0, 1], [1], [1]], [[0], [0], [0], [0], [0], [0], [0], [0], [0], [0], [0, 1]], [], 1⟩),
    (17, ⟨[(0, [0]), (0, [9]), (0, [0]), (0, [9]), (0, [82]), (0, [0]), (0, [9]), (0, [85]), (1, [84, 86]), (1, [87]), (0, [0]), (0, [9]), (1, [89, 90]), (1, [91]), (1, [79, 80]), (2, [93, 88]), (1, [81, 83]), (2, [94, 92])], [([], 0, 0), ([15], 0, 1), ([15, 17], 0, 2)], [0, 1, 2], [[0, 1, 2], [0, 1, 2], [0, 1, 2], [0, 1, 2], [0, 1, 2], [0, 1, 2], [0, 1, 2], [0, 1, 2], [0, 1, 2], [0, 1, 2], [0, 1, 2], [0, 1, 2], [0, 1, 2], [0, 1, 2], [0, 1, 2], [1, 2], [1, 2], [2]], [[0], [0], [0, 1], [0, 1], [0, 1], [0], [0], [0], [0], [0], [0], [0], [0], [0], [0], [0], [0, 1], [0, 1]], [], 2⟩),
    (22, ⟨[(0, [0]), (0, [10]), (1, [106, 107]), (1, [108]), (0, [0]), (0, [10]), (0, [111]), (1, [110, 112]), (1, [113]), (2, [109, 114]), (0, [115])], [([], 0, 0), ([9], 0, 1)], [0, 1], [[0, 1], [0, 1], [0, 1], [0, 1], [0, 1], [0, 1], [0, 1], [0, 1], [0, 1], [1], [1]], [[0], [0], [0], [0], [0], [0], [0], [0], [0], [0], [0, 1]], [], 1⟩),
    (23, ⟨[(0, [0]), (0, [10]), (0, [0]), (0, [10]), (0, [120]), (0, [0]), (0, [10]), (0, [123]), (1, [122, 124]), (1, [125]), (0, [0]), (0, [10]), (1, [127, 128]), (1, [129]), (1, [117, 118]), (2, [131, 126]), (1, [119, 121]), (2, [132, 130])], [([], 0, 0), ([15], 0, 1), ([15, 17], 0, 2)], [0, 1, 2], [[0, 1, 2], [0, 1, 2], [0, 1, 2], [0, 1, 2], [0, 1, 2], [0, 1, 2], [0, 1, 2], [0, 1, 2], [0, 1, 2], [0, 1, 2], [0, 1, 2], [0, 1, 2], [0, 1, 2], [0, 1, 2], [0, 1, 2], [1, 2], [1, 2], [2]], [[0], [0], [0, 1], [0, 1], [0, 1], [0], [0], [0], [0], [0], [0], [0], [0], [0], [0], [0], [0, 1], [0, 1]], [], 2⟩)]),
  (182, [(1, ⟨[(0, [0]), (0, [1]), (0, [0]), (0, [3]), (0, [0]), (0, [3]), (1, [15, 16]), (1, [17]), (0, [0]), (0, [1]), (1, [19, 20]), (1, [21]), (1, [11, 12]), (2, [23, 18]), (1, [13, 14]), (2, [24, 22])], [([], 0, 0), ([13], 0, 1), ([13, 15], 0, 2)], [0, 1, 2], [[0, 1, 2], [0, 1, 2], [0, 1, 2], [0, 1, 2], [0, 1, 2], [0, 1, 2], [0, 1, 2], [0, 1, 2], [0, 1, 2], [0, 1, 2], [0, 1, 2], [0, 1, 2], [0, 1, 2], [1, 2], [1, 2], [2]], [[0], [0], [0, 1], [0, 1], [0], [0], [0], [0], [0], [0], [0], [0], [0], [0], [0, 1], [0, 1]], [], 2⟩),
    (3, ⟨[(0, [9]), (0, [10]), (0, [29, 30]), (0, [31]), (0, [0]), (0, [1]), (1, [33, 34]), (1, [35]), (0, [0]), (0, [9]), (1, [37, 38]), (1, [39]), (2, [36, 40]), (0, [41]), (0, [32, 42])], [([], 0, 0), ([12], 0, 1)], [0, 1], [[0, 1], [0, 1], [0, 1], [0, 1], [0, 1], [0, 1], [0, 1], [0, 1], [0, 1], [0, 1], [0, 1], [0, 1], [1], [1], [1]], [[0], [0], [0], [0], [0], [0], [0], [0], [0], [0], [0], [0], [0], [0, 1], [0, 1]], [], 1⟩),
    (5, ⟨[(0, [9]), (0, [10]), (0, [46, 47]), (0, [48]), (0, [0]), (0, [1]), (1, [50, 51]), (1, [52]), (0, [0]), (0, [10]), (1, [54, 55]), (1, [56]), (2, [53, 57]), (0, [49, 58])], [([], 0, 0), ([12], 0, 1)], [0, 1], [[0, 1], [0, 1], [0, 1], [0, 1], [0, 1], [0, 1], [0, 1], [0, 1], [0, 1], [0, 1], [0, 1], [0, 1], [1], [1]], [[0], [0], [0], [0], [0], [0], [0], [0], [0], [0], [0], [0], [0], [0, 1]], [], 1⟩),
    (8, ⟨[(0, [0]), (0, [9]), (0, [0]), (0, [10]), (0, [0]), (0, [10]), (1, [69, 70]), (1, [71]), (0, [0]), (0, [9]), (1, [73, 74]), (1, [75]), (1, [65, 66]), (2, [77, 72]), (1, [67, 68]), (2, [78, 76])], [([], 0, 0), ([13], 0, 1), ([13, 15], 0, 2)], [0, 1, 2], [[0, 1, 2], [0, 1, 2], [0, 1, 2], [0, 1, 2], [0, 1, 2], [0, 1, 2], [0, 1, 2], [0, 1, 2], [0, 1, 2], [0, 1, 2], [0, 1, 2], [0, 1, 2], [0, 1, 2], [1, 2], [1, 2], [2]], [[0], [0], [0, 1], [0, 1], [0], [0], [0], [0], [0], [0], [0], [0], [0], [0], [0, 1], [0, 1]], [], 2⟩)]),
  (183, [(1, ⟨[(0, [0]), (0, [1]), (0, [0]), (0, [3]), (0, [0]), (0, [3]), (1, [16, 17]), (1, [18]), (0, [0]), (0, [1]), (1, [20, 21]), (1, [22]), (1, [12, 13]), (2, [24, 19]), (1, [14, 15]), (2, [25, 23])], [([], 0, 0), ([13], 0, 1), ([13, 15], 0, 2)], [0, 1, 2], [[0, 1, 2], [0, 1, 2], [0, 1, 2], [0, 1, 2], [0, 1, 2], [0, 1, 2], [0, 1, 2], [0, 1, 2], [0, 1, 2], [0, 1, 2], [0, 1, 2], [0, 1, 2], [0, 1, 2], [1, 2], [1, 2], [2]], [[0], [0], [0, 1], [0, 1], [0], [0], [0], [0], [0], [0], [0], [0], [0], [0], [0, 1], [0, 1]], [], 2⟩),
    (3, ⟨[(0, [10]), (0, [11]), (0, [30, 31]), (0, [32]), (0, [0]), (0, [10]), (1, [34, 35]), (1, [36]), (0, [0]), (0, [1]), (1, [38, 39]), (1, [40]), (2, [37, 41]), (0, [33, 42])], [([], 0, 0), ([12], 0, 1)], [0, 1], [[0, 1], [0, 1], [0, 1], [0, 1], [0, 1], [0, 1], [0, 1], [0, 1], [0, 1], [0, 1], [0, 1], [0, 1], [1], [1]], [[0], [0], [0], [0], [0], [0], [0], [0], [0], [0], [0], [0], [0], [0, 1]], [], 1⟩),
    (5, ⟨[(0, [10]), (0, [11]), (0, [46, 47]), (0, [48]), (0, [0]), (0, [11]), (1, [50, 51]), (1, [52]), (0, [0]), (0, [1]), (1, [54, 55]), (1, [56]), (2, [53, 57]), (0, [58]), (0, [49, 59])], [([], 0, 0), ([12], 0, 1)], [0, 1], [[0, 1], [0, 1], [0, 1], [0, 1], [0, 1], [0, 1], [0, 1], [0, 1], [0, 1], [0, 1], [0, 1], [0, 1], [1], [1], [1]], [[0], [0], [0], [0], [0], [0], [0], [0], [0], [0], [0], [0], [0], [0, 1], [0, 1]], [], 1⟩),
    (8, ⟨[(0, [0]), (0, [11]), (0, [0]), (0, [1]), (0, [0]), (0, [1]), (1, [70, 71]), (1, [72]), (0, [0]), (0, [11]), (1, [74, 75]), (1, [76]), (1, [66, 67]), (2, [78, 73]), (1, [68, 69]), (2, [79, 77])], [([], 0, 0), ([13], 0, 1), ([13, 15], 0, 2)], [0, 1, 2], [[0, 1, 2], [0, 1, 2], [0, 1, 2], [0, 1, 2], [0, 1, 2], [0, 1, 2], [0, 1, 2], [0, 1, 2], [0, 1, 2], [0, 1, 2], [0, 1, 2], [0, 1, 2], [0, 1, 2], [1, 2], [1, 2], [2]], [[0], [0], [0, 1], [0, 1], [0], [0], [0], [0], [0], [0], [0], [0], [0], [0], [0, 1], [0, 1]], [], 2⟩),
    (10, ⟨[(0, [0]), (0, [10]), (0, [0]), (0, [11]), (0, [0]), (0, [11]), (1, [85, 86]), (1, [87]), (0, [0]), (0, [10]), (1, [89, 90]), (1, [91]), (1, [81, 82]), (2, [93, 88]), (1, [83, 84]), (2, [94, 92])], [([], 0, 0), ([13], 0, 1), ([13, 15], 0, 2)], [0, 1, 2], [[0, 1, 2], [0, 1, 2], [0, 1, 2], [0, 1, 2], [0, 1, 2], [0, 1, 2], [0, 1, 2], [0, 1, 2], [0, 1, 2], [0, 1, 2], [0, 1, 2], [0, 1, 2], [0, 1, 2], [1, 2], [1, 2], [2]], [[0], [0], [0, 1], [0, 1], [0], [0], [0], [0], [0], [0], [0], [0], [0], [0], [0, 1], [0, 1]], [], 2⟩),
    (13, ⟨[(0, [10]), (0, [11]), (0, [99, 100]), (0, [101]), (0, [0]), (0, [10]), (1, [103, 104]), (1, [105]), (0, [0]), (0, [1]), (1, [107, 108]), (1, [109]), (2, [106, 110]), (0, [102, 111])], [([], 0, 0), ([12], 0, 1)], [0, 1], [[0, 1], [0, 1], [0, 1], [0, 1], [0, 1], [0, 1], [0, 1], [0, 1], [0, 1], [0, 1], [0, 1], [0, 1], [1], [1]], [[0], [0], [0], [0], [0], [0], [0], [0], [0], [0], [0], [0], [0], [0, 1]], [], 1⟩),
    (15, ⟨[(0, [10]), (0, [11]), (0, [115, 116]), (0, [117]), (0, [0]), (0, [11]), (1, [119, 120]), (1, [121]), (0, [0]), (0, [1]), (1, [123, 124]), (1, [125]), (2, [122, 126]), (0, [127]), (0, [118, 128])], [([], 0, 0), ([12], 0, 1)], [0, 1], [[0, 1], [0, 1], [0, 1], [0, 1], [0, 1], [0, 1], [0, 1], [0, 1], [0, 1], [0, 1], [0, 1], [0, 1], [1], [1], [1]], [[0], [0], [0], [0], [0], [0], [0], [0], [0], [0], [0], [0], [0], [0, 1], [0, 1]], [], 1⟩),
    (18, ⟨[(0, [0]), (0, [10]), (0, [0]), (0, [11]), (0, [0]), (0, [11]), (1, [139, 140]), (1, [141]), (0, [0]), (0, [10]), (1, [143, 144]), (1, [145]), (1, [135, 136]), (2, [147, 142]), (1, [137, 138]), (2, [148, 146])], [([], 0, 0), ([13], 0, 1), ([13, 15], 0, 2)], [0, 1, 2], [[0, 1, 2], [0, 1, 2], [0, 1, 2], [0, 1, 2], [0, 1, 2], [0, 1, 2], [0, 1, 2], [0, 1, 2], [0, 1, 2], [0, 1, 2], [0, 1, 2], [0, 1, 2], [0, 1, 2], [1, 2], [1, 2], [2]], [[0], [0], [0, 1], [0, 1], [0], [0], [0], [0], [0], [0], [0], [0], [0], [0], [0, 1], [0, 1]], [], 2⟩),
    (21, ⟨[(0, [0]), (0, [11]), (0, [0]), (0, [1]), (0, [0]), (0, [1]), (1, [157, 158]), (1, [159]), (0, [0]), (0, [11]), (1, [161, 162]), (1, [163]), (1, [153, 154]), (2, [165, 160]), (1, [155, 156]), (2, [166, 164])], [([], 0, 0), ([13], 0, 1), ([13, 15], 0, 2)], [0, 1, 2], [[0, 1, 2], [0, 1, 2], [0, 1, 2], [0, 1, 2], [0, 1, 2], [0, 1, 2], [0, 1, 2], [0, 1, 2], [0, 1, 2], [0, 1, 2], [0, 1, 2], [0, 1, 2], [0, 1, 2], [1, 2], [1, 2], [2]], [[0], [0], [0, 1], [0, 1], [0], [0], [0], [0], [0], [0], [0], [0], [0], [0], [0, 1], [0, 1]], [], 2⟩)]),
  (192, [(3, ⟨[(0, [9]), (0, [17]), (0, [2]), (0, [18, 19]), (0, [20]), (0, [0]), (0, [3]), (0, [9]), (0, [23, 24]), (1, [22, 25]), (1, [26]), (0, [0]), (0, [3]), (0, [9]), (0, [29, 30]), (0, [31]), (1, [28, 32]), (1, [33]), (2, [27, 34]), (0, [21, 35])], [([], 0, 0), ([18], 0, 1)], [0, 1], [[0, 1], [0, 1], [0, 1], [0, 1], [0, 1], [0, 1], [0, 1], [0, 1], [0, 1], [0, 1], [0, 1], [0, 1], [0, 1], [0, 1], [0, 1], [0, 1], [0, 1], [0, 1], [1], [1]], [[0], [0], [0], [0], [0], [0], [0], [0], [0], [0], [0], [0], [0], [0], [0], [0], [0], [0], [0], [0, 1]], [], 1⟩),
    (5, ⟨[(0, [0]), (0, [3]), (0, [8]), (0, [40, 41]), (1, [39, 42]), (1, [43]), (0, [0]), (0, [3]), (0, [9]), (0, [46, 47]), (1, [45, 48]), (1, [49]), (2, [44, 50]), (0, [51])], [([], 0, 0), ([12], 0, 1)], [0, 1], [[0, 1], [0, 1], [0, 1], [0, 1], [0, 1], [0, 1], [0, 1], [0, 1], [0, 1], [0, 1], [0, 1], [0, 1], [1], [1]], [[0], [0], [0], [0], [0], [0], [0], [0], [0], [0], [0], [0], [0], [0, 1]], [], 1⟩),
    (6, ⟨[(0, [0]), (0, [3]), (0, [8]), (0, [54, 55]), (0, [0]), (0, [3]), (0, [9]), (0, [58, 59]), (0, [0]), (0, [3]), (0, [9]), (0, [62, 63]), (1, [61, 64]), (1, [65]), (0, [0]), (0, [3]), (0, [8]), (0, [68, 69]), (1, [67, 70]), (1, [71]), (1, [53, 56]), (2, [73, 66]), (1, [57, 60]), (2, [74, 72])], [([], 0, 0), ([21], 0, 1), ([21, 23], 0, 2)], [0, 1, 2], [[0, 1, 2], [0, 1, 2], [0, 1, 2], [0, 1, 2], [0, 1, 2], [0, 1, 2], [0, 1, 2], [0, 1, 2], [0, 1, 2], [0, 1, 2], [0, 1, 2], [0, 1, 2], [0, 1, 2], [0, 1, 2], [0, 1, 2], [0, 1, 2], [0, 1, 2], [0, 1, 2], [0, 1, 2], [0, 1, 2], [0, 1, 2], [1, 2], [1, 2], [2]], [[0], [0], [0], [0], [0, 1], [0, 1], [0, 1], [0, 1], [0], [0], [0], [0], [0], [0], [0], [0], [0], [0], [0], [0], [0], [0], [0, 1], [0, 1]], [], 2⟩)]),
  (194, [(1, ⟨[(0, [0]), (0, [3]), (1, [4]), (0, [0]), (0, [6]), (1, [7]), (0, [8]), (0, [5, 9]), (0, [3]), (2, [11, 10])], [([], 0, 0), ([9], 0, 1)], [0, 1], [[0, 1], [0, 1], [0, 1], [0, 1], [0, 1], [0, 1], [0, 1], [0, 1], [0, 1], [1]], [[0], [0], [0], [0], [0], [0], [0], [0], [0], [0]], [], 1⟩),
    (2, ⟨[(0, [0]), (0, [12]), (1, [13]), (0, [0]), (0, [15]), (1, [16]), (0, [17]), (0, [14, 18]), (0, [12]), (2, [20, 19])], [([], 0, 0), ([9], 0, 1)], [0, 1], [[0, 1], [0, 1], [0, 1], [0, 1], [0, 1], [0, 1], [0, 1], [0, 1], [0, 1], [1]], [[0], [0], [0], [0], [0], [0], [0], [0], [0], [0]], [], 1⟩),
    (3, ⟨[(0, [0]), (0, [21]), (1, [22]), (0, [0]), (0, [24]), (1, [25]), (0, [26]), (0, [23, 27]), (0, [21]), (2, [29, 28])], [([], 0, 0), ([9], 0, 1)], [0, 1], [[0, 1], [0, 1], [0, 1], [0, 1], [0, 1], [0, 1], [0, 1], [0, 1], [0, 1], [1]], [[0], [0], [0], [0], [0], [0], [0], [0], [0], [0]], [], 1⟩)]),
  (202, [(1, ⟨[(0, [0]), (0, [2]), (1, [10, 11]), (1, [12]), (0, [0]), (0, [1]), (1, [14, 15]), (1, [16]), (2, [13, 17])], [([], 0, 0), ([8], 0, 1)], [0, 1], [[0, 1], [0, 1], [0, 1], [0, 1], [0, 1], [0, 1], [0, 1], [0, 1], [1]], [[0], [0], [0], [0], [0], [0], [0], [0], [0]], [], 1⟩)])]
def pu : Nat → Bool := memF [19, 23, 25, 27, 29, 31, 34, 76, 77, 78, 79, 80, 81, 82, 83, 85, 86, 87, 88, 92, 93, 94, 97, 98, 99, 102, 137, 138, 139, 143, 144, 146, 148, 149, 174, 181, 184, 185, 186, 187]
abbrev cfg : List EN → Cfg := cfgT (look2 planRows) pu
def tab0 : List EN := []
theorem mixed : Try.prog.follows .mixedOrders = true := by kernel_rfl
theorem tb0 : Tab Try.prog cfg tab0 := .nil
end Runbegun5
theorem law_begun5 : AC Try.prog 19 [] [] 0 false (fun r _ _ => r = .bool true) := ac_yes Runbegun5.mixed Runbegun5.tb0 300 (by kernel_rfl)
end Go.Proofs.Ytloddmbbfkejcaa.Abs
end
section
/-
  A transaction comes back, whatever stands behind; cut off it is none.
-/
namespace Go.Proofs.Ytloddmbbfkejcaa.Abs

theorem mayRK {t : TX} (h : mayTxB t = true) : risingB (t.reads.map RD.key) = true := by
  unfold mayTxB at h
  simp only [Bool.and_eq_true] at h
  exact h.2.2.2.2.2.1
theorem mayWK {t : TX} (h : mayTxB t = true) : risingB (t.writes.map WR.key) = true := by
  unfold mayTxB at h
  simp only [Bool.and_eq_true] at h
  exact h.2.2.2.2.2.2.2.1

theorem putTx_le {t : TX} (h : mayTxB t = true) (hv : ∀ r ∈ t.reads, r.ver ≤ 9223372036854775807) : (putTx t).length ≤ 700 := by
  have hk := mayRK h
  have hk2 := mayWK h
  unfold mayTxB at h
  simp only [Bool.and_eq_true, decide_eq_true_eq] at h
  obtain ⟨t1, t2, t3, t4, t5, t6, t7, t8, t9, t10⟩ := h
  rw [List.all_eq_true] at t9 t10
  have a1 := putNum_le t.ses.toNat (by omega)
  have a2 := putNum_le t.seq.toNat (by omega)
  have a3 := putNum_le t.reads.length (by omega)
  have a4 := putNum_le t.writes.length (by omega)
  have b1 := flat_le (ll := t.reads.map rdBytes) (m := 60) (fun l hl => by
    obtain ⟨r, hr, rfl⟩ := List.mem_map.1 hl
    exact rdBytes_le r (mayB_len (rising_key hk _ (List.mem_map_of_mem hr))).2 (readB_val (t9 r hr)).2 (hv r hr))
  have b2 := flat_le (ll := t.writes.map wrBytes) (m := 60) (fun l hl => by
    obtain ⟨r, hr, rfl⟩ := List.mem_map.1 hl
    have := t10 r hr
    unfold writeB at this
    simp only [Bool.and_eq_true, decide_eq_true_eq] at this
    exact wrBytes_le r (mayB_len (rising_key hk2 _ (List.mem_map_of_mem hr))).2 this.1)
  rw [List.length_map] at b1 b2
  unfold putTx txMid txHead
  simp only [List.flatten_cons, List.flatten_nil, List.append_nil, List.length_append]
  omega

set_option maxRecDepth 100000 in
set_option maxHeartbeats 8000000 in
theorem law_TxnBack (x0 : List UInt8) (x1 : List UInt8) (x2 : Int)
    (g0 : (fun l : List UInt8 => l.length ≤ reachBytes) x0)
    (g1 : (fun l : List UInt8 => l.length ≤ reachBytes) x1)
    (g2 : (fun n : Int => (Lit.int .u16 n).wf = true) x2) :
    AC Try.prog 4 [(fun l : List UInt8 => AV.sl 1 (bl l)) x0, (fun l : List UInt8 => AV.sl 1 (bl l)) x1, (AV.int .u16) x2] [] 0 false (fun r _ _ => r = .bool true) := by
  have hb := law_begun5.yes
  have hbl0 : (bl x0).length = x0.length := bl_len x0
  have hbl1 : (bl x1).length = x1.length := bl_len x1
  by_cases h0 : x0.length ≤ 30
  · by_cases h1 : x1.length ≤ 20
    · have hm0 := pk_Made x0
      have ht0 := pk_Txn x0 0 200 (by omega) (by omega) (by omega)
      obtain ⟨hr0, hw0⟩ := pkTx_len x0 0 200
      have may0 := pkTx_may x0 0 200
      have hv0 := pkTx_ver x0 0 200 (by omega)
      generalize (pkTx x0 0 200).2 = n0 at ht0
      generalize (pkTx x0 0 200).1 = t at ht0 may0 hv0 hr0 hw0
      have hvv : ∀ r ∈ t.reads, r.ver ≤ 9223372036854775807 := fun r hr => by have := hv0 r hr; omega
      have hp := txn_Put t may0 hvv
      have hmay := txn_May t (by omega) (by omega) (fun r hr => by have := (mayB_len (rising_key (mayRK may0) _ (List.mem_map_of_mem hr))).2; omega) (fun r hr => by have := (mayB_len (rising_key (mayWK may0) _ (List.mem_map_of_mem hr))).2; omega)
      rw [may0] at hmay
      have hty := txn_Take_yes (putTx t ++ x1) (by rw [List.length_append]; have := putTx_le may0 hvv; omega) (takeOk_put t x1 may0 hvv)
      obtain ⟨e1, e2⟩ := take_put t x1 may0 hvv
      rw [e1, e2] at hty
      dsimp only at hty
      have hrp : (t.reads.map rdA).all AV.plain = true := by simp [AV.plain, plains, rdA, sb]
      have hwp : (t.writes.map wrA).all AV.plain = true := by simp [AV.plain, plains, wrA, sb]
      have hX := putTx_pos2 t
      have hXl := putTx_le may0 hvv
      have hblX : (bl (putTx t)).length = (putTx t).length := bl_len _
      have hno : ∀ m, m < (putTx t).length → AC Try.prog 34 [.sl 1 (bl ((putTx t).take m))] [] 0 false (fun v h nx => v = .tup [txA ⟨0, 0, [], []⟩, .int .i64 0, .bool false] ∧ h = [] ∧ nx = 0) := fun m hm => txn_Take_no _ (by rw [List.length_take]; omega) (take_short t m may0 hm)
      have hsame := ref_SameTxn t t (by omega) (by omega) (by omega) (by omega)
      rw [(sameTxB_iff t t).2 rfl] at hsame
      have hg2 : 0 ≤ x2 ∧ x2 ≤ 65535 := by
        have h := g2
        simp only [Lit.wf, Bool.and_eq_true, decide_eq_true_eq] at h
        have e1 : IntKind.u16.min = 0 := rfl
        have e2 : IntKind.u16.max = 65535 := rfl
        omega
      have hz0 : 0 ≤ x2 % ((bl (putTx t)).length : Nat) := Int.emod_nonneg _ (by omega)
      have hz1 : x2 % ((bl (putTx t)).length : Nat) < ((bl (putTx t)).length : Nat) := Int.emod_lt_of_pos _ (by omega)
      have hz2 := hno (x2 % ((bl (putTx t)).length : Nat)).toNat (by omega)
      rw [show bl ((putTx t).take (x2 % ((bl (putTx t)).length : Nat)).toNat) = List.take ((x2 % ((bl (putTx t)).length : Nat)).toNat - Int.toNat 0) (List.drop (Int.toNat 0) (bl (putTx t))) from by simp [bl, List.map_take]] at hz2
      clear hno e1 e2 may0 hvv hv0
      generalize putTx t = X at *
      obtain ⟨ses, seq, rl, wl⟩ := t
      dsimp only [txA] at *
      have hrl : (rl.map rdA).length = rl.length := List.length_map _
      have hwl : (wl.map wrA).length = wl.length := List.length_map _
      have hyx : [] ++ bl X ++ bl x1 = bl (X ++ x1) := by simp [bl]
      have hpx : ([] ++ bl X ++ bl x1).all AV.plain = true := by simp [bl, AV.plain]
      refine ac_fn Try.func4 rfl rfl rfl rfl (fun w0 S0 r0 => ?_)
      refine aw_seq ?_
      refine aw_region ?_
      refine st_p (mva rfl) rfl ?_
      refine al_nil ?_
      refine nm ?_
      refine aw_seq ?_
      refine aw_seq ?_
      refine aw_region ?_
      -- STOP: call diwan/diwanlaw5.begun() -> 15
      refine st_o ((op_callq (hb) Try.func19 ⟨rfl, rfl⟩ rfl rfl (fun nx => .nil) (by rintro _ _ _ ⟨rfl, rfl, rfl⟩; exact .same rfl)).ok) rfl ?_
      refine st_p (op_notT rfl) rfl ?_
      refine al_nil ?_
      refine nm ?_
      -- IF t16
      refine aw_no (rfl) ?_
      refine aw_skip ?_
      refine nm ?_
      refine aw_seq ?_
      refine aw_seq ?_
      refine aw_region ?_
      refine st_p (mv rfl) rfl ?_
      refine st_p (op_len Try.underlying22 rfl) rfl ?_
      refine st_p (OpP.conv (op_gt rfl rfl) (no (by first | assumption | omega))) rfl ?_
      refine st_p (mv rfl) rfl ?_
      refine st_pg rfl rfl rfl (mv rfl) rfl ?_
      refine st_pg rfl rfl rfl (op_len Try.underlying22 rfl) rfl ?_
      refine st_pg rfl rfl rfl (OpP.conv (op_gt rfl rfl) (no (by first | assumption | omega))) rfl ?_
      refine st_p (pkF rfl rfl) rfl ?_
      refine al_nil ?_
      refine nm ?_
      -- IF t24
      refine aw_no (rfl) ?_
      refine aw_skip ?_
      refine nm ?_
      refine aw_seq ?_
      refine aw_region ?_
      refine st_p (mv rfl) rfl ?_
      -- STOP: call diwan/diwanplay.Made(t25) -> 26
      refine st_o (op_callg [] 0 true [] [] (hm0) Try.func21 ⟨rfl, rfl⟩ rfl rfl rfl rfl (by omega) (by intro p hp; cases hp) rfl (.cons (.same (by rfl)) .nil) rfl rfl rfl) rfl ?_
      -- STOP: call (*diwan/diwanplay.Picks).Txn(t26, ('app', 'Operand.const', [('app', 'Value.int', ['IntKind.i64', 200])])) -> 27
      refine st_o (op_callg [(0, 0)] 1 true [(0, pkB x0 0)] [0] (ht0) Try.func22 ⟨rfl, rfl⟩ rfl rfl rfl rfl (by omega) (by intro p hp; simp only [List.mem_cons, List.not_mem_nil, or_false] at hp; rcases hp with rfl <;> exact ⟨by first | rfl | ((simp [hget, swp, Blk.ren, AV.ren, ints, Function.comp_def]) <;> rfl), rfl⟩) rfl (.cons (.same (by rfl)) (.cons (.same (by rfl)) .nil)) rfl rfl rfl) rfl ?_
      refine st_o (op_alloc a26 rfl rfl) rfl ?_
      refine st_n (stA z26 rfl rfl rfl rfl rfl rfl rfl rfl rfl rfl) ?_
      refine al_nil ?_
      refine nm ?_
      refine aw_seq ?_
      refine aw_region ?_
      refine st_p (op_loadA Try.underlying26 rfl z26 rfl rfl rfl rfl) rfl ?_
      -- STOP: call diwan/txn.Put(t28) -> 29
      refine st_o ((op_callq (hp) Try.func25 ⟨rfl, rfl⟩ rfl rfl (fun nx => (.cons (.same (by rfl)) .nil)) (by rintro _ _ _ ⟨rfl, rfl, rfl⟩; exact .whole rfl (by simp) (by first | rfl | simp [AV.plain, plains, bl_plain]))).ok) rfl ?_
      refine st_p (mva rfl) rfl ?_
      refine al_nil ?_
      refine nm ?_
      refine aw_seq ?_
      refine aw_seq ?_
      refine aw_region ?_
      refine st_p (mv rfl) rfl ?_
      refine st_p (op_len Try.underlying22 rfl) rfl ?_
      refine st_p (OpP.conv (op_eq rfl rfl) (no (by first | assumption | omega))) rfl ?_
      refine st_p (mv rfl) rfl ?_
      refine st_pg rfl rfl rfl (op_loadA Try.underlying26 rfl z26 rfl rfl rfl rfl) rfl ?_
      -- STOP: call diwan/txn.May(t34) -> 35
      refine st_og rfl rfl rfl ((op_callq (hmay) Try.func23 ⟨rfl, rfl⟩ rfl rfl (fun nx => (.cons (.same (by rfl)) .nil)) (by rintro _ _ _ ⟨rfl, rfl, rfl⟩; exact .same rfl)).ok) rfl ?_
      refine st_pg rfl rfl rfl (op_notT rfl) rfl ?_
      refine st_p (pkF rfl rfl) rfl ?_
      refine al_nil ?_
      refine nm ?_
      -- IF t37
      refine aw_no (rfl) ?_
      refine aw_skip ?_
      refine nm ?_
      refine aw_seq ?_
      refine aw_region ?_
      refine st_o (bsl Try.underlying22 i5 o5 (by decide) rfl rfl rfl (by decide)) rfl ?_
      refine st_p (mv rfl) rfl ?_
      refine st_o (op_app Try.underlying22 Try.underlying22 (.inl ⟨_, rfl⟩) i5 o5 rfl rfl rfl (by first | rfl | omega | (simp; done) | (simp; omega)) ((SrcA.sl (.inr trivial)).ok rfl (by intro z hz; simp only [List.mem_singleton, List.drop_zero, List.take_succ_cons, List.take_zero, List.mem_cons, List.not_mem_nil, or_false, List.mem_map] at hz; first | (subst hz; rfl) | (obtain ⟨_, _, rfl⟩ := hz; rfl) | (rcases hz with rfl | rfl <;> rfl))) (by simp; try omega) rfl) rfl ?_
      refine st_p (mv rfl) rfl ?_
      refine st_o (op_app Try.underlying22 Try.underlying22 (.inl ⟨_, rfl⟩) i5 o5 rfl rfl rfl (by first | rfl | omega | (simp; done) | (simp; omega)) ((SrcA.sl (.inr trivial)).ok rfl (by intro z hz; simp only [List.mem_singleton, List.drop_zero, List.take_succ_cons, List.take_zero, List.mem_cons, List.not_mem_nil, or_false, List.mem_map] at hz; first | (subst hz; rfl) | (obtain ⟨_, _, rfl⟩ := hz; rfl) | (rcases hz with rfl | rfl <;> rfl))) (by simp; try omega) rfl) rfl ?_
      -- STOP: call diwan/txn.Take(t43) -> 44
      refine st_o ((op_callq (hty) Try.func34 ⟨rfl, rfl⟩ rfl rfl (fun nx => (.cons ((.whole rfl rfl rfl rfl hyx hpx)) .nil)) (by rintro _ _ _ ⟨rfl, rfl, rfl⟩; exact (Fzs.tup (.cons (Fzs.agg (.cons (.same rfl) (.cons (.same rfl) (.cons (.whole rfl hrl.symm hrp) (.cons (.whole rfl hwl.symm hwp) .nil))))) (.cons (.same rfl) (.cons (.same rfl) .nil)))))).ok) rfl ?_
      refine st_p (mv rfl) rfl ?_
      refine st_p (op_extract rfl rfl) rfl ?_
      refine st_p (op_extract rfl rfl) rfl ?_
      refine st_p (op_extract rfl rfl) rfl ?_
      refine st_o (op_alloc a26 rfl rfl) rfl ?_
      refine st_n (stA z26 rfl rfl rfl rfl rfl rfl rfl rfl rfl rfl) ?_
      refine st_p (mva rfl) rfl ?_
      refine st_p (mva rfl) rfl ?_
      refine al_nil ?_
      refine nm ?_
      refine aw_seq ?_
      refine aw_region ?_
      refine st_p (mv rfl) rfl ?_
      refine st_p (mv rfl) rfl ?_
      refine st_p (op_convi (by rw [Try.underlying43]; rfl) Try.underlying3 rfl (by omega)) rfl ?_
      refine st_p (mv rfl) rfl ?_
      refine st_p (op_len Try.underlying22 rfl) rfl ?_
      refine st_p (op_remi rfl rfl (by omega) (by omega)) rfl ?_
      refine st_p (op_sliceL Try.underlying22 z5 rfl (by exact rfl) (by exact ⟨_, rfl⟩) (by first | omega | (simp only [bl_len, List.length_map, List.length_append, List.length_take, List.length_drop]; omega)) (by first | omega | (simp only [bl_len, List.length_map, List.length_append, List.length_take, List.length_drop]; omega)) (by first | omega | (simp only [bl_len, List.length_map, List.length_append, List.length_take, List.length_drop]; omega))) rfl ?_
      -- STOP: call diwan/txn.Take(t55) -> 56
      refine st_o ((op_callq (hz2) Try.func34 ⟨rfl, rfl⟩ rfl rfl (fun nx => (.cons (.same (by rfl)) .nil)) (by rintro _ _ _ ⟨rfl, rfl, rfl⟩; exact .same rfl)).ok) rfl ?_
      refine st_p (mv rfl) rfl ?_
      refine st_p (op_extract rfl rfl) rfl ?_
      refine st_p (op_extract rfl rfl) rfl ?_
      refine st_p (op_extract rfl rfl) rfl ?_
      refine st_o (op_alloc a26 rfl rfl) rfl ?_
      refine st_n (stA z26 rfl rfl rfl rfl rfl rfl rfl rfl rfl rfl) ?_
      refine st_p (mva rfl) rfl ?_
      refine st_p (mva rfl) rfl ?_
      refine al_nil ?_
      refine nm ?_
      refine aw_seq ?_
      refine aw_region ?_
      refine st_p (mv rfl) rfl ?_
      refine st_p (mv rfl) rfl ?_
      refine st_pg rfl rfl rfl (mv rfl) rfl ?_
      refine st_pg rfl rfl rfl (mv rfl) rfl ?_
      refine st_pg rfl rfl rfl (op_len Try.underlying22 rfl) rfl ?_
      refine st_pg rfl rfl rfl (OpP.conv (op_eq rfl rfl) (yes (by first | assumption | omega))) rfl ?_
      refine st_p (pkT rfl rfl) rfl ?_
      refine st_p (mv rfl) rfl ?_
      refine st_pg rfl rfl rfl (op_loadA Try.underlying26 rfl z26 rfl rfl rfl rfl) rfl ?_
      refine st_pg rfl rfl rfl (op_loadA Try.underlying26 rfl z26 rfl rfl rfl rfl) rfl ?_
      -- STOP: call diwan/diwanref1.SameTxn(t68, t69) -> 70
      refine st_og rfl rfl rfl ((op_callq (hsame) Try.func28 ⟨rfl, rfl⟩ rfl rfl (fun nx => (.cons (.same (by rfl)) (.cons (.same (by rfl)) .nil))) (by rintro _ _ _ ⟨rfl, rfl, rfl⟩; exact .same rfl)).ok) rfl ?_
      refine st_p (pkT rfl rfl) rfl ?_
      refine st_p (mv rfl) rfl ?_
      refine st_pg rfl rfl rfl (mv rfl) rfl ?_
      refine st_pg rfl rfl rfl (op_notF rfl) rfl ?_
      refine st_p (pkT rfl rfl) rfl ?_
      refine st_p (mva rfl) rfl ?_
      refine al_nil ?_
      refine nm ?_
      refine aw_ret ?_
      exact ret_a ⟨[(6, .bool true)], [], 0⟩ (le_to [] rfl rfl rfl rfl rfl ⟨rfl, trivial⟩ trivial) (res1 Try.results4) (.inr ⟨rfl, rfl⟩) rfl
    · skip
      refine ac_fn Try.func4 rfl rfl rfl rfl (fun w0 S0 r0 => ?_)
      refine aw_seq ?_
      refine aw_region ?_
      refine st_p (mva rfl) rfl ?_
      refine al_nil ?_
      refine nm ?_
      refine aw_seq ?_
      refine aw_seq ?_
      refine aw_region ?_
      -- STOP: call diwan/diwanlaw5.begun() -> 15
      refine st_o ((op_callq (hb) Try.func19 ⟨rfl, rfl⟩ rfl rfl (fun nx => .nil) (by rintro _ _ _ ⟨rfl, rfl, rfl⟩; exact .same rfl)).ok) rfl ?_
      refine st_p (op_notT rfl) rfl ?_
      refine al_nil ?_
      refine nm ?_
      -- IF t16
      refine aw_no (rfl) ?_
      refine aw_skip ?_
      refine nm ?_
      refine aw_seq ?_
      refine aw_seq ?_
      refine aw_region ?_
      refine st_p (mv rfl) rfl ?_
      refine st_p (op_len Try.underlying22 rfl) rfl ?_
      refine st_p (OpP.conv (op_gt rfl rfl) (no (by first | assumption | omega))) rfl ?_
      refine st_p (mv rfl) rfl ?_
      refine st_pg rfl rfl rfl (mv rfl) rfl ?_
      refine st_pg rfl rfl rfl (op_len Try.underlying22 rfl) rfl ?_
      refine st_pg rfl rfl rfl (OpP.conv (op_gt rfl rfl) (yes (by first | assumption | omega))) rfl ?_
      refine st_p (pkF rfl rfl) rfl ?_
      refine al_nil ?_
      refine nm ?_
      -- IF t24
      refine aw_yes (rfl) ?_
      refine aw_seq ?_
      refine aw_region ?_
      refine st_p (mva rfl) rfl ?_
      refine al_nil ?_
      refine nm ?_
      refine aw_ret ?_
      refine rs ?_
      exact ret_v (res1 Try.results4) (.inr ⟨rfl, rfl⟩) rfl
  · skip
    refine ac_fn Try.func4 rfl rfl rfl rfl (fun w0 S0 r0 => ?_)
    refine aw_seq ?_
    refine aw_region ?_
    refine st_p (mva rfl) rfl ?_
    refine al_nil ?_
    refine nm ?_
    refine aw_seq ?_
    refine aw_seq ?_
    refine aw_region ?_
    -- STOP: call diwan/diwanlaw5.begun() -> 15
    refine st_o ((op_callq (hb) Try.func19 ⟨rfl, rfl⟩ rfl rfl (fun nx => .nil) (by rintro _ _ _ ⟨rfl, rfl, rfl⟩; exact .same rfl)).ok) rfl ?_
    refine st_p (op_notT rfl) rfl ?_
    refine al_nil ?_
    refine nm ?_
    -- IF t16
    refine aw_no (rfl) ?_
    refine aw_skip ?_
    refine nm ?_
    refine aw_seq ?_
    refine aw_seq ?_
    refine aw_region ?_
    refine st_p (mv rfl) rfl ?_
    refine st_p (op_len Try.underlying22 rfl) rfl ?_
    refine st_p (OpP.conv (op_gt rfl rfl) (yes (by first | assumption | omega))) rfl ?_
    refine st_p (mv rfl) rfl ?_
    refine st_s rfl rfl rfl rfl rfl ?_
    refine st_s rfl rfl rfl rfl rfl ?_
    refine st_s rfl rfl rfl rfl rfl ?_
    refine st_p (pkT rfl rfl) rfl ?_
    refine al_nil ?_
    refine nm ?_
    -- IF t24
    refine aw_yes (rfl) ?_
    refine aw_seq ?_
    refine aw_region ?_
    refine st_p (mva rfl) rfl ?_
    refine al_nil ?_
    refine nm ?_
    refine aw_ret ?_
    refine rs ?_
    exact ret_v (res1 Try.results4) (.inr ⟨rfl, rfl⟩) rfl

end Go.Proofs.Ytloddmbbfkejcaa.Abs
end
