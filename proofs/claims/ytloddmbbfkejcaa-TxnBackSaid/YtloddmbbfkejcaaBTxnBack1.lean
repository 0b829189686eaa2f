/- Texts of this session, merged: AbsN, AbsO, AbsP, AbsQ, AbsT, AKey, AKeyB, ANum, ANumB, ANumC, ATxnA, ATxnB, ATxnC. -/
import Derived.Test.YtloddmbbfkejcaaBTxnBack0
import Derived.Orders
import Derived.Test.YtloddmbbfkejcaaProg
set_option linter.unusedVariables false
set_option linter.unusedSimpArgs false
section
/-
  Regions whose order is open: one walk in the text's order serves every order. It holds of any program.
-/
namespace Go.Proofs.Ytloddmbbfkejcaa.Abs

/-- What leaves the abstract heap alone. -/
def OpQ (P : Program) (op : Op) (tm : List (Nat × AV)) (h : Heap) (v : AV) : Prop := ∀ nx, OpOK P op ⟨tm, h, nx⟩ v h nx

theorem OpP.q {P : Program} {op : Op} {tm : List (Nat × AV)} {h : Heap} {v : AV} (hp : OpP P op tm h v) : OpQ P op tm h v := fun _ => hp.ok

theorem Rep.grow {c : Ctx} {n : Nat} {st : St} {ρ : Rho} {S S' : Nat → Prop} {a : Act} {w w' : World} (h : Rep c n st ρ S a w) (h1 : ∀ b, S b → S' b) (h2 : ∀ b, S' b → S b ∨ w.heap.size ≤ b) (h3 : ∀ b, S' b → b < w'.heap.size) (hw : Same w w') : Rep c n st ρ S' a w' := by
  have hr := h.same hw
  have hS : ∀ b, S b → S' b ∧ w'.heap[b]? = w'.heap[b]? := fun b hb => ⟨h1 b hb, rfl⟩
  refine ⟨hr.size, hr.defers, fun i => (hr.tmps i).mono hS (fun _ _ h => h), ⟨fun b B hb => ?_, hr.sim.inj, h3⟩, ⟨hr.post.os, hr.post.tape, hr.post.output, hr.post.size, hr.post.keep, fun b hb => h1 b (hr.post.sIn b hb), fun b hb => ?_, hr.post.own, hr.post.ids⟩, hr.fresh, hr.le, hr.dom⟩
  · rcases hr.sim.blk b B hb with ⟨r, q1, q2, q3, q4⟩ | hv
    · refine .inl ⟨r, q1, q2.mono hS (fun _ _ h => h) rfl, fun hs => ?_, q4⟩
      rcases h2 _ hs with h' | h'
      · exact q3 h'
      · have := (blk_of h hb q1).2.1; omega
    · exact .inr hv
  · rcases h2 b hb with h' | h'
    · exact hr.post.sNew b h'
    · exact .inr (Nat.le_trans h.post.size h')

structure It where
  v : AV
  ef : Bool
  lo : Nat
  hi : Nat
  ks : List Nat

def sel (ks : List Nat) (tm : List (Nat × AV)) : List (Nat × AV) := ks.map fun k => (k, tget tm k)

theorem tget_sel (ks : List Nat) (tm : List (Nat × AV)) (x : Nat) : tget (sel ks tm) x = if x ∈ ks then tget tm x else .top := by
  induction ks with
  | nil => simp [sel, tget]
  | cons k ks ih =>
    simp only [sel, List.map_cons, tget]
    by_cases e : k = x
    · subst e; simp
    · rw [if_neg e]
      unfold sel at ih
      rw [ih]
      simp [Ne.symm e]

def rank (its : List It) (i : Nat) : Nat := (its.take i).countP (fun it => it.ef)

def edges (o : Oper) : List Nat := (o.after.toList.filter fun e => Region.binds .any e).map (·.on)

theorem mem_edges {o : Oper} {p : Nat} : p ∈ edges o ↔ ∃ e ∈ o.after, Region.binds .any e = true ∧ e.on = p := by
  unfold edges
  simp only [List.mem_map, List.mem_filter, Array.mem_toList_iff]
  constructor
  · rintro ⟨e, ⟨h1, h2⟩, h3⟩; exact ⟨e, h1, h2, h3⟩
  · rintro ⟨e, h1, h2, h3⟩; exact ⟨e, ⟨h1, h2⟩, h3⟩

/-- The value that a slot has behind the region's operations. -/
def ent : List Oper → List It → List (Nat × AV) → Nat → AV
  | o :: l, it :: its, tm, x => if o.dst = some x then it.v else ent l its tm x
  | _, _, tm, x => tget tm x

section
variable (l : List Oper) (its : List It) (m : Nat)

/-- What is looked at without the values. -/
structure Plan : Prop where
  len : l.length = its.length
  up : ∀ (i : Nat) (o : Oper), l[i]? = some o → ∀ p ∈ edges o, p < i
  dist : ∀ (i j : Nat) (o o' : Oper) (d : Nat), l[i]? = some o → l[j]? = some o' → o.dst = some d → o'.dst = some d → i = j
  lo : ∀ (i : Nat) (o : Oper) (it : It), l[i]? = some o → its[i]? = some it → it.lo = 0 ∨ ∃ p ∈ edges o, ∃ q, its[p]? = some q ∧ ((q.ef = true ∧ rank its p + 1 = it.lo) ∨ it.lo ≤ q.lo)
  eff : ∀ (i : Nat) (it : It), its[i]? = some it → it.ef = true → it.lo = rank its i ∧ it.hi = rank its i ∧ rank its i < m
  hi : ∀ (i : Nat) (it : It), its[i]? = some it → m ≤ it.hi ∨ it.ef = true ∨ ∃ j o q, l[j]? = some o ∧ its[j]? = some q ∧ i ∈ edges o ∧ ((q.ef = true ∧ rank its j ≤ it.hi) ∨ q.hi ≤ it.hi)
  slots : ∀ (i : Nat) (o : Oper) (it : It), l[i]? = some o → its[i]? = some it → ∀ k ∈ it.ks, (∃ p ∈ edges o, ∃ o', l[p]? = some o' ∧ o'.dst = some k) ∨ ∀ (j : Nat) (o' : Oper), l[j]? = some o' → o'.dst = some k → i ∈ edges o'
  guard : ∀ (i : Nat) (o : Oper) (j : Nat) (b : Bool), l[i]? = some o → o.guard = some (j, b) → j ∈ edges o ∧ ∃ o' d, l[j]? = some o' ∧ o'.dst = some d

end

/-- What an operation does at a stage. -/
def Run (P : Program) (op : Op) (ef : Bool) (v : AV) (tm : List (Nat × AV)) (s : Nat) (hs : List (Heap × Nat)) (H : Heap) (X : Nat) : Prop :=
  if ef then ∃ H' X', hs[s + 1]? = some (H', X') ∧ OpOK P op ⟨tm, H, X⟩ v H' X' else OpQ P op tm H v

def Ob (P : Program) (l : List Oper) (its : List It) (F : Nat → List (Nat × AV)) (hs : List (Heap × Nat)) (i s : Nat) : Prop :=
  ∀ o it H X, l[i]? = some o → its[i]? = some it → hs[s]? = some (H, X) →
    match o.guard with
    | none => Run P o.op it.ef it.v (sel it.ks (F i)) s hs H X
    | some (j, b) => ∃ g, (∃ q, its[j]? = some q ∧ gv q.v = some g) ∧ (g = some b → Run P o.op it.ef it.v (sel it.ks (F i)) s hs H X) ∧ (g ≠ some b → it.v = .tup [] ∧ it.ef = false)

section
variable {P : Program} {c : Ctx} {n : Nat} {Q : Exit → St → Prop} {l : List Oper} {its : List It} {m : Nat} {hs : List (Heap × Nat)} {tm0 : List (Nat × AV)}

def L (t : Array Bool) (i : Nat) : Prop := t.getD i false = true

structure DInv (c : Ctx) (n : Nat) (l : List Oper) (its : List It) (m : Nat) (hs : List (Heap × Nat)) (tm0 : List (Nat × AV)) (t : Array Bool) (a : Act) (w : World) (s : Nat) : Prop where
  size : t.size = l.length
  closed : ∀ (i : Nat) (o : Oper), l[i]? = some o → L t i → ∀ p ∈ edges o, L t p
  st : ∀ (i : Nat) (it : It), its[i]? = some it → it.ef = true → (L t i ↔ rank its i < s)
  sm : s ≤ m
  rep : ∃ tm H X ρ S, hs[s]? = some (H, X) ∧ Rep c n ⟨tm, H, X⟩ ρ S a w ∧ (∀ (i : Nat) (o : Oper) (it : It) (x : Nat), l[i]? = some o → its[i]? = some it → o.dst = some x → L t i → tget tm x = it.v) ∧
    ∀ x, (∀ (i : Nat) (o : Oper), l[i]? = some o → o.dst = some x → ¬ L t i) → tget tm x = tget tm0 x

theorem rank_lt {i j : Nat} {it : It} (hij : i < j) (hi : its[i]? = some it) (he : it.ef = true) : rank its i < rank its j := by
  have hil : i < its.length := (List.getElem?_eq_some_iff.1 hi).1
  unfold rank
  have e : its.take j = its.take i ++ (its.drop i).take (j - i) := by
    rw [← List.take_add, show i + (j - i) = j from by omega]
  rw [e, List.countP_append]
  have e2 : (its.drop i).take (j - i) = it :: ((its.drop (i + 1)).take (j - i - 1)) := by
    rw [List.getElem?_eq_some_iff] at hi
    obtain ⟨_, hi⟩ := hi
    rw [List.drop_eq_getElem_cons hil, hi, show j - i = (j - i - 1) + 1 from by omega, List.take_succ_cons]
    simp
  rw [e2, List.countP_cons, he]
  simp

theorem rank_inj {i j : Nat} {it jt : It} (hi : its[i]? = some it) (hj : its[j]? = some jt) (he : it.ef = true) (he' : jt.ef = true) (h : rank its i = rank its j) : i = j := by
  rcases Nat.lt_trichotomy i j with h1 | h1 | h1
  · have := rank_lt h1 hi he; omega
  · exact h1
  · have := rank_lt h1 hj he'; omega

/-- All effects below a listed operation's bound are listed. -/
theorem lo_ok (hp : Plan l its m) {t : Array Bool} {a : Act} {w : World} {s : Nat} (hd : DInv c n l its m hs tm0 t a w s) : ∀ (k i : Nat) (o : Oper) (it : It), i < k → l[i]? = some o → its[i]? = some it → (∀ p ∈ edges o, L t p) → it.lo ≤ s := by
  intro k
  induction k with
  | zero => intro i o it hi; omega
  | succ k ih =>
    intro i o it hi ho hit hall
    rcases hp.lo i o it ho hit with h | ⟨p, hpe, q, hq, h⟩
    · omega
    · have hpi := hp.up i o ho p hpe
      have hLp := hall p hpe
      obtain ⟨op, hop⟩ : ∃ op, l[p]? = some op := ⟨_, List.getElem?_eq_getElem (by rw [hp.len]; exact (List.getElem?_eq_some_iff.1 hq).1)⟩
      rcases h with ⟨h1, h2⟩ | h1
      · have := (hd.st p q hq h1).1 hLp
        omega
      · have := ih p op q (by omega) hop hq (hd.closed p op hop hLp)
        omega

theorem hi_ok (hp : Plan l its m) {t : Array Bool} {a : Act} {w : World} {s : Nat} (hd : DInv c n l its m hs tm0 t a w s) : ∀ (k i : Nat) (it : It), l.length - i ≤ k → its[i]? = some it → ¬ L t i → s ≤ it.hi := by
  intro k
  induction k with
  | zero =>
    intro i it hk hit _
    have := (List.getElem?_eq_some_iff.1 hit).1
    rw [← hp.len] at this
    omega
  | succ k ih =>
    intro i it hk hit hn
    rcases hp.hi i it hit with h | h | ⟨j, o, q, ho, hq, he, h⟩
    · have := hd.sm; omega
    · obtain ⟨h1, h2, h3⟩ := hp.eff i it hit h
      rcases Nat.lt_or_ge (rank its i) s with hlt | hge
      · exact absurd ((hd.st i it hit h).2 hlt) hn
      · omega
    · have hij := hp.up j o ho i he
      have hnj : ¬ L t j := fun hl => hn (hd.closed j o ho hl i he)
      rcases h with ⟨h1, h2⟩ | h1
      · rcases Nat.lt_or_ge (rank its j) s with hlt | hge
        · exact absurd ((hd.st j q hq h1).2 hlt) hnj
        · omega
      · have := ih j q (by omega) hq hnj
        omega

theorem ent_spec : ∀ (l : List Oper) (its : List It) (tm : List (Nat × AV)) (x : Nat), l.length = its.length → (∀ (i j : Nat) (o o' : Oper) (d : Nat), l[i]? = some o → l[j]? = some o' → o.dst = some d → o'.dst = some d → i = j) →
    (∀ (i : Nat) (o : Oper) (it : It), l[i]? = some o → its[i]? = some it → o.dst = some x → ent l its tm x = it.v) ∧ ((∀ (i : Nat) (o : Oper), l[i]? = some o → o.dst ≠ some x) → ent l its tm x = tget tm x) := by
  intro l
  induction l with
  | nil => intro its tm x hl _; exact ⟨fun i o it h => by simp at h, fun _ => by cases its <;> rfl⟩
  | cons o l ih =>
    intro its tm x hl hd
    cases its with
    | nil => simp at hl
    | cons it its =>
      obtain ⟨h1, h2⟩ := ih its tm x (by simpa using hl) (fun i j o o' d a b e f => by have := hd (i + 1) (j + 1) o o' d a b e f; omega)
      simp only [ent]
      refine ⟨fun i o' it' ho hi hdst => ?_, fun hno => ?_⟩
      · cases i with
        | zero =>
          simp only [List.getElem?_cons_zero, Option.some.injEq] at ho hi
          subst ho; subst hi
          rw [if_pos hdst]
        | succ i =>
          have : ¬ o.dst = some x := fun e => by have := hd 0 (i + 1) o o' x rfl ho e hdst; omega
          rw [if_neg this]
          exact h1 i o' it' ho hi hdst
      · rw [if_neg (hno 0 o rfl)]
        exact h2 (fun i o' ho => hno (i + 1) o' ho)

theorem L_set {t : Array Bool} {i j : Nat} (hi : i < t.size) : L (t.setIfInBounds i true) j ↔ i = j ∨ L t j := by
  unfold L
  by_cases e : i = j
  · subst e; simp [hi]
  · rw [getD_set_ne false e]; simp [e]

/-- One step, whatever operation comes up. -/
theorem draw_step (hp : Plan l its m) (hdn : ∀ o ∈ l, ∀ d, o.dst = some d → d < n) {F : Nat → List (Nat × AV)} (hF : ∀ (i : Nat) (o : Oper) (it : It) (k : Nat), l[i]? = some o → its[i]? = some it → k ∈ it.ks → (∀ (p : Nat) (o' : Oper) (jt : It), p ∈ edges o → l[p]? = some o' → its[p]? = some jt → o'.dst = some k → tget (F i) k = jt.v) ∧
      ((∀ (j : Nat) (o' : Oper), l[j]? = some o' → o'.dst = some k → i ∈ edges o') → tget (F i) k = tget tm0 k))
    (hob : ∀ (i s : Nat) (it : It), its[i]? = some it → it.lo ≤ s → s ≤ it.hi → s ≤ m → Ob P l its F hs i s)
    {t : Array Bool} {a : Act} {w : World} {s : Nat} (hd : DInv c n l its m hs tm0 t a w s) {i : Nat} {o : Oper} (ho : l[i]? = some o) (hn : ¬ L t i) (hall : ∀ p ∈ edges o, L t p)
    {K : Act → World → Prop} {Qe : Exit → Act → World → Prop} (hK : ∀ a' w' s', DInv c n l its m hs tm0 (t.setIfInBounds i true) a' w' s' → K a' w') : wpOp P l.toArray Qe i K a w := by
  have hil : i < l.length := (List.getElem?_eq_some_iff.1 ho).1
  obtain ⟨it, hit⟩ : ∃ it, its[i]? = some it := ⟨_, List.getElem?_eq_getElem (by rw [← hp.len]; exact hil)⟩
  have hlo := lo_ok hp hd (i + 1) i o it (by omega) ho hit hall
  have hhi := hi_ok hp hd (l.length - i) i it (Nat.le_refl _) hit hn
  obtain ⟨tm, H, X, ρ, S, hHs, hrep, hE1, hE2⟩ := hd.rep
  have hO := hob i s it hit hlo hhi hd.sm o it H X ho hit hHs
  -- what the operation looks at is there
  have hmnr : Rep c n ⟨sel it.ks (F i), H, X⟩ ρ S a w := by
    refine ⟨hrep.size, hrep.defers, fun x => ?_, hrep.sim, hrep.post, hrep.fresh, hrep.le, hrep.dom⟩
    show VR S w ρ (tget (sel it.ks (F i)) x) _
    rw [tget_sel]
    split
    · rename_i hx
      obtain ⟨f1, f2⟩ := hF i o it x ho hit hx
      have hval : tget (F i) x = tget tm x := by
        rcases hp.slots i o it ho hit x hx with ⟨p, hpe, o', ho', hd'⟩ | hno
        · obtain ⟨jt, hjt⟩ : ∃ jt, its[p]? = some jt := ⟨_, List.getElem?_eq_getElem (by rw [← hp.len]; exact (List.getElem?_eq_some_iff.1 ho').1)⟩
          rw [f1 p o' jt hpe ho' hjt hd', hE1 p o' jt x ho' hjt hd' (hall p hpe)]
        · rw [f2 hno, hE2 x (fun j o' ho' hd' hL => hn (hd.closed j o' ho' hL i (hno j o' ho' hd')))]
      rw [hval]
      exact hrep.tmps x
    · exact .top
  have hset : i < t.size := by rw [hd.size]; exact hil
  -- how things stand behind it
  have next : ∀ (w' : World) (u : Value) (H' : Heap) (X' : Nat) (ρ' : Rho) (S' : Nat → Prop) (s' : Nat), Rep c n ⟨tm, H', X'⟩ ρ' S' a w' → VR S' w' ρ' it.v u → hs[s']? = some (H', X') → s' ≤ m →
      (∀ (j : Nat) (jt : It), its[j]? = some jt → jt.ef = true → (i = j ∨ L t j ↔ rank its j < s')) → DInv c n l its m hs tm0 (t.setIfInBounds i true) (a.put o.dst u) w' s' := by
    intro w' u H' X' ρ' S' s' hr' hv' hh' hs' hst'
    refine ⟨by simp [hd.size], fun j o' ho' hL p hpe => ?_, fun j jt hj he => ?_, hs', ?_⟩
    · rw [L_set hset] at hL ⊢
      rcases hL with rfl | hL
      · rw [ho] at ho'
        obtain rfl := Option.some.inj ho'
        exact .inr (hall p hpe)
      · exact .inr (hd.closed j o' ho' hL p hpe)
    · rw [L_set hset]; exact hst' j jt hj he
    · cases hdst : o.dst with
      | none =>
        refine ⟨tm, H', X', ρ', S', hh', hr', fun j o' jt x hj hjt hx hL => ?_, fun x hx => hE2 x (fun j o' hj hxd hL => hx j o' hj hxd ((L_set hset).2 (.inr hL)))⟩
        rcases (L_set hset).1 hL with rfl | hL
        · rw [ho] at hj; obtain rfl := Option.some.inj hj; rw [hdst] at hx; cases hx
        · exact hE1 j o' jt x hj hjt hx hL
      | some d =>
        refine ⟨(d, it.v) :: tm, H', X', ρ', S', hh', hr'.put d (hdn o (List.mem_of_getElem? ho) d hdst) it.v u hv', fun j o' jt x hj hjt hx hL => ?_, fun x hx => ?_⟩
        · by_cases e : d = x
          · subst e
            have : i = j := hp.dist i j o o' d ho hj hdst hx
            subst this
            rw [hit] at hjt
            obtain rfl := Option.some.inj hjt
            simp [tget]
          · simp only [tget, e, if_false]
            rcases (L_set hset).1 hL with rfl | hL
            · rw [ho] at hj; obtain rfl := Option.some.inj hj; rw [hdst] at hx; exact absurd (Option.some.inj hx) e
            · exact hE1 j o' jt x hj hjt hx hL
        · have e : d ≠ x := fun e => hx i o ho (by rw [hdst, e]) ((L_set hset).2 (.inl rfl))
          simp only [tget, e, if_false]
          exact hE2 x (fun j o' hj hxd hL => hx j o' hj hxd ((L_set hset).2 (.inr hL)))
  have hquiet : ∀ (j : Nat) (jt : It), it.ef = false → its[j]? = some jt → jt.ef = true → (i = j ∨ L t j ↔ rank its j < s) := by
    intro j jt hef hj he
    rw [← hd.st j jt hj he]
    constructor
    · rintro (rfl | h)
      · rw [hit] at hj; obtain rfl := Option.some.inj hj; rw [hef] at he; cases he
      · exact h
    · exact .inr
  have hrun : Run P o.op it.ef it.v (sel it.ks (F i)) s hs H X → o.wp P a w K Qe := by
    intro hR
    unfold Run at hR
    cases hef : it.ef with
    | true =>
      rw [hef] at hR
      simp only [if_true] at hR
      obtain ⟨H', X', hh', hop⟩ := hR
      obtain ⟨k1, k2, k3⟩ := hp.eff i it hit hef
      have hs1 : s = rank its i := by omega
      refine (hop c n ρ S a w hmnr o rfl).wp fun u w' ⟨ρ', S', r3, r4, r5, r6⟩ => ?_
      have hr' : Rep c n ⟨tm, H', X'⟩ ρ' S' a w' := ⟨r3.size, r3.defers, fun x => (hrep.tmps x).mono r6 r5, r3.sim, r3.post, r3.fresh, r3.le, r3.dom⟩
      refine hK _ _ _ (next w' u H' X' ρ' S' (s + 1) hr' r4 hh' (by omega) (fun j jt hj he => ?_))
      rw [hd.st j jt hj he]
      constructor
      · rintro (rfl | h)
        · omega
        · omega
      · intro h
        rcases Nat.lt_or_ge (rank its j) s with h' | h'
        · exact .inr h'
        · exact .inl (rank_inj hit hj hef he (by omega))
    | false =>
      rw [hef] at hR
      simp only [Bool.false_eq_true, if_false] at hR
      refine (hR X c n ρ S a w hmnr o rfl).wp fun u w' ⟨ρ', S', r3, r4, r5, r6⟩ => ?_
      have hr' : Rep c n ⟨tm, H, X⟩ ρ' S' a w' := ⟨r3.size, r3.defers, fun x => (hrep.tmps x).mono r6 r5, r3.sim, r3.post, r3.fresh, r3.le, r3.dom⟩
      exact hK _ _ _ (next w' u H X ρ' S' s hr' r4 hHs hd.sm (fun j jt => hquiet j jt hef))
  unfold wpOp
  rw [show l.toArray[i]? = some o from by rw [List.getElem?_toArray]; exact ho]
  simp only []
  cases hg : o.guard with
  | none =>
    rw [hg] at hO
    rw [if_pos (by simp [Region.wanted, hg])]
    exact .inl (hrun hO)
  | some jb =>
    obtain ⟨j, b⟩ := jb
    rw [hg] at hO
    simp only [] at hO
    obtain ⟨b', ⟨q, hq1, hq2⟩, h1, h2⟩ := hO
    obtain ⟨hje, o', d, ho', hd'⟩ := hp.guard i o j b ho hg
    have hval := hE1 j o' q d ho' hq1 hd' (hall j hje)
    have hy : yielded l.toArray a.tmps j = b' := yielded_gv hrep (d := d) (by rw [List.getElem?_toArray, ho']; exact hd') (hdn o' (List.mem_of_getElem? ho') d hd') (by rw [show (St.mk tm H X).tm = tm from rfl, hval]; exact hq2)
    by_cases e : b' = some b
    · rw [if_pos (by simp [Region.wanted, hg, hy, e])]
      exact .inl (hrun (h1 e))
    · rw [if_neg (by simp [Region.wanted, hg, hy, e])]
      obtain ⟨e1, e2⟩ := h2 e
      exact hK _ _ _ (next w undef H X ρ S s hrep (by rw [e1]; exact .tup #[] rfl (fun i x u hx _ => by simp at hx)) hHs hd.sm (fun j jt => hquiet j jt e2))

theorem countP_less {p q : Nat → Bool} : ∀ {l : List Nat}, (∀ x ∈ l, p x = true → q x = true) → ∀ {y : Nat}, y ∈ l → q y = true → p y = false → l.countP p + 1 ≤ l.countP q := by
  intro l
  induction l with
  | nil => intro _ y hy; cases hy
  | cons a l ih =>
    intro h y hy hq hp
    simp only [List.countP_cons]
    rcases List.mem_cons.1 hy with rfl | hy
    · have := List.countP_mono_left (fun x hx => h x (List.mem_cons_of_mem _ hx)) (l := l)
      simp only [hq, hp, if_true, Bool.false_eq_true, if_false]
      omega
    · have := ih (fun x hx => h x (List.mem_cons_of_mem _ hx)) hy hq hp
      by_cases ha : p a = true
      · simp only [ha, h a List.mem_cons_self ha, if_true]; omega
      · simp only [ha, Bool.false_eq_true, if_false]; omega

def left (n : Nat) (t : Array Bool) : Nat := (List.range n).countP fun i => !t.getD i false

theorem getD_tf {t : Array Bool} {i : Nat} (h : i < t.size) : t.getD i true = t.getD i false := by
  simp [Array.getD_eq_getD_getElem?, h]

theorem ready_mem {t : Array Bool} {i : Nat} (hts : t.size = l.length) : i ∈ Region.ready .any l.toArray t ↔ i < l.length ∧ ¬ L t i ∧ ∃ o, l[i]? = some o ∧ ∀ p ∈ edges o, L t p := by
  unfold Region.ready
  rw [List.mem_filter, List.mem_range, List.size_toArray]
  constructor
  · rintro ⟨h1, h2⟩
    rw [Bool.and_eq_true] at h2
    rw [getD_tf (by omega)] at h2
    refine ⟨h1, by unfold L; have := h2.1; revert this; cases t.getD i false <;> simp, ?_⟩
    have h3 := h2.2
    rw [List.getElem?_toArray] at h3
    cases ho : l[i]? with
    | none => rw [ho] at h3; simp at h3
    | some o =>
      rw [ho] at h3
      refine ⟨o, rfl, fun p hp => ?_⟩
      obtain ⟨e, he, hb, rfl⟩ := mem_edges.1 hp
      simp only [Option.map_some, Option.getD_some, Array.all_eq_true_iff_forall_mem] at h3
      have := h3 e he
      rw [hb] at this
      simpa [L] using this
  · rintro ⟨h1, h2, o, ho, h3⟩
    refine ⟨h1, ?_⟩
    rw [Bool.and_eq_true, getD_tf (by omega)]
    refine ⟨by unfold L at h2; revert h2; cases t.getD i false <;> simp, ?_⟩
    rw [List.getElem?_toArray, ho]
    simp only [Option.map_some, Option.getD_some, Array.all_eq_true_iff_forall_mem]
    intro e he
    cases hb : Region.binds .any e with
    | false => rfl
    | true =>
      have := h3 e.on (mem_edges.2 ⟨e, he, hb, rfl⟩)
      unfold L at this
      rw [this]; rfl

theorem ready_nil (hp : Plan l its m) {t : Array Bool} (hts : t.size = l.length) (h : Region.ready .any l.toArray t = []) : ∀ i, i < l.length → L t i := by
  intro i
  induction i using Nat.strongRecOn with
  | ind i ih =>
    intro hi
    refine Classical.byContradiction fun hn => ?_
    have : i ∈ Region.ready .any l.toArray t := (ready_mem hts).2 ⟨hi, hn, _, List.getElem?_eq_getElem hi, fun p hpe => by
      have := hp.up i _ (List.getElem?_eq_getElem hi) p hpe
      exact ih p this (by omega)⟩
    rw [h] at this
    cases this

theorem draw_any (hp : Plan l its m) (hdn : ∀ o ∈ l, ∀ d, o.dst = some d → d < n) {F : Nat → List (Nat × AV)} (hF : ∀ (i : Nat) (o : Oper) (it : It) (k : Nat), l[i]? = some o → its[i]? = some it → k ∈ it.ks → (∀ (p : Nat) (o' : Oper) (jt : It), p ∈ edges o → l[p]? = some o' → its[p]? = some jt → o'.dst = some k → tget (F i) k = jt.v) ∧
      ((∀ (j : Nat) (o' : Oper), l[j]? = some o' → o'.dst = some k → i ∈ edges o') → tget (F i) k = tget tm0 k)) {E : List (Nat × AV)} (hE : ∀ x, tget E x = ent l its tm0 x)
    (hob : ∀ (i s : Nat) (it : It), its[i]? = some it → it.lo ≤ s → s ≤ it.hi → s ≤ m → Ob P l its F hs i s) (hm : rank its its.length = m) {H : Heap} {X : Nat} (hH : hs[m]? = some (H, X)) (hQ : Q .normal ⟨E, H, X⟩) :
    ∀ (fuel : Nat) (t : Array Bool) (a : Act) (w : World) (s : Nat), left l.length t ≤ fuel → DInv c n l its m hs tm0 t a w s → wpAny P .any l.toArray (Lift c n Q) fuel t a w := by
  have fin : ∀ (t : Array Bool) (a : Act) (w : World) (s : Nat), DInv c n l its m hs tm0 t a w s → Region.ready .any l.toArray t = [] → Lift c n Q .normal a w := by
    intro t a w s hd hr
    have hall := ready_nil hp hd.size hr
    obtain ⟨tm, H', X', ρ, S, hHs, hrep, hE1, hE2⟩ := hd.rep
    have hs : s = m := by
      refine Nat.le_antisymm hd.sm ?_
      refine Nat.le_of_not_lt fun hlt => ?_
      -- the effect of that rank is listed
      have find : ∀ (k : Nat), s < rank its k → ∃ i it, its[i]? = some it ∧ it.ef = true ∧ rank its i = s := by
        intro k
        induction k with
        | zero => intro h; simp [rank] at h
        | succ k ih =>
          intro h
          by_cases hk : s < rank its k
          · exact ih hk
          · have e : rank its (k + 1) = rank its k + (match its[k]? with | some it => if it.ef then 1 else 0 | none => 0) := by
              unfold rank
              rw [List.take_add_one, List.countP_append]
              cases hk' : its[k]? with
              | none => simp
              | some it => simp [List.countP_cons]
            cases hk' : its[k]? with
            | none => rw [hk'] at e; simp only [Nat.add_zero] at e; omega
            | some it =>
              rw [hk'] at e
              by_cases hef : it.ef = true
              · simp only [hef, if_true] at e
                exact ⟨k, it, hk', hef, by omega⟩
              · simp only [hef, Bool.false_eq_true, if_false, Nat.add_zero] at e; omega
      obtain ⟨i, it, h1, h2, h3⟩ := find its.length (by omega)
      have hil : i < l.length := by rw [hp.len]; exact (List.getElem?_eq_some_iff.1 h1).1
      have := (hd.st i it h1 h2).1 (hall i hil)
      omega
    rw [hs, hH] at hHs
    obtain ⟨rfl, rfl⟩ := Prod.mk.inj (Option.some.inj hHs)
    refine ⟨⟨E, H, X⟩, ρ, S, hQ, hrep.size, hrep.defers, fun x => ?_, hrep.sim, hrep.post, hrep.fresh, hrep.le, hrep.dom⟩
    show VR S w ρ (tget E x) _
    obtain ⟨g1, g2⟩ := ent_spec l its tm0 x hp.len hp.dist
    have : tget E x = tget tm x := by
      rw [hE]
      by_cases hx : ∃ (i : Nat) (o : Oper), l[i]? = some o ∧ o.dst = some x
      · obtain ⟨i, o, ho, hx⟩ := hx
        have hil : i < l.length := (List.getElem?_eq_some_iff.1 ho).1
        obtain ⟨it, hit⟩ : ∃ it, its[i]? = some it := ⟨_, List.getElem?_eq_getElem (by rw [← hp.len]; exact hil)⟩
        rw [g1 i o it ho hit hx, hE1 i o it x ho hit hx (hall i hil)]
      · rw [g2 (fun i o ho hx' => hx ⟨i, o, ho, hx'⟩), hE2 x (fun i o ho hx' => absurd ⟨i, o, ho, hx'⟩ hx)]
    rw [this]
    exact hrep.tmps x
  intro fuel
  induction fuel with
  | zero =>
    intro t a w s hl hd
    have hr : Region.ready .any l.toArray t = [] := by
      refine List.eq_nil_iff_forall_not_mem.2 fun i hi => ?_
      obtain ⟨h1, h2, _⟩ := (ready_mem hd.size).1 hi
      have : left l.length t = 0 := by omega
      unfold left at this
      rw [List.countP_eq_zero] at this
      have := this i (List.mem_range.2 h1)
      unfold L at h2
      exact this (by revert h2; cases t.getD i false <;> simp)
    exact ⟨hr, fin t a w s hd hr⟩
  | succ fuel ih =>
    intro t a w s hl hd
    refine ⟨fin t a w s hd, fun i hi => ?_⟩
    obtain ⟨h1, h2, o, ho, h3⟩ := (ready_mem hd.size).1 hi
    refine draw_step hp hdn hF hob hd ho h2 h3 fun a' w' s' hd' => ih _ a' w' s' ?_ hd'
    have hts : i < t.size := by rw [hd.size]; exact h1
    have := countP_less (p := fun j => !(t.setIfInBounds i true).getD j false) (q := fun j => !t.getD j false) (l := List.range l.length) (fun x _ hx => ?_) (List.mem_range.2 h1) ?_ ?_
    · unfold left at hl ⊢; omega
    · by_cases e : i = x
      · subst e
        rw [show (t.setIfInBounds i true).getD i false = true from (L_set hts).2 (.inl rfl)] at hx
        cases hx
      · rw [getD_set_ne false e] at hx; exact hx
    · unfold L at h2; revert h2; cases t.getD i false <;> simp
    · show (!(t.setIfInBounds i true).getD i false) = false
      rw [show (t.setIfInBounds i true).getD i false = true from (L_set hts).2 (.inl rfl)]; rfl

end
end Go.Proofs.Ytloddmbbfkejcaa.Abs
end
section
/-
  Regions whose order is open: the walk in the text's order, and what is looked at behind it. It holds of any program.
-/
namespace Go.Proofs.Ytloddmbbfkejcaa.Abs

/-- Does the guard let it run? -/
def Gd (its : List It) (g : Option (Nat × Bool)) (r : Bool) : Prop :=
  match g with
  | none => r = true
  | some (j, b) => ∃ q g, its[j]? = some q ∧ gv q.v = some g ∧ r = (g == some b)

inductive Col (P : Program) (st0 : St) : List Oper → List It → List (Heap × Nat) → List Nat → St → Prop
  | nil : Col P st0 [] [] [(st0.h, st0.nx)] [] st0
  | q {l its hs fr st o it} (k : Col P st0 l its hs fr st) (hg : Gd its o.guard true) (he : it.ef = false) (h : OpQ P o.op (sel it.ks st.tm) st.h it.v) : Col P st0 (l ++ [o]) (its ++ [it]) hs fr (putA o.dst it.v st)
  | f {l its hs fr st o it} (k : Col P st0 l its hs fr st) (hg : Gd its o.guard true) (he : it.ef = false) (h : ∀ H, OpQ P o.op (sel it.ks st.tm) H it.v) : Col P st0 (l ++ [o]) (its ++ [it]) hs (its.length :: fr) (putA o.dst it.v st)
  | e {l its hs fr st o it h' nx'} (k : Col P st0 l its hs fr st) (hg : Gd its o.guard true) (he : it.ef = true) (h : OpOK P o.op ⟨sel it.ks st.tm, st.h, st.nx⟩ it.v h' nx') : Col P st0 (l ++ [o]) (its ++ [it]) (hs ++ [(h', nx')]) fr (putA o.dst it.v ⟨st.tm, h', nx'⟩)
  | s {l its hs fr st o it} (k : Col P st0 l its hs fr st) (hg : Gd its o.guard false) (he : it.ef = false) (hv : it.v = .tup []) : Col P st0 (l ++ [o]) (its ++ [it]) hs (its.length :: fr) (putA o.dst (.tup []) st)

theorem Gd.more {its : List It} {g : Option (Nat × Bool)} {r : Bool} (h : Gd its g r) (it : It) : Gd (its ++ [it]) g r := by
  unfold Gd at *
  split
  · exact h
  · obtain ⟨q, b', h1, h2, h3⟩ := h
    exact ⟨q, b', by rw [List.getElem?_append_left (List.getElem?_eq_some_iff.1 h1).1]; exact h1, h2, h3⟩

theorem rank_more (its : List It) (it : It) {i : Nat} (h : i ≤ its.length) : rank (its ++ [it]) i = rank its i := by
  unfold rank
  rw [List.take_append_of_le_length h]

theorem rank_snoc (its : List It) (it : It) : rank (its ++ [it]) (its.length + 1) = rank its its.length + (if it.ef then 1 else 0) := by
  unfold rank
  rw [List.take_of_length_le (by simp), List.take_of_length_le (by simp), List.countP_append, List.countP_cons]
  simp

/-- What is known of operation i. -/
def Known (P : Program) (its : List It) (hs : List (Heap × Nat)) (free : Bool) (i : Nat) (o : Oper) (it : It) (tm : List (Nat × AV)) : Prop :=
  ∃ r, Gd its o.guard r ∧ (r = true → (∃ H X, hs[rank its i]? = some (H, X) ∧ Run P o.op it.ef it.v (sel it.ks tm) (rank its i) hs H X) ∧ (free = true → it.ef = false ∧ ∀ H, OpQ P o.op (sel it.ks tm) H it.v)) ∧ (r = false → it.v = .tup [] ∧ it.ef = false)

structure Facts (P : Program) (st0 : St) (l : List Oper) (its : List It) (hs : List (Heap × Nat)) (fr : List Nat) (st : St) : Prop where
  len : l.length = its.length
  hlen : hs.length = rank its its.length + 1
  last : hs[rank its its.length]? = some (st.h, st.nx)
  zero : hs[0]? = some (st0.h, st0.nx)
  known : ∀ (i : Nat) (o : Oper) (it : It), l[i]? = some o → its[i]? = some it → ∃ tm, Known P its hs (fr.contains i) i o it tm ∧ (∀ k, (∀ (j : Nat) (o' : Oper), i ≤ j → l[j]? = some o' → o'.dst ≠ some k) → tget st.tm k = tget tm k) ∧
    (∀ (j : Nat) (o' : Oper) (jt : It) (x : Nat), j < i → l[j]? = some o' → its[j]? = some jt → o'.dst = some x → (∀ (k : Nat) (o'' : Oper), j < k → k < i → l[k]? = some o'' → o''.dst ≠ some x) → tget tm x = jt.v) ∧
    ∀ x, (∀ (j : Nat) (o' : Oper), j < i → l[j]? = some o' → o'.dst ≠ some x) → tget tm x = tget st0.tm x
  val : ∀ (i : Nat) (o : Oper) (it : It) (x : Nat), l[i]? = some o → its[i]? = some it → o.dst = some x → (∀ (j : Nat) (o' : Oper), i < j → l[j]? = some o' → o'.dst ≠ some x) → tget st.tm x = it.v
  old : ∀ x, (∀ (i : Nat) (o : Oper), l[i]? = some o → o.dst ≠ some x) → tget st.tm x = tget st0.tm x
  frs : ∀ i ∈ fr, i < its.length

theorem tget_putA (d : Option Nat) (v : AV) (st : St) (x : Nat) : tget (putA d v st).tm x = if d = some x then v else tget st.tm x := by
  cases d with
  | none => simp [putA]
  | some d =>
    simp only [putA, tget, Option.some.injEq]

theorem putA_h (d : Option Nat) (v : AV) (st : St) : (putA d v st).h = st.h := by cases d <;> rfl
theorem putA_nx (d : Option Nat) (v : AV) (st : St) : (putA d v st).nx = st.nx := by cases d <;> rfl

theorem snoc_get {α : Type} {l : List α} {o x : α} {i : Nat} (h : (l ++ [o])[i]? = some x) : (i < l.length ∧ l[i]? = some x) ∨ (i = l.length ∧ x = o) := by
  rcases Nat.lt_trichotomy i l.length with h1 | h1 | h1
  · rw [List.getElem?_append_left h1] at h; exact .inl ⟨h1, h⟩
  · subst h1; simp at h; exact .inr ⟨rfl, h.symm⟩
  · rw [List.getElem?_eq_none (by simp; omega)] at h; cases h

theorem Run.more {P : Program} {op : Op} {ef : Bool} {v : AV} {tm : List (Nat × AV)} {s : Nat} {hs : List (Heap × Nat)} {H : Heap} {X : Nat} (h : Run P op ef v tm s hs H X) (hs' : List (Heap × Nat)) : Run P op ef v tm s (hs ++ hs') H X := by
  unfold Run at *
  split
  · rename_i he
    rw [if_pos he] at h
    obtain ⟨H', X', h1, h2⟩ := h
    exact ⟨H', X', by rw [List.getElem?_append_left (List.getElem?_eq_some_iff.1 h1).1]; exact h1, h2⟩
  · rename_i he
    rw [if_neg he] at h
    exact h

theorem Known.more {P : Program} {its : List It} {hs : List (Heap × Nat)} {free : Bool} {i : Nat} {o : Oper} {it : It} {tm : List (Nat × AV)} (h : Known P its hs free i o it tm) (jt : It) (hs' : List (Heap × Nat)) (hi : i ≤ its.length) : Known P (its ++ [jt]) (hs ++ hs') free i o it tm := by
  obtain ⟨r, h1, h2, h3⟩ := h
  refine ⟨r, h1.more jt, fun hr => ?_, h3⟩
  obtain ⟨⟨H, X, h4, h5⟩, h6⟩ := h2 hr
  rw [rank_more its jt hi]
  exact ⟨⟨H, X, by rw [List.getElem?_append_left (List.getElem?_eq_some_iff.1 h4).1]; exact h4, h5.more hs'⟩, h6⟩

theorem Facts.snoc {P : Program} {st0 : St} {l : List Oper} {its : List It} {hs hs' : List (Heap × Nat)} {fr fr' : List Nat} {st st' : St} (h : Facts P st0 l its hs fr st) (o : Oper) (it : It) (htm : st'.tm = (putA o.dst it.v st).tm)
    (hlen : hs'.length = if it.ef then 1 else 0) (hlast : (hs ++ hs')[rank its its.length + (if it.ef then 1 else 0)]? = some (st'.h, st'.nx)) (hfr : ∀ i, i < its.length → fr'.contains i = fr.contains i) (hfl : ∀ i ∈ fr', i < its.length + 1)
    (hk : Known P (its ++ [it]) (hs ++ hs') (fr'.contains its.length) its.length o it st.tm) : Facts P st0 (l ++ [o]) (its ++ [it]) (hs ++ hs') fr' st' := by
  have hl := h.len
  refine ⟨by simp [hl], by simp only [List.length_append, List.length_cons, List.length_nil, Nat.zero_add]; rw [rank_snoc, h.hlen, hlen]; omega, by simp only [List.length_append, List.length_cons, List.length_nil, Nat.zero_add]; rw [rank_snoc]; exact hlast, ?_, ?_, ?_, ?_, fun i hi => by simpa using hfl i hi⟩
  · rw [List.getElem?_append_left (by rw [h.hlen]; omega)]; exact h.zero
  · intro i o' it' ho hit
    rcases snoc_get ho with ⟨h1, h2⟩ | ⟨h1, h2⟩
    · rcases snoc_get hit with ⟨h3, h4⟩ | ⟨h3, h4⟩
      · obtain ⟨tm, k1, k2, k3, k4⟩ := h.known i o' it' h2 h4
        refine ⟨tm, by rw [hfr i h3]; exact k1.more it hs' (by omega), fun k hk => ?_, fun j o'' jt x hj ho'' hjt hd hno => ?_, fun x hno => k4 x fun j o'' hj ho'' => hno j o'' hj (by rw [List.getElem?_append_left (List.getElem?_eq_some_iff.1 ho'').1]; exact ho'')⟩
        · rw [htm, tget_putA, if_neg (hk l.length o (by omega) (by simp))]
          exact k2 k (fun j o'' hij hj => hk j o'' hij (by rw [List.getElem?_append_left (List.getElem?_eq_some_iff.1 hj).1]; exact hj))
        · rw [List.getElem?_append_left (by omega)] at ho'' hjt
          exact k3 j o'' jt x hj ho'' hjt hd (fun k o3 e1 e2 e3 => hno k o3 e1 e2 (by rw [List.getElem?_append_left (List.getElem?_eq_some_iff.1 e3).1]; exact e3))
      · omega
    · rcases snoc_get hit with ⟨h3, h4⟩ | ⟨h3, h4⟩
      · omega
      · subst h2; subst h4; subst h3
        refine ⟨st.tm, hk, fun k hk => ?_, fun j o'' jt x hj ho'' hjt hd hno => ?_, fun x hno => ?_⟩
        · rw [htm, tget_putA, if_neg (hk l.length o' (by omega) (by simp))]
        · rw [List.getElem?_append_left (by omega)] at ho'' hjt
          exact h.val j o'' jt x ho'' hjt hd (fun k o3 e1 e3 => hno k o3 e1 (by have := (List.getElem?_eq_some_iff.1 e3).1; omega) (by rw [List.getElem?_append_left (List.getElem?_eq_some_iff.1 e3).1]; exact e3))
        · exact h.old x (fun j o3 e3 => hno j o3 (by have := (List.getElem?_eq_some_iff.1 e3).1; omega) (by rw [List.getElem?_append_left (List.getElem?_eq_some_iff.1 e3).1]; exact e3))
  · intro i o' it' x ho hit hx hno
    rw [htm, tget_putA]
    rcases snoc_get ho with ⟨h1, h2⟩ | ⟨h1, h2⟩
    · rcases snoc_get hit with ⟨h3, h4⟩ | ⟨h3, h4⟩
      · rw [if_neg (hno l.length o h1 (by simp))]
        exact h.val i o' it' x h2 h4 hx (fun j o'' hij hj => hno j o'' hij (by rw [List.getElem?_append_left (List.getElem?_eq_some_iff.1 hj).1]; exact hj))
      · omega
    · rcases snoc_get hit with ⟨h3, h4⟩ | ⟨h3, h4⟩
      · omega
      · subst h2; subst h4
        rw [if_pos hx]
  · intro x hno
    rw [htm, tget_putA, if_neg (hno l.length o (by simp))]
    exact h.old x (fun i o' hi => hno i o' (by rw [List.getElem?_append_left (List.getElem?_eq_some_iff.1 hi).1]; exact hi))

theorem Col.facts {P : Program} {st0 : St} {l : List Oper} {its : List It} {hs : List (Heap × Nat)} {fr : List Nat} {st : St} (h : Col P st0 l its hs fr st) : Facts P st0 l its hs fr st := by
  have cons_c : ∀ (fr : List Nat) (n i : Nat), i < n → (n :: fr).contains i = fr.contains i := fun fr n i hi => by
    rw [List.contains_cons]
    have : (i == n) = false := by simp; omega
    rw [this]; rfl
  induction h with
  | nil => exact ⟨rfl, rfl, rfl, rfl, fun i o it h => by simp at h, fun i o it x h => by simp at h, fun _ _ => rfl, fun i hi => by cases hi⟩
  | @q l its hs fr st o it k hg he h ih =>
    have := ih.snoc o it (st' := putA o.dst it.v st) (hs' := []) (fr' := fr) rfl (by rw [he]; rfl) (by rw [he, putA_h, putA_nx]; simpa using ih.last) (fun _ _ => rfl) (fun i hi => Nat.lt_succ_of_lt (ih.frs i hi)) ⟨true, hg.more it, fun _ => ⟨⟨st.h, st.nx, by
      rw [rank_more its it (Nat.le_refl _), List.append_nil]; exact ih.last, by unfold Run; rw [he]; exact h⟩, fun hc => by
        have := ih.frs its.length (by simpa using hc)
        omega⟩, fun e => by cases e⟩
    rwa [List.append_nil] at this
  | @f l its hs fr st o it k hg he h ih =>
    have := ih.snoc o it (st' := putA o.dst it.v st) (hs' := []) (fr' := its.length :: fr) rfl (by rw [he]; rfl) (by rw [he, putA_h, putA_nx]; simpa using ih.last) (fun i hi => cons_c fr _ i hi) (fun i hi => by
      rcases List.mem_cons.1 hi with rfl | hi
      · omega
      · have := ih.frs i hi; omega) ⟨true, hg.more it, fun _ => ⟨⟨st.h, st.nx, by
      rw [rank_more its it (Nat.le_refl _), List.append_nil]; exact ih.last, by unfold Run; rw [he]; exact h _⟩, fun _ => ⟨he, h⟩⟩, fun e => by cases e⟩
    rwa [List.append_nil] at this
  | @e l its hs fr st o it h' nx' k hg he h ih =>
    exact ih.snoc o it (st' := putA o.dst it.v ⟨st.tm, h', nx'⟩) (hs' := [(h', nx')]) (fr' := fr) (by cases o.dst <;> rfl) (by rw [he]; rfl) (by rw [he, putA_h, putA_nx, List.getElem?_append_right (by rw [ih.hlen]; exact Nat.le_refl _), ih.hlen]; simp) (fun _ _ => rfl) (fun i hi => Nat.lt_succ_of_lt (ih.frs i hi))
      ⟨true, hg.more it, fun _ => ⟨⟨st.h, st.nx, by
        rw [rank_more its it (Nat.le_refl _), List.getElem?_append_left (by rw [ih.hlen]; omega)]; exact ih.last, by
          unfold Run
          rw [he, rank_more its it (Nat.le_refl _)]
          exact ⟨h', nx', by rw [List.getElem?_append_right (by rw [ih.hlen]; exact Nat.le_refl _), ih.hlen]; simp, h⟩⟩, fun hc => by
        have := ih.frs its.length (by simpa using hc)
        omega⟩, fun e => by cases e⟩
  | @s l its hs fr st o it k hg he hv ih =>
    have := ih.snoc o it (st' := putA o.dst (.tup []) st) (hs' := []) (fr' := its.length :: fr) (by rw [hv]) (by rw [he]; rfl) (by rw [he, putA_h, putA_nx]; simpa using ih.last) (fun i hi => cons_c fr _ i hi) (fun i hi => by
      rcases List.mem_cons.1 hi with rfl | hi
      · omega
      · have := ih.frs i hi; omega) ⟨false, hg.more it, (fun e => by cases e), fun _ => ⟨hv, he⟩⟩
    rwa [List.append_nil] at this

def dstIs (o : Oper) (k : Nat) : Bool := match o.dst with | some d => Nat.beq d k | none => false
theorem dstIs_iff {o : Oper} {k : Nat} : dstIs o k = true ↔ o.dst = some k := by
  unfold dstIs
  cases o.dst with
  | none => simp
  | some d => simp

def chk1 (l : List Oper) (its : List It) (m i : Nat) (o : Oper) (it : It) : Bool :=
  (edges o).all (fun p => Nat.blt p i) &&
  (match o.dst with | none => true | some d => (l.take i).all fun o' => !dstIs o' d) &&
  (Nat.beq it.lo 0 || (edges o).any fun p => match its[p]? with | some q => (q.ef && Nat.beq (rank its p + 1) it.lo) || Nat.ble it.lo q.lo | none => false) &&
  (if it.ef then Nat.beq it.lo (rank its i) && Nat.beq it.hi (rank its i) && Nat.blt (rank its i) m else Nat.ble m it.hi || (List.range l.length).any fun j => match l[j]?, its[j]? with
    | some o', some q => (edges o').contains i && ((q.ef && Nat.ble (rank its j) it.hi) || Nat.ble q.hi it.hi)
    | _, _ => false) &&
  (it.ks.all fun k => ((edges o).any fun p => match l[p]? with | some o' => dstIs o' k | none => false) || l.all fun o' => !dstIs o' k || (edges o').contains i) &&
  (match o.guard with | none => true | some (j, _) => (edges o).contains j && match l[j]? with | some o' => o'.dst.isSome | none => false)

def chk (l : List Oper) (its : List It) (m : Nat) : Bool :=
  Nat.beq l.length its.length && (List.range l.length).all fun i => match l[i]?, its[i]? with
    | some o, some it => chk1 l its m i o it
    | _, _ => true

theorem chk_plan {l : List Oper} {its : List It} {m : Nat} (h : chk l its m = true) : Plan l its m := by
  unfold chk at h
  rw [Bool.and_eq_true] at h
  obtain ⟨h0, h⟩ := h
  have hlen : l.length = its.length := Nat.eq_of_beq_eq_true h0
  rw [List.all_eq_true] at h
  have one : ∀ (i : Nat) (o : Oper) (it : It), l[i]? = some o → its[i]? = some it → chk1 l its m i o it = true := fun i o it ho hi => by
    have := h i (List.mem_range.2 (List.getElem?_eq_some_iff.1 ho).1)
    rw [ho, hi] at this
    exact this
  have it_of : ∀ (i : Nat) (o : Oper), l[i]? = some o → ∃ it, its[i]? = some it := fun i o ho => ⟨_, List.getElem?_eq_getElem (by rw [← hlen]; exact (List.getElem?_eq_some_iff.1 ho).1)⟩
  have o_of : ∀ (i : Nat) (it : It), its[i]? = some it → ∃ o, l[i]? = some o := fun i it ho => ⟨_, List.getElem?_eq_getElem (by rw [hlen]; exact (List.getElem?_eq_some_iff.1 ho).1)⟩
  have parts : ∀ (i : Nat) (o : Oper) (it : It), l[i]? = some o → its[i]? = some it → _ := fun i o it ho hi => by
    have := one i o it ho hi
    unfold chk1 at this
    simp only [Bool.and_eq_true] at this
    exact this
  have dist : ∀ (i j : Nat) (o o' : Oper) (d : Nat), j < i → l[i]? = some o → l[j]? = some o' → o.dst = some d → o'.dst = some d → False := fun i j o o' d hij ho ho' hd hd' => by
    obtain ⟨it, hit⟩ := it_of i o ho
    obtain ⟨⟨⟨⟨⟨_, h2⟩, _⟩, _⟩, _⟩, _⟩ := parts i o it ho hit
    rw [hd] at h2
    simp only [] at h2
    rw [List.all_eq_true] at h2
    have hm : o' ∈ l.take i := List.mem_of_getElem? (i := j) (by rw [List.getElem?_take_of_lt hij]; exact ho')
    have := h2 o' hm
    rw [dstIs_iff.2 hd'] at this
    cases this
  refine ⟨hlen, fun i o ho p hp => ?_, fun i j o o' d ho ho' hd hd' => ?_, fun i o it ho hit => ?_, fun i it hit he => ?_, fun i it hit => ?_, fun i o it ho hit k hk => ?_, fun i o j b ho hg => ?_⟩
  · obtain ⟨it, hit⟩ := it_of i o ho
    obtain ⟨⟨⟨⟨⟨h1, _⟩, _⟩, _⟩, _⟩, _⟩ := parts i o it ho hit
    rw [List.all_eq_true] at h1
    have := h1 p hp
    simpa using this
  · rcases Nat.lt_trichotomy i j with h1 | h1 | h1
    · exact (dist j i o' o d h1 ho' ho hd' hd).elim
    · exact h1
    · exact (dist i j o o' d h1 ho ho' hd hd').elim
  · obtain ⟨⟨⟨⟨⟨_, _⟩, h3⟩, _⟩, _⟩, _⟩ := parts i o it ho hit
    rw [Bool.or_eq_true] at h3
    rcases h3 with h3 | h3
    · exact .inl (Nat.eq_of_beq_eq_true h3)
    · rw [List.any_eq_true] at h3
      obtain ⟨p, hp, h3⟩ := h3
      refine .inr ⟨p, hp, ?_⟩
      cases hq : its[p]? with
      | none => rw [hq] at h3; cases h3
      | some q =>
        rw [hq] at h3
        simp only [Bool.or_eq_true, Bool.and_eq_true] at h3
        exact ⟨q, rfl, h3.imp (fun h => ⟨h.1, Nat.eq_of_beq_eq_true h.2⟩) Nat.le_of_ble_eq_true⟩
  · obtain ⟨o, ho⟩ := o_of i it hit
    obtain ⟨⟨⟨⟨⟨_, _⟩, _⟩, h4⟩, _⟩, _⟩ := parts i o it ho hit
    rw [if_pos he] at h4
    simp only [Bool.and_eq_true] at h4
    exact ⟨Nat.eq_of_beq_eq_true h4.1.1, Nat.eq_of_beq_eq_true h4.1.2, by simpa using h4.2⟩
  · obtain ⟨o, ho⟩ := o_of i it hit
    obtain ⟨⟨⟨⟨⟨_, _⟩, _⟩, h4⟩, _⟩, _⟩ := parts i o it ho hit
    by_cases he : it.ef = true
    · exact .inr (.inl he)
    · rw [if_neg he] at h4
      rw [Bool.or_eq_true] at h4
      rcases h4 with h4 | h4
      · exact .inl (Nat.le_of_ble_eq_true h4)
      · rw [List.any_eq_true] at h4
        obtain ⟨j, hj, h4⟩ := h4
        refine .inr (.inr ?_)
        cases ho' : l[j]? with
        | none => rw [ho'] at h4; cases h4
        | some o' =>
          obtain ⟨q, hq⟩ := it_of j o' ho'
          rw [ho', hq] at h4
          simp only [Bool.and_eq_true, Bool.or_eq_true] at h4
          exact ⟨j, o', q, ho', hq, by simpa using h4.1, h4.2.imp (fun h => ⟨h.1, Nat.le_of_ble_eq_true h.2⟩) Nat.le_of_ble_eq_true⟩
  · obtain ⟨⟨⟨⟨⟨_, _⟩, _⟩, _⟩, h5⟩, _⟩ := parts i o it ho hit
    rw [List.all_eq_true] at h5
    have h5 := h5 k hk
    rw [Bool.or_eq_true] at h5
    rcases h5 with h5 | h5
    · rw [List.any_eq_true] at h5
      obtain ⟨p, hp, h5⟩ := h5
      cases ho' : l[p]? with
      | none => rw [ho'] at h5; cases h5
      | some o' => rw [ho'] at h5; exact .inl ⟨p, hp, o', ho', dstIs_iff.1 h5⟩
    · rw [List.all_eq_true] at h5
      refine .inr fun j o' hj hd => ?_
      have := h5 o' (List.mem_of_getElem? hj)
      rw [dstIs_iff.2 hd] at this
      simpa using this
  · obtain ⟨it, hit⟩ := it_of i o ho
    obtain ⟨_, h6⟩ := parts i o it ho hit
    rw [hg] at h6
    simp only [Bool.and_eq_true] at h6
    refine ⟨by simpa using h6.1, ?_⟩
    cases ho' : l[j]? with
    | none => rw [ho'] at h6; cases h6.2
    | some o' =>
      rw [ho'] at h6
      obtain ⟨d, hd⟩ := Option.isSome_iff_exists.1 h6.2
      exact ⟨o', d, rfl, hd⟩

/-- Where each operation may stand that is not free: there it is told what it does. -/
def more (l : List Oper) (its : List It) (fr : List Nat) (ps : List (Nat × Nat)) (m : Nat) : Bool :=
  (List.range its.length).all fun i => match its[i]? with
    | some it => it.ef || fr.contains i || (List.range (m + 1)).all fun s => Nat.blt s it.lo || Nat.blt it.hi s || Nat.beq s (rank its i) || ((it.ks.all fun k => (l.drop i).all fun o' => !dstIs o' k) && ps.any fun p => Nat.beq p.1 i && Nat.beq p.2 s)
    | none => true

def At (P : Program) (l : List Oper) (its : List It) (hs : List (Heap × Nat)) (E : List (Nat × AV)) (i s : Nat) : Prop :=
  match l[i]?, its[i]?, hs[s]? with
  | some o, some it, some (H, _) => ∃ tm1, selS E it.ks = some tm1 ∧ OpQ P o.op tm1 H it.v
  | _, _, _ => True

def Ats (P : Program) (l : List Oper) (its : List It) (hs : List (Heap × Nat)) (E : List (Nat × AV)) : List (Nat × Nat) → Prop
  | [] => True
  | p :: ps => At P l its hs E p.1 p.2 ∧ Ats P l its hs E ps

theorem Ats.get {P : Program} {l : List Oper} {its : List It} {hs : List (Heap × Nat)} {E : List (Nat × AV)} : ∀ {ps : List (Nat × Nat)}, Ats P l its hs E ps → ∀ p ∈ ps, At P l its hs E p.1 p.2 := by
  intro ps
  induction ps with
  | nil => intro _ p hp; cases hp
  | cons q ps ih =>
    intro h p hp
    rcases List.mem_cons.1 hp with rfl | hp
    · exact h.1
    · exact ih h.2 p hp

theorem selS_spec {tm : List (Nat × AV)} : ∀ (ks : List Nat) (tm1 : List (Nat × AV)), selS tm ks = some tm1 → tm1 = sel ks tm := by
  intro ks
  induction ks with
  | nil => intro tm1 h; exact (Option.some.inj h).symm
  | cons k ks ih =>
    intro tm1 h
    simp only [selS] at h
    split at h
    · rename_i v r h1 h2
      rw [← Option.some.inj h, ih r h2]
      simp only [sel, List.map_cons, tgetS_spec _ _ _ h1]
    · cases h

theorem sel_congr {ks : List Nat} {tm tm' : List (Nat × AV)} (h : ∀ k ∈ ks, tget tm k = tget tm' k) : sel ks tm = sel ks tm' := by
  unfold sel
  exact List.map_congr_left fun k hk => by rw [h k hk]

section
variable {P : Program} {c : Ctx} {n : Nat} {Q : Exit → St → Prop} {id : Nat}

theorem draw_end {l : List Oper} {its : List It} {hs : List (Heap × Nat)} {fr : List Nat} {st0 st : St} (ps : List (Nat × Nat)) (hm : P.follows .mixedOrders = true) (hcol : Col P st0 l its hs fr st) (hchk : chk l its (rank its its.length) = true)
    (hdn : (l.all fun o => match o.dst with | some d => Nat.blt d n | none => true) = true) (hmore : more l its fr ps (rank its its.length) = true) (hx : Ats P l its hs st.tm ps) (hQ : Q .normal st) : AW P c n (.region id l.toArray true) Q st0 := by
  intro ρ S a w hr
  have hp := chk_plan hchk
  have hf := hcol.facts
  have hE : ∀ x, tget st.tm x = ent l its st0.tm x := fun x => by
    obtain ⟨g1, g2⟩ := ent_spec l its st0.tm x hp.len hp.dist
    by_cases hx : ∃ (i : Nat) (o : Oper), l[i]? = some o ∧ o.dst = some x
    · obtain ⟨i, o, ho, hx⟩ := hx
      obtain ⟨it, hit⟩ : ∃ it, its[i]? = some it := ⟨_, List.getElem?_eq_getElem (by rw [← hp.len]; exact (List.getElem?_eq_some_iff.1 ho).1)⟩
      rw [g1 i o it ho hit hx]
      exact hf.val i o it x ho hit hx (fun j o' hij hj hd => by have := hp.dist i j o o' x ho hj hx hd; omega)
    · rw [g2 (fun i o ho hx' => hx ⟨i, o, ho, hx'⟩)]
      exact hf.old x (fun i o ho hx' => hx ⟨i, o, ho, hx'⟩)
  -- what each operation saw
  obtain ⟨F, hFF⟩ : ∃ F : Nat → List (Nat × AV), ∀ (i : Nat) (o : Oper) (it : It), l[i]? = some o → its[i]? = some it → Known P its hs (fr.contains i) i o it (F i) ∧ (∀ k, (∀ (j : Nat) (o' : Oper), i ≤ j → l[j]? = some o' → o'.dst ≠ some k) → tget st.tm k = tget (F i) k) ∧
      (∀ (j : Nat) (o' : Oper) (jt : It) (x : Nat), j < i → l[j]? = some o' → its[j]? = some jt → o'.dst = some x → (∀ (k : Nat) (o'' : Oper), j < k → k < i → l[k]? = some o'' → o''.dst ≠ some x) → tget (F i) x = jt.v) ∧
      ∀ x, (∀ (j : Nat) (o' : Oper), j < i → l[j]? = some o' → o'.dst ≠ some x) → tget (F i) x = tget st0.tm x := by
    refine Classical.axiomOfChoice (r := fun i tm => ∀ (o : Oper) (it : It), l[i]? = some o → its[i]? = some it → Known P its hs (fr.contains i) i o it tm ∧ (∀ k, (∀ (j : Nat) (o' : Oper), i ≤ j → l[j]? = some o' → o'.dst ≠ some k) → tget st.tm k = tget tm k) ∧
      (∀ (j : Nat) (o' : Oper) (jt : It) (x : Nat), j < i → l[j]? = some o' → its[j]? = some jt → o'.dst = some x → (∀ (k : Nat) (o'' : Oper), j < k → k < i → l[k]? = some o'' → o''.dst ≠ some x) → tget tm x = jt.v) ∧
      ∀ x, (∀ (j : Nat) (o' : Oper), j < i → l[j]? = some o' → o'.dst ≠ some x) → tget tm x = tget st0.tm x) fun i => ?_
    by_cases hi : ∃ o it, l[i]? = some o ∧ its[i]? = some it
    · obtain ⟨o, it, ho, hit⟩ := hi
      obtain ⟨tm, k⟩ := hf.known i o it ho hit
      refine ⟨tm, fun o' it' ho' hit' => ?_⟩
      rw [ho] at ho'; rw [hit] at hit'
      obtain rfl := Option.some.inj ho'
      obtain rfl := Option.some.inj hit'
      exact k
    · exact ⟨[], fun o it ho hit => (hi ⟨o, it, ho, hit⟩).elim⟩
  have hF : ∀ (i : Nat) (o : Oper) (it : It) (k : Nat), l[i]? = some o → its[i]? = some it → k ∈ it.ks → (∀ (p : Nat) (o' : Oper) (jt : It), p ∈ edges o → l[p]? = some o' → its[p]? = some jt → o'.dst = some k → tget (F i) k = jt.v) ∧
      ((∀ (j : Nat) (o' : Oper), l[j]? = some o' → o'.dst = some k → i ∈ edges o') → tget (F i) k = tget st0.tm k) := fun i o it k ho hit _ => by
    obtain ⟨_, _, k3, k4⟩ := hFF i o it ho hit
    refine ⟨fun p o' jt hp' ho' hjt hd => k3 p o' jt k (hp.up i o ho p hp') ho' hjt hd fun q o'' h1 h2 h3 h4 => ?_, fun hj => k4 k fun j o' hlt ho' hd => ?_⟩
    · have := hp.dist p q o' o'' k ho' h3 hd h4; omega
    · have := hp.up j o' ho' i (hj j o' ho' hd); omega
  have hob : ∀ (i s : Nat) (it : It), its[i]? = some it → it.lo ≤ s → s ≤ it.hi → s ≤ rank its its.length → Ob P l its F hs i s := by
    intro i s it0 hit0 hlo hhi hs' o it H X ho hit hH
    rw [hit0] at hit
    obtain rfl := Option.some.inj hit
    obtain ⟨⟨r, k1, k2, k3⟩, k4, _, _⟩ := hFF i o it0 ho hit0
    have hrun : r = true → Run P o.op it0.ef it0.v (sel it0.ks (F i)) s hs H X := fun hr => by
      obtain ⟨⟨H', X', h1, h2⟩, h3⟩ := k2 hr
      by_cases hnat : s = rank its i
      · subst hnat
        rw [h1] at hH
        obtain ⟨rfl, rfl⟩ := Prod.mk.inj (Option.some.inj hH)
        exact h2
      · have he : it0.ef = false := by
          cases he : it0.ef with
          | false => rfl
          | true =>
            obtain ⟨e1, e2, _⟩ := hp.eff i it0 hit0 he
            omega
        unfold Run
        rw [he]
        simp only [Bool.false_eq_true, if_false]
        unfold more at hmore
        rw [List.all_eq_true] at hmore
        have hm' := hmore i (List.mem_range.2 (List.getElem?_eq_some_iff.1 hit0).1)
        rw [hit0] at hm'
        simp only [he, Bool.false_or, Bool.or_eq_true] at hm'
        rcases hm' with hm' | hm'
        · exact (h3 hm').2 H
        · rw [List.all_eq_true] at hm'
          have := hm' s (List.mem_range.2 (by omega))
          simp only [Bool.or_eq_true] at this
          rcases this with ((h' | h') | h') | h'
          · have := Nat.le_of_ble_eq_true h'; omega
          · have := Nat.le_of_ble_eq_true h'; omega
          · exact absurd (Nat.eq_of_beq_eq_true h') hnat
          · rw [Bool.and_eq_true, List.any_eq_true] at h'
            obtain ⟨hks, p, hp1, hp2⟩ := h'
            have hsel : sel it0.ks st.tm = sel it0.ks (F i) := sel_congr fun k hk => k4 k fun j o' hij hj hd => by
              have h8 := List.all_eq_true.1 hks k hk
              have h9 := List.all_eq_true.1 h8 o' (List.mem_of_getElem? (i := j - i) (by rw [List.getElem?_drop, Nat.add_sub_cancel' hij]; exact hj))
              rw [dstIs_iff.2 hd] at h9
              cases h9
            rw [Bool.and_eq_true] at hp2
            have e1 := Nat.eq_of_beq_eq_true hp2.1
            have e2 := Nat.eq_of_beq_eq_true hp2.2
            have := hx.get p hp1
            unfold At at this
            rw [e1, e2, ho, hit0, hH] at this
            obtain ⟨tm1, k1, k2⟩ := this
            rw [selS_spec _ _ k1, hsel] at k2
            exact k2
    cases hg : o.guard with
    | none =>
      rw [hg] at k1
      exact hrun k1
    | some jb =>
      obtain ⟨j, b⟩ := jb
      rw [hg] at k1
      obtain ⟨q, b', q1, q2, q3⟩ := k1
      refine ⟨b', ⟨q, q1, q2⟩, fun e => hrun (by rw [q3, e]; simp), fun e => k3 (by rw [q3]; simpa using e)⟩
  have hno : ∀ i, ¬ L (Array.replicate l.length false) i := fun i h => by
    unfold L at h
    rw [Array.getD_eq_getD_getElem?, Array.getElem?_replicate] at h
    split at h <;> simp at h
  have hinit : DInv c n l its (rank its its.length) hs st0.tm (Array.replicate l.length false) a w.drew 0 :=
    ⟨by simp, fun i o _ h => (hno i h).elim, fun i it hit he => ⟨fun h => (hno i h).elim, fun h => absurd h (Nat.not_lt_zero _)⟩, Nat.zero_le _,
      ⟨st0.tm, st0.h, st0.nx, ρ, S, hf.zero, hr.same (Same.drew w), fun i o it x _ _ _ h => (hno i h).elim, fun _ _ => rfl⟩⟩
  refine wp_region_any hm ?_
  have key := draw_any (Q := Q) hp (fun o ho d hd => by
    rw [List.all_eq_true] at hdn
    have := hdn o ho
    rw [hd] at this
    simpa using this) hF hE hob rfl hf.last hQ l.length _ a w.drew 0 (by
      unfold left
      exact Nat.le_trans List.countP_le_length (by simp)) hinit
  simpa using key

def DR (P : Program) (c : Ctx) (n id : Nat) (Q : Exit → St → Prop) (l : List Oper) (st0 : St) (done : List Oper) (its : List It) (hs : List (Heap × Nat)) (fr : List Nat) (st : St) (rest : List Oper) : Prop :=
  l = done.reverse ++ rest → Col P st0 done.reverse its.reverse hs.reverse fr st → AW P c n (.region id l.toArray true) Q st0

theorem dr_go {l : List Oper} {st0 : St} (k : DR P c n id Q l st0 [] [] [(st0.h, st0.nx)] [] st0 l) : AW P c n (.region id l.toArray true) Q st0 := k rfl .nil

variable {l done rest : List Oper} {st0 : St} {its : List It} {hs : List (Heap × Nat)} {fr : List Nat} {tm tm1 : List (Nat × AV)} {h : Heap} {nx : Nat} {op : Op} {ty : TypeId} {pos : String} {aft : Array Edge} {v : AV} {d : Nat}

/-- Free: at any heap. -/
theorem dr_f (lo hi : Nat) (ks : List Nat) (hs1 : selS tm ks = some tm1) (hv : ∀ H, OpP P op tm1 H v)
    (k : DR P c n id Q l st0 (⟨some d, op, ty, pos, aft, none⟩ :: done) (⟨v, false, lo, hi, ks⟩ :: its) hs (its.length :: fr) ⟨(d, v) :: tm, h, nx⟩ rest) :
    DR P c n id Q l st0 done its hs fr ⟨tm, h, nx⟩ (⟨some d, op, ty, pos, aft, none⟩ :: rest) := fun hl hc => by
  have hs1' := selS_spec _ _ hs1
  subst hs1'
  refine k (by rw [hl, List.reverse_cons, List.append_assoc]; rfl) ?_
  have := Col.f (o := ⟨some d, op, ty, pos, aft, none⟩) (it := ⟨v, false, lo, hi, ks⟩) hc rfl rfl (fun H => (hv H).q)
  rw [List.length_reverse] at this
  rw [List.reverse_cons, List.reverse_cons]
  exact this

theorem dr_fq (lo hi : Nat) (ks : List Nat) (hs1 : selS tm ks = some tm1) (hv : ∀ H, OpQ P op tm1 H v)
    (k : DR P c n id Q l st0 (⟨some d, op, ty, pos, aft, none⟩ :: done) (⟨v, false, lo, hi, ks⟩ :: its) hs (its.length :: fr) ⟨(d, v) :: tm, h, nx⟩ rest) :
    DR P c n id Q l st0 done its hs fr ⟨tm, h, nx⟩ (⟨some d, op, ty, pos, aft, none⟩ :: rest) := fun hl hc => by
  have hs1' := selS_spec _ _ hs1
  subst hs1'
  refine k (by rw [hl, List.reverse_cons, List.append_assoc]; rfl) ?_
  have := Col.f (o := ⟨some d, op, ty, pos, aft, none⟩) (it := ⟨v, false, lo, hi, ks⟩) hc rfl rfl hv
  rw [List.length_reverse] at this
  rw [List.reverse_cons, List.reverse_cons]
  exact this

/-- At this stage; lo, hi: the stages at which it may come up. -/
theorem dr_q (lo hi : Nat) (ks : List Nat) (hs1 : selS tm ks = some tm1) (hv : OpP P op tm1 h v)
    (k : DR P c n id Q l st0 (⟨some d, op, ty, pos, aft, none⟩ :: done) (⟨v, false, lo, hi, ks⟩ :: its) hs fr ⟨(d, v) :: tm, h, nx⟩ rest) :
    DR P c n id Q l st0 done its hs fr ⟨tm, h, nx⟩ (⟨some d, op, ty, pos, aft, none⟩ :: rest) := fun hl hc => by
  have hs1' := selS_spec _ _ hs1
  subst hs1'
  refine k (by rw [hl, List.reverse_cons, List.append_assoc]; rfl) ?_
  have := Col.q (o := ⟨some d, op, ty, pos, aft, none⟩) (it := ⟨v, false, lo, hi, ks⟩) hc rfl rfl hv.q
  rw [List.reverse_cons, List.reverse_cons]
  exact this

/-- One that turns the heap; s: which of them it is. -/
theorem dr_e {h' : Heap} {nx' : Nat} (s : Nat) (ks : List Nat) (hs1 : selS tm ks = some tm1) (hv : OpOK P op ⟨tm1, h, nx⟩ v h' nx')
    (k : DR P c n id Q l st0 (⟨some d, op, ty, pos, aft, none⟩ :: done) (⟨v, true, s, s, ks⟩ :: its) ((h', nx') :: hs) fr ⟨(d, v) :: tm, h', nx'⟩ rest) :
    DR P c n id Q l st0 done its hs fr ⟨tm, h, nx⟩ (⟨some d, op, ty, pos, aft, none⟩ :: rest) := fun hl hc => by
  have hs1' := selS_spec _ _ hs1
  subst hs1'
  refine k (by rw [hl, List.reverse_cons, List.append_assoc]; rfl) ?_
  have := Col.e (o := ⟨some d, op, ty, pos, aft, none⟩) (it := ⟨v, true, s, s, ks⟩) hc rfl rfl hv
  rw [List.reverse_cons, List.reverse_cons, List.reverse_cons]
  exact this

theorem dr_n {h' : Heap} {nx' : Nat} (s : Nat) (ks : List Nat) (hs1 : selS tm ks = some tm1) (hv : OpOK P op ⟨tm1, h, nx⟩ v h' nx')
    (k : DR P c n id Q l st0 (⟨none, op, ty, pos, aft, none⟩ :: done) (⟨v, true, s, s, ks⟩ :: its) ((h', nx') :: hs) fr ⟨tm, h', nx'⟩ rest) :
    DR P c n id Q l st0 done its hs fr ⟨tm, h, nx⟩ (⟨none, op, ty, pos, aft, none⟩ :: rest) := fun hl hc => by
  have hs1' := selS_spec _ _ hs1
  subst hs1'
  refine k (by rw [hl, List.reverse_cons, List.append_assoc]; rfl) ?_
  have := Col.e (o := ⟨none, op, ty, pos, aft, none⟩) (it := ⟨v, true, s, s, ks⟩) hc rfl rfl hv
  rw [List.reverse_cons, List.reverse_cons, List.reverse_cons]
  exact this

theorem dr_end (ps : List (Nat × Nat)) (hm : P.follows .mixedOrders = true) (hchk : chk done.reverse its.reverse (rank its.reverse its.length) = true) (hdn : (done.all fun o => match o.dst with | some d => Nat.blt d n | none => true) = true)
    (hmore : more done.reverse its.reverse fr ps (rank its.reverse its.length) = true) (hx : Ats P done.reverse its.reverse hs.reverse tm ps) (hQ : Q .normal ⟨tm, h, nx⟩) : DR P c n id Q l st0 done its hs fr ⟨tm, h, nx⟩ [] := fun hl hc => by
  rw [List.append_nil] at hl
  subst hl
  rw [← @List.length_reverse _ its] at hchk hmore
  exact draw_end ps hm hc hchk (by rw [List.all_reverse]; exact hdn) hmore hx hQ

end
end Go.Proofs.Ytloddmbbfkejcaa.Abs
end
section
/-
  Rows of one's own that are written no more; calls as operations. It holds of any program.
-/
namespace Go.Proofs.Ytloddmbbfkejcaa.Abs

theorem OpQ.ok {P : Program} {op : Op} {tm : List (Nat × AV)} {h : Heap} {nx : Nat} {v : AV} (k : OpQ P op tm h v) : OpOK P op ⟨tm, h, nx⟩ v h nx := k nx

/-! ### A row of one's own is from here on read alone -/

mutual
def AV.frz (b sz : Nat) (xs : List AV) : AV → AV
  | .own b' st len => if b' = b then (if st + len ≤ xs.length then .sl sz ((xs.drop st).take len) else .top) else .own b' st len
  | .ptr b' i o => if b' = b then .top else .ptr b' i o
  | .omap b' => if b' = b then .top else .omap b'
  | .fn f ys zs => .fn f (frzs b sz xs ys) (frzs b sz xs zs)
  | .ifc t x => .ifc t (x.frz b sz xs)
  | .agg ys => .agg (frzs b sz xs ys)
  | .tup ys => .tup (frzs b sz xs ys)
  | .top => .top
  | .bool q => .bool q
  | .int k q => .int k q
  | .str s => .str s
  | .nilp => .nilp
  | .lp cs => .lp cs
  | .nils => .nils
  | .sl sz' ys => .sl sz' ys
  | .nilm => .nilm
  | .nilf => .nilf
  | .nili => .nili
def frzs (b sz : Nat) (xs : List AV) : List AV → List AV
  | [] => []
  | y :: ys => y.frz b sz xs :: frzs b sz xs ys
end

theorem frzs_map (b sz : Nat) (xs : List AV) : ∀ ys, frzs b sz xs ys = ys.map (AV.frz b sz xs)
  | [] => rfl
  | y :: ys => by rw [frzs, frzs_map b sz xs ys]; rfl

theorem get_frzs {b sz : Nat} {xs ys : List AV} {i : Nat} {y : AV} (h : (frzs b sz xs ys)[i]? = some y) : ∃ z, ys[i]? = some z ∧ y = z.frz b sz xs := by
  rw [frzs_map, List.getElem?_map] at h
  obtain ⟨z, h1, h2⟩ := Option.map_eq_some_iff.1 h
  exact ⟨z, h1, h2.symm⟩

theorem frz_cells (b sz : Nat) (xs : List AV) (x : AV) : (x.frz b sz xs).cells = x.cells.map (AV.frz b sz xs) := by
  cases x
  case own b' st len =>
    show (if b' = b then (if st + len ≤ xs.length then AV.sl sz ((xs.drop st).take len) else .top) else .own b' st len).cells = [if b' = b then (if st + len ≤ xs.length then AV.sl sz ((xs.drop st).take len) else .top) else .own b' st len]
    by_cases h1 : b' = b
    · by_cases h2 : st + len ≤ xs.length
      · simp [h1, h2, AV.cells]
      · simp [h1, h2, AV.cells]
    · simp [h1, AV.cells]
  case ptr b' i o =>
    show (if b' = b then AV.top else .ptr b' i o).cells = [if b' = b then AV.top else .ptr b' i o]
    by_cases h1 : b' = b <;> simp [h1, AV.cells]
  case omap b' =>
    show (if b' = b then AV.top else .omap b').cells = [if b' = b then AV.top else .omap b']
    by_cases h1 : b' = b <;> simp [h1, AV.cells]
  case agg ys => exact frzs_map b sz xs ys
  all_goals rfl

theorem flat_frz (b sz : Nat) (xs ys : List AV) : flat (ys.map (AV.frz b sz xs)) = (flat ys).map (AV.frz b sz xs) := by
  unfold flat
  induction ys with
  | nil => rfl
  | cons y ys ih => simp only [List.map_cons, List.flatMap_cons, List.map_append, ih, frz_cells]

def Blk.frz (b sz : Nat) (xs : List AV) : Blk → Blk
  | .cells sz' ys => .cells sz' (ys.map (AV.frz b sz xs))
  | .map es => .map (es.map fun p => (p.1.frz b sz xs, p.2.frz b sz xs))

theorem VR.frz {S S' : Nat → Prop} {w : World} {ρ : Rho} {b sz : Nat} {xs : List AV} (hS : ∀ b, S b → S' b) (hpl : xs.all AV.plain = true) {x : AV} {v : Value} (h : VR S w ρ x v) :
    ((∃ r, ρ b = some r ∧ BR S w ρ r (.cells sz xs) ∧ S' r.blk) ∨ (ρ b = none ∧ xs = [])) → VR S' w ρ (x.frz b sz xs) v := by
  induction h with
  | top => intro _; exact .top
  | bool => intro _; exact .bool
  | int => intro _; exact .int
  | str => intro _; exact .str
  | nilp => intro _; exact .nilp
  | @ptr ρ b' i o r h =>
    intro _
    show VR S' w ρ (if b' = b then .top else .ptr b' i o) _
    split
    · exact .top
    · exact .ptr h
  | lp vs h hl hcell hv ih => intro _; exact (VR.lp vs h hl hcell hv).mono (fun b hb => ⟨hS b hb, rfl⟩) (fun _ _ h => h)
  | nils => intro _; exact .nils
  | sl0 => intro _; exact .sl0
  | sl vs h hl hsz hc hcell hv ih => intro _; exact (VR.sl vs h hl hsz hc hcell hv).mono (fun b hb => ⟨hS b hb, rfl⟩) (fun _ _ h => h)
  | @own ρ b' st len r c h h1 h2 =>
    intro hb
    show VR S' w ρ (if b' = b then (if st + len ≤ xs.length then .sl sz ((xs.drop st).take len) else .top) else .own b' st len) _
    split
    · rename_i e
      subst e
      split
      · rename_i hlen
        rcases hb with ⟨q, e1, e2, e3⟩ | ⟨e1, e2⟩
        · obtain rfl := Option.some.inj (h.symm.trans e1)
          exact (VR.own h h1 h2).lent h e2 hlen hpl hS e3 _
        · rw [e1] at h; cases h
      · exact .top
    · exact .own h h1 h2
  | @own0 ρ b' st a =>
    intro _
    show VR S' w ρ (if b' = b then (if st + 0 ≤ xs.length then .sl sz ((xs.drop st).take 0) else .top) else .own b' st 0) _
    split
    · split
      · rw [List.take_zero]; exact .sl0
      · exact .top
    · exact .own0
  | nilm => intro _; exact .nilm
  | @omap ρ b' r h =>
    intro _
    show VR S' w ρ (if b' = b then .top else .omap b') _
    split
    · exact .top
    · exact .omap h
  | fn us vs h1 h2 h3 h4 ih1 ih2 =>
    intro hb
    exact .fn us vs (by rw [frzs_map, List.length_map]; exact h1) (by rw [frzs_map, List.length_map]; exact h2)
      (fun i x u hx hu => by obtain ⟨z, hz, rfl⟩ := get_frzs hx; exact ih1 i z u hz hu hb) (fun i x u hx hu => by obtain ⟨z, hz, rfl⟩ := get_frzs hx; exact ih2 i z u hz hu hb)
  | nilf => intro _; exact .nilf
  | ifc h ih => intro hb; exact .ifc (ih hb)
  | nili => intro _; exact .nili
  | agg vs h1 h2 ih => intro hb; exact .agg vs (by rw [frzs_map, List.length_map]; exact h1) (fun i x u hx hu => by obtain ⟨z, hz, rfl⟩ := get_frzs hx; exact ih i z u hz hu hb)
  | tup vs h1 h2 ih => intro hb; exact .tup vs (by rw [frzs_map, List.length_map]; exact h1) (fun i x u hx hu => by obtain ⟨z, hz, rfl⟩ := get_frzs hx; exact ih i z u hz hu hb)

theorem BR.frz {S S' : Nat → Prop} {w : World} {ρ : Rho} {b sz : Nat} {xs : List AV} (hS : ∀ b, S b → S' b) (hpl : xs.all AV.plain = true) (hb : (∃ r, ρ b = some r ∧ BR S w ρ r (.cells sz xs) ∧ S' r.blk) ∨ (ρ b = none ∧ xs = [])) {r : R} {B : Blk} (h : BR S w ρ r B) : BR S' w ρ r (B.frz b sz xs) := by
  cases B with
  | cells sz' ys =>
    obtain ⟨h1, h2, h3, h4, cur, e, h5, h6, h7, h8⟩ := h
    refine ⟨h1, fun x hx => ?_, by rw [List.length_map]; exact h3, h4, cur, e, h5, h6, h7, fun i x u hx hu => ?_⟩
    · obtain ⟨y, hy, rfl⟩ := List.mem_map.1 hx
      rw [frz_cells, List.length_map]; exact h2 y hy
    · rw [flat_frz, List.getElem?_map] at hx
      obtain ⟨y, hy, rfl⟩ := Option.map_eq_some_iff.1 hx
      exact (h8 i y u hy hu).frz hS hpl hb
  | map es =>
    obtain ⟨ents, clock, h1, h2, h3⟩ := h
    refine ⟨ents, clock, h1, by rw [List.length_map]; exact h2, fun i p e hp he => ?_⟩
    rw [List.getElem?_map] at hp
    obtain ⟨q, hq, rfl⟩ := Option.map_eq_some_iff.1 hp
    exact ⟨(h3 i q e hq he).1.frz hS hpl hb, (h3 i q e hq he).2.frz hS hpl hb⟩

theorem hget_map (h : Heap) (f : Blk → Blk) (k : Nat) : hget (h.map fun p => (p.1, f p.2)) k = (hget h k).map f := by
  induction h with
  | nil => rfl
  | cons p t ih =>
    obtain ⟨i, B⟩ := p
    simp only [List.map_cons, hget]
    split
    · rfl
    · exact ih

theorem tget_map (tm : List (Nat × AV)) (f : AV → AV) (hf : f .top = .top) (k : Nat) : tget (tm.map fun p => (p.1, f p.2)) k = f (tget tm k) := by
  induction tm with
  | nil => exact hf.symm
  | cons p t ih =>
    obtain ⟨i, v⟩ := p
    simp only [List.map_cons, tget]
    split
    · rfl
    · exact ih

/-- The state in which block b is read alone. -/
def frzS (b sz : Nat) (xs : List AV) (st : St) : St := ⟨st.tm.map fun p => (p.1, p.2.frz b sz xs), (hdel st.h b).map fun p => (p.1, p.2.frz b sz xs), st.nx⟩

theorem Rep.frz {c : Ctx} {n : Nat} {st : St} {ρ : Rho} {S : Nat → Prop} {a : Act} {w : World} (h : Rep c n st ρ S a w) {b sz : Nat} {xs : List AV} (hb : hget st.h b = some (.cells sz xs)) (hpl : xs.all AV.plain = true)
    (hnew : ∀ r, ρ b = some r → c.S0 r.blk ∨ c.w0.heap.size ≤ r.blk) :
    ∃ S', Rep c n (frzS b sz xs st) ρ S' a w ∧ (∀ k, S k → S' k) ∧ (∀ k, S' k → S k ∨ ∃ r, ρ b = some r ∧ r.blk = k) ∧ ∀ {x : AV} {v : Value}, VR S w ρ x v → VR S' w ρ (x.frz b sz xs) v := by
  let S' : Nat → Prop := fun k => S k ∨ ∃ r, ρ b = some r ∧ r.blk = k
  have hS : ∀ k, S k → S' k := fun k hk => .inl hk
  have hbb : (∃ r, ρ b = some r ∧ BR S w ρ r (.cells sz xs) ∧ S' r.blk) ∨ (ρ b = none ∧ xs = []) := by
    rcases h.sim.blk b _ hb with ⟨r, h1, h2, _, _⟩ | ⟨h1, sz', h2⟩
    · exact .inl ⟨r, h1, h2, .inr ⟨r, h1, rfl⟩⟩
    · simp only [Blk.cells.injEq] at h2; exact .inr ⟨h1, h2.2⟩
  have hh : ∀ k B, hget (frzS b sz xs st).h k = some B → ∃ X, k ≠ b ∧ hget st.h k = some X ∧ B = X.frz b sz xs := fun k B hk => by
    have hk : hget ((hdel st.h b).map fun p => (p.1, p.2.frz b sz xs)) k = some B := hk
    rw [hget_map _ (fun B => B.frz b sz xs), hget_del] at hk
    split at hk
    · cases hk
    · rename_i hne
      obtain ⟨X, h1, h2⟩ := Option.map_eq_some_iff.1 hk
      exact ⟨X, fun e => hne e.symm, h1, h2.symm⟩
  refine ⟨S', ⟨h.size, h.defers, fun i => ?_, ⟨fun k B hk => ?_, fun k k' B B' q q' hk hk' => ?_, fun k hk => ?_⟩, ?_, h.fresh, h.le, fun k B hk => ?_⟩, hS, fun k hk => hk, fun hv => hv.frz hS hpl hbb⟩
  · show VR S' w ρ (tget (st.tm.map fun p => (p.1, p.2.frz b sz xs)) i) _
    rw [tget_map _ (fun x => x.frz b sz xs) rfl]
    exact (h.tmps i).frz hS hpl hbb
  · obtain ⟨X, hne, h1, rfl⟩ := hh k B hk
    rcases h.sim.blk k X h1 with ⟨q, e1, e2, e3, e4⟩ | ⟨e1, sz', rfl⟩
    · refine .inl ⟨q, e1, e2.frz hS hpl hbb, ?_, e4⟩
      rintro (h' | ⟨r, h', h''⟩)
      · exact e3 h'
      · exact h.sim.inj b k _ X r q hb h1 h' e1 (fun e => hne e.symm) h''
    · exact .inr ⟨e1, sz', rfl⟩
  · obtain ⟨X, _, h1, _⟩ := hh k B hk
    obtain ⟨X', _, h1', _⟩ := hh k' B' hk'
    exact h.sim.inj k k' X X' q q' h1 h1'
  · rcases hk with hk | ⟨r, h1, rfl⟩
    · exact h.sim.lt k hk
    · exact (blk_of h hb h1).2.1
  · refine ⟨h.post.os, h.post.tape, h.post.output, h.post.size, h.post.keep, fun k hk => .inl (h.post.sIn k hk), fun k hk => ?_, fun k B q hk hq => ?_, h.post.ids⟩
    · rcases hk with hk | ⟨r, h1, rfl⟩
      · exact h.post.sNew k hk
      · exact hnew r h1
    · obtain ⟨X, _, h1, _⟩ := hh k B hk
      exact h.post.own k X q h1 hq
  · obtain ⟨X, _, h1, _⟩ := hh k B hk
    exact h.dom k X h1

section
variable {P : Program} {n : Nat} {w0 : World} {h0 : Heap} {S0 : Nat → Prop} {r0 : Rho} {nx0 : Nat}

/-- A block that is none of the caller's is new. -/
theorem Rep.new {st : St} {ρ : Rho} {S : Nat → Prop} {a : Act} {w : World} (h : Rep ⟨w0, Own r0 h0, S0, r0, nx0⟩ n st ρ S a w) {b : Nat} {B : Blk} (hb : hget st.h b = some B) (h1 : (h0.all fun p => Nat.blt p.1 nx0 && (hget st.h p.1).isSome && !Nat.beq p.1 b) = true) {r : R} (hr : ρ b = some r) : w0.heap.size ≤ r.blk := by
  rcases h.post.own b B r hb hr with ⟨i, X, q, e1, e2, e3⟩ | h'
  · exfalso
    have := hall_get h1 e1
    simp only [Bool.and_eq_true, Bool.not_eq_true'] at this
    obtain ⟨⟨k1, k2⟩, k3⟩ := this
    obtain ⟨Y, hY⟩ := Option.isSome_iff_exists.1 k2
    have hlt : i < nx0 := by simpa using k1
    have hne : i ≠ b := fun e => by rw [e] at k3; simp at k3
    have e4 : ρ i = some q := (h.post.ids i hlt).trans e2
    exact h.sim.inj i b Y B q r hY hb e4 hr hne e3
  · exact h'

theorem aw_frz {code : Code} {Q : Exit → St → Prop} {st : St} (b : Nat) {sz : Nat} {xs : List AV} (hb : hget st.h b = some (.cells sz xs)) (hpl : xs.all AV.plain = true) (h1 : (h0.all fun p => Nat.blt p.1 nx0 && (hget st.h p.1).isSome && !Nat.beq p.1 b) = true)
    (k : AW P ⟨w0, Own r0 h0, S0, r0, nx0⟩ n code Q (frzS b sz xs st)) : AW P ⟨w0, Own r0 h0, S0, r0, nx0⟩ n code Q st := fun ρ S a w hr => by
  obtain ⟨S', hr', _⟩ := hr.frz hb hpl (fun r hq => .inr (hr.new hb h1 hq))
  exact k ρ S' a w hr'

end

end Go.Proofs.Ytloddmbbfkejcaa.Abs
end
section
/-
  Calls as operations; rows that are read alone from the beginning. It holds of any program.
-/
namespace Go.Proofs.Ytloddmbbfkejcaa.Abs

section
variable {P : Program}

/-- What a call does. -/
theorem call_does {c : Ctx} {n : Nat} {tm : List (Nat × AV)} {h : Heap} {nx : Nat} {o : Oper} {fo : Operand} {xs : Array Operand} {ts : Array TypeId}
    (f : FuncId) (first caps : List AV) (l : List (Nat × Nat)) (k : Nat) (al : Bool) (hc : Heap) (ps : List Nat) (args largs : List AV) (Q : AV → Heap → Nat → Prop) (ho : o.op = .call { callee := .value fo, args := xs, argTypes := ts })
    (hfo : oev tm fo = .fn (.func f) first caps) (hargs : args = first ++ (xs.toList.map (oev tm) ++ caps))
    (hcall : ∀ (vs : Array Value) (w : World), (callFunc f vs).run P w = .ok (.enter f vs) w)
    (hl : l.all (fun p => p.1 < k) = true)
    (hh : ∀ p ∈ hc, hget h (swp l k nx p.1) = (hget hc p.1).map (Blk.ren (swp l k nx)) ∧ ps.contains (swp l k nx p.1) = true)
    (hi : ((hc.map (fun p => p.1)).all fun b => (hc.map (fun p => p.1)).all fun b' => b == b' || swp l k nx b != swp l k nx b') = true)
    (hlend : Lends al h (swp l k nx) ps args largs)
    (hac : AC P f largs hc k al Q) {ρ : Rho} {S : Nat → Prop} {a : Act} {w : World} (hr : Rep c n ⟨tm, h, nx⟩ ρ S a w) :
    Does P o a w fun v w' => ∃ r h' nx' ρ' S', Q r h' nx' ∧ VR S' w' ρ' r v ∧ Sim ρ' h' S' w' ∧ (∀ b, nx' ≤ b → ρ' b = none) ∧ (∀ b B, hget h' b = some B → b < nx') ∧
      CPost al (fun b => ρ (swp l k nx b)) hc k (fun b => S b ∨ (al = false ∧ Own ρ (rest h ps) b)) w ρ' h' S' w' := by
  have hf := hr.oev fo
  rw [show (St.mk tm h nx).tm = tm from rfl, hfo] at hf
  generalize hfv : a.eval fo = fv at hf
  cases hf with
  | fn us vs h1 h2 h3 h4 =>
  have hrun : (execOp a.eval o).run P w = .ok (.enter f (us ++ xs.map a.eval ++ vs)) w := by
    unfold execOp
    rw [ho]
    simp only [resolve, hfv, Deferred.ofValue, Sem.run_bind, Sem.run_pure, Result.andThen_ok, invoke]
    exact hcall _ _
  unfold Does
  rw [hrun]
  obtain ⟨hsim, hfr, hps, hown⟩ := call_sim hr l k al hc ps hl hh hi
  have hargsVR : ∀ (i : Nat) (x : AV) (u : Value), args[i]? = some x → (us ++ xs.map a.eval ++ vs)[i]? = some u → VR S w ρ x u := by
    intro i x u hx hu
    rw [hargs] at hx
    rw [Array.append_assoc] at hu
    rcases Nat.lt_or_ge i first.length with hlt | hge
    · rw [List.getElem?_append_left hlt] at hx
      rw [Array.getElem?_append_left (by omega)] at hu
      exact h3 i x u hx hu
    · rw [List.getElem?_append_right hge] at hx
      rw [Array.getElem?_append_right (by omega), ← h1] at hu
      generalize i - first.length = j at hx hu
      rcases Nat.lt_or_ge j xs.size with hlt | hge
      · rw [List.getElem?_append_left (by simpa using hlt)] at hx
        rw [Array.getElem?_append_left (by simpa using hlt)] at hu
        rw [List.getElem?_map, Array.getElem?_toList] at hx
        rw [Array.getElem?_map] at hu
        obtain ⟨y, hy, rfl⟩ := Option.map_eq_some_iff.1 hx
        rw [hy] at hu
        obtain rfl := Option.some.inj hu
        exact hr.oev y
      · rw [List.getElem?_append_right (by simpa using hge)] at hx
        rw [Array.getElem?_append_right (by simpa using hge)] at hu
        simp only [List.length_map, Array.length_toList] at hx
        simp only [Array.size_map] at hu
        exact h4 _ x u hx hu
  have hlen : args.length = (us ++ xs.map a.eval ++ vs).size := by
    rw [hargs]
    simp [h1, h2, Nat.add_assoc]
  have hvrs : VRs (fun b => S b ∨ (al = false ∧ Own ρ (rest h ps) b)) w (fun b => ρ (swp l k nx b)) largs (us ++ xs.map a.eval ++ vs) := by
    refine ⟨hlend.len.symm.trans hlen, fun i y u hy hu => ?_⟩
    have hi' : i < largs.length := (List.getElem?_eq_some_iff.1 hy).1
    obtain ⟨x, hx⟩ : ∃ x, args[i]? = some x := ⟨_, List.getElem?_eq_getElem (by rw [hlend.len]; exact hi')⟩
    exact (hlend.get i x y hx hy).vr hr (hargsVR i x u hx hu)
  refine (hac _ _ w _ hsim hfr hvrs).mono ?_
  rintro e w' ⟨v, r, h', nx', ρ', S', rfl, hQ, hv, hs, hf', hdm, hp⟩
  exact ⟨v, rfl, r, h', nx', ρ', S', hQ, hv, hs, hf', hdm, hp⟩

theorem AC.calls {f : FuncId} {fn : Func} (hf : P.funcs[f]? = some fn) (hn : (fn.name == "runtime.NumGoroutine") = false ∧ fn.body.isNone = false) : ∀ (vs : Array Value) (w : World), (callFunc f vs).run P w = .ok (.enter f vs) w := fun vs w => callFunc_enter hf hn.1 hn.2 vs w

/-- A call whose answer is told: an operation that turns the heap. -/
theorem op_callg {tm : List (Nat × AV)} {h : Heap} {nx : Nat} {fo : Operand} {xs : Array Operand} {ts : Array TypeId} {f : FuncId} {fn : Func} {first caps : List AV} (l : List (Nat × Nat)) (k : Nat) (al : Bool) (hc : Heap) (ps : List Nat) {args largs : List AV} {r0 r1 : AV} {h0 h1 : Heap} {n0 n1 : Nat}
    (hac : AC P f largs hc k al (fun r h nx => r = r0 ∧ h = h0 ∧ nx = n0)) (hf : P.funcs[f]? = some fn) (hn : (fn.name == "runtime.NumGoroutine") = false ∧ fn.body.isNone = false)
    (hfo : oev tm fo = .fn (.func f) first caps) (hargs : oevsS tm xs.toList = some args) (hl : l.all (fun p => p.1 < k) = true) (hl2 : l.all (fun p => p.2 < nx) = true) (hl3 : k ≤ nx)
    (hh : ∀ p ∈ hc, hget h (swp l k nx p.1) = (hget hc p.1).map (Blk.ren (swp l k nx)) ∧ ps.contains (swp l k nx p.1) = true)
    (hi : ((hc.map (fun p => p.1)).all fun b => (hc.map (fun p => p.1)).all fun b' => b == b' || swp l k nx b != swp l k nx b') = true)
    (hlend : Lends al h (swp l k nx) ps (first ++ (args ++ caps)) largs)
    (e1 : r0.ren (swp l k nx) = r1) (e2 : rest h ps ++ h0.map (fun p => (swp l k nx p.1, p.2.ren (swp l k nx))) = h1) (e3 : nx + n0 = n1) :
    OpOK P (.call { callee := .value fo, args := xs, argTypes := ts }) ⟨tm, h, nx⟩ r1 h1 n1 := by
  intro c n ρ S a w hr o ho
  subst e1 e2 e3
  refine (call_does f first caps l k al hc ps _ largs _ ho hfo (by rw [oevsS_spec _ _ hargs]) (AC.calls hf hn) hl hh hi hlend hac hr).mono fun v w' hx => ?_
  obtain ⟨r, h', nx', ρ', S', ⟨rfl, rfl, rfl⟩, hv, hs, hf', hdm, hp⟩ := hx
  obtain ⟨hsim, hfr, hps, hown⟩ := call_sim hr l k al hc ps hl hh hi
  obtain ⟨ρ2, S2, hr2, hv2, hx1, hx2⟩ := call_rep hr l k al hc ps hl hl2 hl3 hps hown (fun b hb => hb.imp id (fun ⟨x, i, X, q, e1, e2, e3⟩ => ⟨x, by
    rw [hget_rest] at e1
    split at e1
    · cases e1
    · obtain ⟨_, f4, _⟩ := blk_of hr e1 e2
      rw [← e3]
      exact f4⟩)) hv hs hf' hdm hp
  exact ⟨ρ2, S2, hr2, hv2, hx1, hx2⟩

/-- How a call's answer is taken up where its rows are from then on read alone. -/
inductive Fz (h' : Heap) : AV → AV → Prop
  | same {x} (hp : x.plain = true) : Fz h' x x
  | own {b st len sz xs} (hb : hget h' b = some (.cells sz xs)) (hlen : st + len ≤ xs.length) (hpl : xs.all AV.plain = true) : Fz h' (.own b st len) (.sl sz ((xs.drop st).take len))
  | tup {xs ys} (hl : xs.length = ys.length) (h : ∀ (i : Nat) (x y : AV), xs[i]? = some x → ys[i]? = some y → Fz h' x y) : Fz h' (.tup xs) (.tup ys)
  | agg {xs ys} (hl : xs.length = ys.length) (h : ∀ (i : Nat) (x y : AV), xs[i]? = some x → ys[i]? = some y → Fz h' x y) : Fz h' (.agg xs) (.agg ys)

theorem Fz.whole {h' : Heap} {b len sz : Nat} {xs : List AV} (hb : hget h' b = some (.cells sz xs)) (hl : len = xs.length) (hpl : xs.all AV.plain = true) : Fz h' (.own b 0 len) (.sl sz xs) := by
  have := Fz.own (st := 0) (len := len) hb (by omega) hpl
  rw [List.drop_zero, hl, List.take_length] at this
  rwa [hl]

theorem bl_plain (l : List UInt8) : (bl l).all AV.plain = true := by
  rw [List.all_eq_true]
  intro x hx
  obtain ⟨q, _, rfl⟩ := List.mem_map.1 hx
  rfl

inductive Fzs (h' : Heap) : List AV → List AV → Prop
  | nil : Fzs h' [] []
  | cons {x y xs ys} (h : Fz h' x y) (t : Fzs h' xs ys) : Fzs h' (x :: xs) (y :: ys)

theorem Fzs.tup {h' : Heap} {xs ys : List AV} (h : Fzs h' xs ys) : Fz h' (.tup xs) (.tup ys) := by
  have : xs.length = ys.length ∧ ∀ (i : Nat) (x y : AV), xs[i]? = some x → ys[i]? = some y → Fz h' x y := by
    induction h with
    | nil => exact ⟨rfl, fun i x y hx => by simp at hx⟩
    | cons h1 _ ih =>
      refine ⟨by simp [ih.1], fun i x y hx hy => ?_⟩
      cases i with
      | zero => simp only [List.getElem?_cons_zero] at hx hy; obtain rfl := Option.some.inj hx; obtain rfl := Option.some.inj hy; exact h1
      | succ i => simp only [List.getElem?_cons_succ] at hx hy; exact ih.2 i x y hx hy
  exact .tup this.1 this.2

theorem Fz.vr {S S' : Nat → Prop} {w : World} {ρ ρ2 : Rho} {h' : Heap} (hsim : Sim ρ h' S w) (hS : ∀ b, S b → S' b) (hO : ∀ b, Own ρ h' b → S' b) {x y : AV} (h : Fz h' x y) : ∀ {v : Value}, VR S w ρ x v → VR S' w ρ2 y v := by
  induction h with
  | same hp => intro v hv; exact (hv.mono (fun b hb => ⟨hS b hb, rfl⟩) (fun _ _ h => h)).plain hp
  | own hb hlen hpl =>
    intro v hv
    rcases hsim.blk _ _ hb with ⟨r, h1, h2, h3, h4⟩ | ⟨h1, sz', h2⟩
    · exact hv.lent h1 h2 hlen hpl hS (hO _ ⟨_, _, r, hb, h1, rfl⟩) _
    · simp only [Blk.cells.injEq] at h2
      obtain ⟨rfl, rfl⟩ := h2
      simp only [List.length_nil, Nat.le_zero, Nat.add_eq_zero_iff] at hlen
      obtain ⟨rfl, rfl⟩ := hlen
      cases hv with
      | own q _ _ => rw [h1] at q; cases q
      | own0 => exact .sl0
  | @tup aa ys hl _ ih =>
    intro v hv
    cases hv with
    | tup vs h1 h2 => exact .tup vs (hl.symm.trans h1) (fun i y u hy hu => by
        obtain ⟨x, hx⟩ : ∃ x, aa[i]? = some x := ⟨_, List.getElem?_eq_getElem (by rw [hl]; exact (List.getElem?_eq_some_iff.1 hy).1)⟩
        exact ih i x y hx hy (h2 i x u hx hu))
  | @agg aa ys hl _ ih =>
    intro v hv
    cases hv with
    | agg vs h1 h2 => exact .agg vs (hl.symm.trans h1) (fun i y u hy hu => by
        obtain ⟨x, hx⟩ : ∃ x, aa[i]? = some x := ⟨_, List.getElem?_eq_getElem (by rw [hl]; exact (List.getElem?_eq_some_iff.1 hy).1)⟩
        exact ih i x y hx hy (h2 i x u hx hu))

/-- A call that is handed nothing that it may write: the heap stays. -/
theorem op_callq {tm : List (Nat × AV)} {h : Heap} {fo : Operand} {xs : Array Operand} {ts : Array TypeId} {f : FuncId} {fn : Func} {first caps : List AV} {al : Bool} {args largs : List AV} {Q : AV → Heap → Nat → Prop} {v : AV}
    (hac : AC P f largs [] 0 al Q) (hf : P.funcs[f]? = some fn) (hn : (fn.name == "runtime.NumGoroutine") = false ∧ fn.body.isNone = false)
    (hfo : oev tm fo = .fn (.func f) first caps) (hargs : oevsS tm xs.toList = some args)
    (hlend : ∀ nx, Lends al h (swp [] 0 nx) [] (first ++ (args ++ caps)) largs) (hq : ∀ r h' nx', Q r h' nx' → Fz h' r v) :
    OpQ P (.call { callee := .value fo, args := xs, argTypes := ts }) tm h v := by
  intro nx c n ρ S a w hr o ho
  refine (call_does f first caps [] 0 al [] [] _ largs _ ho hfo (by rw [oevsS_spec _ _ hargs]) (AC.calls hf hn) rfl (fun p hp => by cases hp) rfl (hlend nx) hac hr).mono fun u w' hx => ?_
  obtain ⟨r, h', nx', ρ', S', hQ, hv, hs, hf', hdm, hp⟩ := hx
  have no : ∀ b, ¬ Own (fun b => ρ (swp [] 0 nx b)) [] b := fun b ⟨i, B, q, e, _⟩ => by cases e
  have hsame : Same w w' := ⟨hp.os, hp.tape, hp.output, hp.size, fun k hk => hp.keep k hk (no k)⟩
  let S2 : Nat → Prop := fun b => S b ∨ (w.heap.size ≤ b ∧ b < w'.heap.size)
  have g1 : ∀ b, S b → S2 b := fun b hb => .inl hb
  have hr2 := hr.grow (S' := S2) g1 (fun b hb => hb.imp id (fun h => h.1)) (fun b hb => hb.elim (fun h => Nat.lt_of_lt_of_le (hr.sim.lt b h) hp.size) (fun h => h.2)) hsame
  refine ⟨ρ, S2, hr2, ?_, fun _ _ h => h, fun b hb => ⟨.inl hb, hsame.block b (hr.sim.lt b hb)⟩⟩
  refine (hq r h' nx' hQ).vr hs (fun b hb => ?_) (fun b hb => ?_) hv
  · rcases hp.s b hb with ⟨h1, h2 | ⟨h2, _⟩⟩ | h2
    · exact .inl h2
    · rw [h1] at h2; cases h2
    · exact .inr ⟨h2, hs.lt b hb⟩
  · rcases hp.own b hb with h1 | h1
    · exact (no b h1).elim
    · obtain ⟨i, B, q, e1, e2, rfl⟩ := hb
      rcases hs.blk i B e1 with ⟨q', k1, _, _, k4⟩ | ⟨k1, _⟩
      · obtain rfl := Option.some.inj (k1.symm.trans e2)
        exact .inr ⟨h1, k4⟩
      · rw [e2] at k1; cases k1

/-- A row that is written out and read alone. -/
theorem op_bslF {tm : List (Nat × AV)} {h : Heap} {t e : TypeId} {len sz bytes : Nat} {parts : Array (Nat × Operand)} {z : Value} {vs : List AV} (hu : P.underlying t = some (.slice e)) (hi : (P.info? e).map (fun i => (i.zero, i.size, i.bytes)) = some (some z, sz, bytes)) (hzs : z.cells.size = sz ∧ ∀ (i : Nat) (u : Value), z.cells[i]? = some u → u.oneCell' = true)
    (hs : 0 < sz) (hl : parts.toList.map (·.1) = List.range len) (hv : oevsS tm (parts.toList.map (·.2)) = some vs) (hk : (vs.all fun v => v.known && Nat.beq v.cells.length sz) = true) (hpl : vs.all AV.plain = true) (hsm : len * sz ≤ 16777216) :
    OpQ P (.buildSlice t len parts) tm h (.sl sz vs) := by
  intro nx c n ρ S a w hr o ho
  have hk' : ∀ v ∈ vs, v.known = true ∧ v.cells.length = sz := fun v hv => by
    have := List.all_eq_true.1 hk v hv
    simp only [Bool.and_eq_true] at this
    exact ⟨this.1, Nat.eq_of_beq_eq_true this.2⟩
  obtain ⟨us, u2, husz, hvl, hrun⟩ := bsl_raw (vs := vs) hu hi hzs.1 hzs.2 hs hl (by rw [← oevsS_spec _ _ hv, List.map_map]; rfl) hk' hsm hr
  unfold Does
  rw [hrun o ho]
  have hsame := Same.alloc w (.cells us e)
  have hnew := heap_alloc_new w (.cells us e)
  have hsz : (w.alloc (.cells us e)).heap.size = w.heap.size + 1 := by simp
  refine ⟨ρ, fun b => S b ∨ b = w.heap.size, hr.grow (fun b hb => .inl hb) (fun b hb => hb.imp id (fun h => Nat.le_of_eq h.symm)) (fun b hb => ?_) hsame, ?_, fun _ _ h => h, fun b hb => ⟨.inl hb, hsame.block b (hr.sim.lt b hb)⟩⟩
  · rw [hsz]
    rcases hb with h | h
    · exact Nat.lt_succ_of_lt (hr.sim.lt b h)
    · omega
  · have := @VR.sl (fun b => S b ∨ b = w.heap.size) (w.alloc (.cells us e)) ρ sz vs w.heap.size 0 len us.toList (.inr rfl) (by rw [u2.1]; simp) (fun v hv => (hk' v hv).2) (by omega) (fun i u hu => ?_) (fun i x u hx hu => ?_)
    · rw [hvl] at this; exact this
    · rw [Array.getElem?_toList] at hu
      exact ⟨by rw [Nat.zero_add, cell_of hnew]; exact hu, u2.2.1 i u hu⟩
    · rw [Array.getElem?_toList] at hu
      have hp := all_get (plain_flat hpl) hx
      exact ((u2.2.2 i x u hx hu).mono (fun b hb => ⟨.inl hb, hsame.block b (hr.sim.lt b hb)⟩) (fun _ _ h => h)).plain hp

/-- A text's bytes, as a row that is read alone. -/
theorem op_toBytes {tm : List (Nat × AV)} {h : Heap} {s d e : TypeId} {x : Operand} {l : List UInt8} (hs : P.underlying s = some .string) (hd : P.underlying d = some (.slice e)) (he : P.underlying e = some (.int .u8)) (hx : oev tm x = sb l) : OpQ P (.convert s d x) tm h (.sl 1 (bl l)) := by
  intro nx c n ρ S a w hr o ho
  have hsame : Same w (w.drew.alloc (.cells (bytesRow ⟨l.toArray⟩ (grownCap w l.length 0 e)) e ((bytesRow ⟨l.toArray⟩ (grownCap w l.length 0 e)).size, (bytesRow ⟨l.toArray⟩ (grownCap w l.length 0 e)).size + 1))) := (Same.drew w).trans (Same.alloc w.drew _)
  have hsl : (⟨l.toArray⟩ : ByteArray).size = l.length := by simp [ByteArray.size]
  have hrun : (execOp a.eval o).run P w = .ok (.value (.slice (some ⟨w.heap.size, 0, none⟩) l.length (grownCap w l.length 0 e))) (w.drew.alloc (.cells (bytesRow ⟨l.toArray⟩ (grownCap w l.length 0 e)) e ((bytesRow ⟨l.toArray⟩ (grownCap w l.length 0 e)).size, (bytesRow ⟨l.toArray⟩ (grownCap w l.length 0 e)).size + 1))) := by
    have h1 := run_bytes_of_string (P := P) w s d e ⟨l.toArray⟩ hs hd he
    rw [hsl] at h1
    unfold execOp; rw [ho]
    simp only [ev_str hr hx, Sem.run_bind, h1, Result.andThen_ok]
    rfl
  unfold Does
  rw [hrun]
  generalize hw' : w.drew.alloc _ = w' at hsame
  have hnew : ∃ fr, w'.heap[w.heap.size]? = some (.cells (bytesRow ⟨l.toArray⟩ (grownCap w l.length 0 e)) e fr) := by
    rw [← hw']
    exact ⟨_, heap_alloc_new w.drew _⟩
  have hsz : w'.heap.size = w.heap.size + 1 := by rw [← hw']; simp [World.alloc, World.drew, -World.alloc_eq, -World.drew_eq]
  clear hw' hrun
  obtain ⟨fr, hnew⟩ := hnew
  refine ⟨ρ, fun b => S b ∨ b = w.heap.size, hr.grow (fun b hb => .inl hb) (fun b hb => hb.imp id (fun h => Nat.le_of_eq h.symm)) (fun b hb => ?_) hsame, ?_, fun _ _ h => h, fun b hb => ⟨.inl hb, hsame.block b (hr.sim.lt b hb)⟩⟩
  · rw [hsz]
    rcases hb with h | h
    · exact Nat.lt_succ_of_lt (hr.sim.lt b h)
    · omega
  · have hbl : (bl l).length = l.length := by simp [bl]
    have := @VR.sl (fun b => S b ∨ b = w.heap.size) w' ρ 1 (bl l) w.heap.size 0 (grownCap w l.length 0 e) (l.map fun b => Value.int .u8 b.toNat) (.inr rfl) (by rw [flat_bl, hbl, List.length_map]) (fun v hv => ?_) (by rw [hbl]; exact grownCap_ge _ _ _ _) (fun i u hu => ?_) (fun i x u hx hu => ?_)
    · rw [hbl] at this; exact this
    · obtain ⟨q, _, rfl⟩ := List.mem_map.1 hv; rfl
    · rw [List.getElem?_map] at hu
      obtain ⟨q, hq, rfl⟩ := Option.map_eq_some_iff.1 hu
      have hi : i < l.length := (List.getElem?_eq_some_iff.1 hq).1
      have := bytesRow_at ⟨l.toArray⟩ (grownCap w l.length 0 e) i (by simpa using hi)
      refine ⟨by rw [Nat.zero_add, cell_of hnew, this]; simp only [List.getElem_toArray]; rw [(List.getElem?_eq_some_iff.1 hq).2], rfl⟩
    · rw [flat_bl] at hx
      simp only [bl, List.getElem?_map] at hx hu
      obtain ⟨q, hq, rfl⟩ := Option.map_eq_some_iff.1 hx
      rw [hq] at hu
      obtain rfl := Option.some.inj hu
      exact .int

end
end Go.Proofs.Ytloddmbbfkejcaa.Abs
end
section
/- Facts on the program's types, as a program prints them off its dump. -/
namespace Go.Proofs.Ytloddmbbfkejcaa.Abs
theorem ones_of {z : Array Value} (h : z.toList.all (fun u => u.oneCell') = true) : ∀ (i : Nat) (u : Value), z[i]? = some u → u.oneCell' = true := fun i u hu =>
  List.all_eq_true.1 h u (by rw [← Array.getElem?_toList] at hu; exact List.mem_of_getElem? hu)
theorem i2 : (Try.prog.info? 2).map (fun i => (i.zero, i.size, i.bytes)) = some (some (.int .i64 0), 1, 8) := by kernel_rfl
theorem a2 : (Try.prog.info? 2).map (·.zero) = some (some (.int .i64 0)) := by kernel_rfl
theorem o2 : (Value.cells (.int .i64 0)).size = 1 ∧ ∀ (i : Nat) (u : Value), (Value.cells (.int .i64 0))[i]? = some u → u.oneCell' = true := ⟨rfl, ones_of rfl⟩
theorem z3 : (Try.prog.info? 3).map (·.size) = some 1 := by kernel_rfl
theorem i3 : (Try.prog.info? 3).map (fun i => (i.zero, i.size, i.bytes)) = some (some (.int .i64 0), 1, 8) := by kernel_rfl
theorem a3 : (Try.prog.info? 3).map (·.zero) = some (some (.int .i64 0)) := by kernel_rfl
theorem o3 : (Value.cells (.int .i64 0)).size = 1 ∧ ∀ (i : Nat) (u : Value), (Value.cells (.int .i64 0))[i]? = some u → u.oneCell' = true := ⟨rfl, ones_of rfl⟩
theorem z4 : (Try.prog.info? 4).map (·.size) = some 1 := by kernel_rfl
theorem i4 : (Try.prog.info? 4).map (fun i => (i.zero, i.size, i.bytes)) = some (some (.bool false), 1, 1) := by kernel_rfl
theorem a4 : (Try.prog.info? 4).map (·.zero) = some (some (.bool false)) := by kernel_rfl
theorem z5 : (Try.prog.info? 5).map (·.size) = some 1 := by kernel_rfl
theorem i5 : (Try.prog.info? 5).map (fun i => (i.zero, i.size, i.bytes)) = some (some (.int .u8 0), 1, 1) := by kernel_rfl
theorem a5 : (Try.prog.info? 5).map (·.zero) = some (some (.int .u8 0)) := by kernel_rfl
theorem o5 : (Value.cells (.int .u8 0)).size = 1 ∧ ∀ (i : Nat) (u : Value), (Value.cells (.int .u8 0))[i]? = some u → u.oneCell' = true := ⟨rfl, ones_of rfl⟩
theorem a6 : (Try.prog.info? 6).map (·.zero) = some (some (.int .u8 0)) := by kernel_rfl
theorem a7 : (Try.prog.info? 7).map (·.zero) = some (some (.agg #[.int .i64 0, .int .i64 0, .bool false, .int .u8 0])) := by kernel_rfl
theorem z9 : (Try.prog.info? 9).map (·.size) = some 1 := by kernel_rfl
theorem i9 : (Try.prog.info? 9).map (fun i => (i.zero, i.size, i.bytes)) = some (some (.string ByteArray.empty), 1, 16) := by kernel_rfl
theorem o9 : (Value.cells (.string ByteArray.empty)).size = 1 ∧ ∀ (i : Nat) (u : Value), (Value.cells (.string ByteArray.empty))[i]? = some u → u.oneCell' = true := ⟨rfl, ones_of rfl⟩
theorem z22 : (Try.prog.info? 22).map (·.size) = some 1 := by kernel_rfl
theorem i22 : (Try.prog.info? 22).map (fun i => (i.zero, i.size, i.bytes)) = some (some (.slice none 0 0), 1, 24) := by kernel_rfl
theorem o22 : (Value.cells (.slice none 0 0)).size = 1 ∧ ∀ (i : Nat) (u : Value), (Value.cells (.slice none 0 0))[i]? = some u → u.oneCell' = true := ⟨rfl, ones_of rfl⟩
theorem z23 : (Try.prog.info? 23).map (·.size) = some 1 := by kernel_rfl
theorem z24 : (Try.prog.info? 24).map (·.size) = some 1 := by kernel_rfl
theorem z26 : (Try.prog.info? 26).map (·.size) = some 4 := by kernel_rfl
theorem a26 : (Try.prog.info? 26).map (·.zero) = some (some (.agg #[.int .i64 0, .int .i64 0, .slice none 0 0, .slice none 0 0])) := by kernel_rfl
theorem z46 : (Try.prog.info? 46).map (·.size) = some 4 := by kernel_rfl
theorem i46 : (Try.prog.info? 46).map (fun i => (i.zero, i.size, i.bytes)) = some (some (.agg #[.string ByteArray.empty, .int .i64 0, .string ByteArray.empty, .bool false]), 4, 48) := by kernel_rfl
theorem a46 : (Try.prog.info? 46).map (·.zero) = some (some (.agg #[.string ByteArray.empty, .int .i64 0, .string ByteArray.empty, .bool false])) := by kernel_rfl
theorem o46 : (Value.cells (.agg #[.string ByteArray.empty, .int .i64 0, .string ByteArray.empty, .bool false])).size = 4 ∧ ∀ (i : Nat) (u : Value), (Value.cells (.agg #[.string ByteArray.empty, .int .i64 0, .string ByteArray.empty, .bool false]))[i]? = some u → u.oneCell' = true := ⟨rfl, ones_of rfl⟩
theorem z48 : (Try.prog.info? 48).map (·.size) = some 3 := by kernel_rfl
theorem i48 : (Try.prog.info? 48).map (fun i => (i.zero, i.size, i.bytes)) = some (some (.agg #[.string ByteArray.empty, .string ByteArray.empty, .bool false]), 3, 40) := by kernel_rfl
theorem a48 : (Try.prog.info? 48).map (·.zero) = some (some (.agg #[.string ByteArray.empty, .string ByteArray.empty, .bool false])) := by kernel_rfl
theorem o48 : (Value.cells (.agg #[.string ByteArray.empty, .string ByteArray.empty, .bool false])).size = 3 ∧ ∀ (i : Nat) (u : Value), (Value.cells (.agg #[.string ByteArray.empty, .string ByteArray.empty, .bool false]))[i]? = some u → u.oneCell' = true := ⟨rfl, ones_of rfl⟩
theorem a120 : (Try.prog.info? 120).map (·.zero) = some (some (.agg #[.slice none 0 0, .int .i64 0])) := by kernel_rfl
theorem a143 : (Try.prog.info? 143).map (·.zero) = some (some (.agg #[.slice none 0 0, .int .i64 0, .bool false])) := by kernel_rfl
end Go.Proofs.Ytloddmbbfkejcaa.Abs
end
section
/-
  Names: package key and its reference.
-/
namespace Go.Proofs.Ytloddmbbfkejcaa.Abs

def signB (c : UInt8) : Bool := decide (33 ≤ c.toNat) && decide (c.toNat ≤ 126)
def mayB (k : List UInt8) : Bool := k.all signB && (decide (1 ≤ k.length) && decide (k.length ≤ 8))
theorem all_take {α : Type} {l : List α} {p : α → Bool} {i : Nat} {c : α} (hc : l[i]? = some c) : (l.take (i + 1)).all p = ((l.take i).all p && p c) := by
  rw [List.take_add_one, hc]
  simp
theorem all_bad {α : Type} {l : List α} {p : α → Bool} {i : Nat} {c : α} (hc : l[i]? = some c) (hp : p c = false) : l.all p = false := by
  rw [List.all_eq_false]
  exact ⟨c, List.mem_of_getElem? hc, by rw [hp]; decide⟩
theorem key_sign (c : UInt8) : AC Try.prog 174 [.int .u8 (c.toNat : Int)] [] 0 false (fun r h nx => r = .bool (signB c) ∧ h = [] ∧ nx = 0) := by
  by_cases h1 : 33 ≤ c.toNat
  · by_cases h2 : c.toNat ≤ 126
    · skip
      refine ac_fn Try.func174 rfl rfl rfl rfl (fun w0 S0 r0 => ?_)
      refine aw_seq ?_
      refine aw_region ?_
      refine st_p (mva rfl) rfl ?_
      refine al_nil ?_
      refine nm ?_
      refine aw_seq ?_
      refine aw_region ?_
      refine st_p (mv rfl) rfl ?_
      refine st_p (OpP.conv (op_ge rfl rfl) (yes (by first | assumption | omega))) rfl ?_
      refine st_p (mv rfl) rfl ?_
      refine st_pg rfl rfl rfl (mv rfl) rfl ?_
      refine st_pg rfl rfl rfl (OpP.conv (op_le rfl rfl) (yes (by first | assumption | omega))) rfl ?_
      refine st_p (pkT rfl rfl) rfl ?_
      refine st_p (mva rfl) rfl ?_
      refine al_nil ?_
      refine nm ?_
      refine aw_ret ?_
      exact ret_v (res1 Try.results174) (.inr ⟨rfl, rfl⟩) ⟨by simp [signB, h1, h2, tget], rfl, rfl⟩
    · skip
      refine ac_fn Try.func174 rfl rfl rfl rfl (fun w0 S0 r0 => ?_)
      refine aw_seq ?_
      refine aw_region ?_
      refine st_p (mva rfl) rfl ?_
      refine al_nil ?_
      refine nm ?_
      refine aw_seq ?_
      refine aw_region ?_
      refine st_p (mv rfl) rfl ?_
      refine st_p (OpP.conv (op_ge rfl rfl) (yes (by first | assumption | omega))) rfl ?_
      refine st_p (mv rfl) rfl ?_
      refine st_pg rfl rfl rfl (mv rfl) rfl ?_
      refine st_pg rfl rfl rfl (OpP.conv (op_le rfl rfl) (no (by first | assumption | omega))) rfl ?_
      refine st_p (pkT rfl rfl) rfl ?_
      refine st_p (mva rfl) rfl ?_
      refine al_nil ?_
      refine nm ?_
      refine aw_ret ?_
      exact ret_v (res1 Try.results174) (.inr ⟨rfl, rfl⟩) ⟨by simp [signB, h1, h2, tget], rfl, rfl⟩
  · skip
    refine ac_fn Try.func174 rfl rfl rfl rfl (fun w0 S0 r0 => ?_)
    refine aw_seq ?_
    refine aw_region ?_
    refine st_p (mva rfl) rfl ?_
    refine al_nil ?_
    refine nm ?_
    refine aw_seq ?_
    refine aw_region ?_
    refine st_p (mv rfl) rfl ?_
    refine st_p (OpP.conv (op_ge rfl rfl) (no (by first | assumption | omega))) rfl ?_
    refine st_p (mv rfl) rfl ?_
    refine st_s rfl rfl rfl rfl rfl ?_
    refine st_s rfl rfl rfl rfl rfl ?_
    refine st_p (pkF rfl rfl) rfl ?_
    refine st_p (mva rfl) rfl ?_
    refine al_nil ?_
    refine nm ?_
    refine aw_ret ?_
    exact ret_v (res1 Try.results174) (.inr ⟨rfl, rfl⟩) ⟨by simp [signB, h1, tget], rfl, rfl⟩

theorem key_may (k : List UInt8) (hk : k.length ≤ 281474976710656) : AC Try.prog 137 [sb k] [] 0 false (fun r h nx => r = .bool (mayB k) ∧ h = [] ∧ nx = 0) := by
  refine ac_fn Try.func137 rfl rfl rfl rfl (fun w0 S0 r0 => ?_)
  refine aw_seq ?_
  refine aw_region ?_
  refine st_p (mva rfl) rfl ?_
  refine al_nil ?_
  refine nm ?_
  refine aw_seq ?_
  refine aw_seq ?_
  refine aw_region ?_
  refine st_p (mv rfl) rfl ?_
  refine st_p (op_lens Try.underlying187 rfl) rfl ?_
  refine st_p (mv rfl) rfl ?_
  refine al_nil ?_
  refine nm ?_
  refine aw_block ?_
  -- LOOP
  refine aw_loop (fun i : {i : Nat // i ≤ k.length ∧ (k.take i).all signB = true} => ⟨[(0, sb k), (2, .bool false), (5, .int .i64 k.length), (6, .int .i64 i.1)], [], 0⟩) (fun i => k.length - i.1) ⟨0, Nat.zero_le _, rfl⟩ ?_ ?_
  · exact le_to [] rfl rfl rfl rfl rfl ⟨rfl, rfl, rfl, rfl, trivial⟩ trivial
  · rintro ⟨i, hi, ha⟩
    dsimp only
    by_cases hlt : i < k.length
    · obtain ⟨c, hc⟩ : ∃ c, k[i]? = some c := ⟨_, List.getElem?_eq_getElem hlt⟩
      refine aw_seq ?_
      refine aw_region ?_
      refine st_p (OpP.conv (op_lt rfl rfl) (yes (by first | assumption | omega))) rfl ?_
      refine al_nil ?_
      refine nm ?_
      refine aw_seq ?_
      -- IF t7
      refine aw_yes (rfl) ?_
      refine aw_skip ?_
      refine nm ?_
      refine aw_seq ?_
      refine aw_block ?_
      refine aw_seq ?_
      refine aw_region ?_
      refine st_p (mv rfl) rfl ?_
      refine st_p (mva rfl) rfl ?_
      refine al_nil ?_
      refine nm ?_
      refine aw_seq ?_
      refine aw_region ?_
      refine st_p (mv rfl) rfl ?_
      refine st_p (mv rfl) rfl ?_
      refine st_p (op_index Try.underlying187 rfl rfl (by omega) (by first | assumption | rfl)) rfl ?_
      -- STOP: call diwan/key.sign(t11) -> 12
      refine st_call0 (key_sign c) Try.func174 ⟨rfl, rfl⟩ rfl (.cons (.same (by rfl)) .nil) rfl ?_
      cases hs : signB c with
      | false =>
        rintro _ _ _ ⟨rfl, rfl, rfl⟩ r2 h2 n2 hr hh hn
        simp only [AV.ren, rens, Blk.ren, swp, List.map_cons, List.map_nil, List.cons_append, List.nil_append, List.append_nil, Nat.not_lt_zero, if_false, Nat.reduceAdd, Nat.zero_add, Nat.add_zero, ren_bl, hs] at hr hh hn
        subst hr hh hn
        refine st_p (op_notF rfl) rfl ?_
        refine al_nil ?_
        refine nm ?_
        -- IF t13
        refine aw_yes (rfl) ?_
        refine aw_seq ?_
        refine aw_region ?_
        refine st_p (mva rfl) rfl ?_
        refine al_nil ?_
        refine nm ?_
        refine aw_ret ?_
        refine rb ?_
        refine rs ?_
        refine rs ?_
        refine rb ?_
        refine rs ?_
        exact ret_v (res1 Try.results137) (.inr ⟨rfl, rfl⟩) ⟨by simp [mayB, all_bad hc hs, tget], rfl, rfl⟩
      | true =>
        rintro _ _ _ ⟨rfl, rfl, rfl⟩ r2 h2 n2 hr hh hn
        simp only [AV.ren, rens, Blk.ren, swp, List.map_cons, List.map_nil, List.cons_append, List.nil_append, List.append_nil, Nat.not_lt_zero, if_false, Nat.reduceAdd, Nat.zero_add, Nat.add_zero, ren_bl, hs] at hr hh hn
        subst hr hh hn
        refine st_p (op_notT rfl) rfl ?_
        refine al_nil ?_
        refine nm ?_
        -- IF t13
        refine aw_no (rfl) ?_
        refine aw_skip ?_
        refine nmb ?_
        refine nm ?_
        refine aw_region ?_
        refine st_p (op_addi rfl rfl (by omega)) rfl ?_
        refine st_p (mv rfl) rfl ?_
        refine al_nil ?_
        refine nm ?_
        exact ⟨⟨i + 1, hlt, by rw [all_take hc, ha, hs]; rfl⟩, by dsimp only; omega, le_to [] rfl rfl rfl rfl rfl ⟨rfl, rfl, rfl, rfl, trivial⟩ trivial⟩
    · have e : k.take i = k := List.take_of_length_le (by omega)
      rw [e] at ha
      by_cases h1 : 1 ≤ k.length
      · by_cases h2 : k.length ≤ 8
        · skip
          refine aw_seq ?_
          refine aw_region ?_
          refine st_p (OpP.conv (op_lt rfl rfl) (no (by first | assumption | omega))) rfl ?_
          refine al_nil ?_
          refine nm ?_
          refine aw_seq ?_
          -- IF t7
          refine aw_no (rfl) ?_
          refine aw_exit ?_
          refine xs ?_
          refine xs ?_
          refine xb ?_
          refine nm ?_
          refine aw_seq ?_
          refine aw_region ?_
          refine st_p (mv rfl) rfl ?_
          refine st_p (op_lens Try.underlying187 rfl) rfl ?_
          refine st_p (OpP.conv (op_ge rfl rfl) (yes (by first | assumption | omega))) rfl ?_
          refine st_p (mv rfl) rfl ?_
          refine st_pg rfl rfl rfl (mv rfl) rfl ?_
          refine st_pg rfl rfl rfl (op_lens Try.underlying187 rfl) rfl ?_
          refine st_pg rfl rfl rfl (OpP.conv (op_le rfl rfl) (yes (by first | assumption | omega))) rfl ?_
          refine st_p (pkT rfl rfl) rfl ?_
          refine st_p (mva rfl) rfl ?_
          refine al_nil ?_
          refine nm ?_
          refine aw_ret ?_
          exact ret_v (res1 Try.results137) (.inr ⟨rfl, rfl⟩) ⟨by simp [mayB, ha, h1, h2, tget], rfl, rfl⟩
        · skip
          refine aw_seq ?_
          refine aw_region ?_
          refine st_p (OpP.conv (op_lt rfl rfl) (no (by first | assumption | omega))) rfl ?_
          refine al_nil ?_
          refine nm ?_
          refine aw_seq ?_
          -- IF t7
          refine aw_no (rfl) ?_
          refine aw_exit ?_
          refine xs ?_
          refine xs ?_
          refine xb ?_
          refine nm ?_
          refine aw_seq ?_
          refine aw_region ?_
          refine st_p (mv rfl) rfl ?_
          refine st_p (op_lens Try.underlying187 rfl) rfl ?_
          refine st_p (OpP.conv (op_ge rfl rfl) (yes (by first | assumption | omega))) rfl ?_
          refine st_p (mv rfl) rfl ?_
          refine st_pg rfl rfl rfl (mv rfl) rfl ?_
          refine st_pg rfl rfl rfl (op_lens Try.underlying187 rfl) rfl ?_
          refine st_pg rfl rfl rfl (OpP.conv (op_le rfl rfl) (no (by first | assumption | omega))) rfl ?_
          refine st_p (pkT rfl rfl) rfl ?_
          refine st_p (mva rfl) rfl ?_
          refine al_nil ?_
          refine nm ?_
          refine aw_ret ?_
          exact ret_v (res1 Try.results137) (.inr ⟨rfl, rfl⟩) ⟨by simp [mayB, ha, h1, h2, tget], rfl, rfl⟩
      · skip
        refine aw_seq ?_
        refine aw_region ?_
        refine st_p (OpP.conv (op_lt rfl rfl) (no (by first | assumption | omega))) rfl ?_
        refine al_nil ?_
        refine nm ?_
        refine aw_seq ?_
        -- IF t7
        refine aw_no (rfl) ?_
        refine aw_exit ?_
        refine xs ?_
        refine xs ?_
        refine xb ?_
        refine nm ?_
        refine aw_seq ?_
        refine aw_region ?_
        refine st_p (mv rfl) rfl ?_
        refine st_p (op_lens Try.underlying187 rfl) rfl ?_
        refine st_p (OpP.conv (op_ge rfl rfl) (no (by first | assumption | omega))) rfl ?_
        refine st_p (mv rfl) rfl ?_
        refine st_s rfl rfl rfl rfl rfl ?_
        refine st_s rfl rfl rfl rfl rfl ?_
        refine st_s rfl rfl rfl rfl rfl ?_
        refine st_p (pkF rfl rfl) rfl ?_
        refine st_p (mva rfl) rfl ?_
        refine al_nil ?_
        refine nm ?_
        refine aw_ret ?_
        exact ret_v (res1 Try.results137) (.inr ⟨rfl, rfl⟩) ⟨by simp [mayB, ha, h1, tget], rfl, rfl⟩

end Go.Proofs.Ytloddmbbfkejcaa.Abs
end
section
/-
  Rows of names that rise.
-/
namespace Go.Proofs.Ytloddmbbfkejcaa.Abs

def okAt (l : List (List UInt8)) (j : Nat) : Bool := mayB (l.getD j []) && (j == 0 || bless (l.getD (j - 1) []) (l.getD j []))
def risingB (l : List (List UInt8)) : Bool := (List.range l.length).all (okAt l)

theorem rising_bad {l : List (List UInt8)} {i : Nat} (hi : i < l.length) (h : okAt l i = false) : risingB l = false := by
  unfold risingB
  rw [List.all_eq_false]
  exact ⟨i, List.mem_range.2 hi, by rw [h]; decide⟩
theorem rising_good {l : List (List UInt8)} (h : ∀ j, j < l.length → okAt l j = true) : risingB l = true := by
  unfold risingB
  rw [List.all_eq_true]
  exact fun j hj => h j (List.mem_range.1 hj)

theorem key_Rising (l : List (List UInt8)) (hl : l.length ≤ 281474976710656) (hk : ∀ k ∈ l, k.length ≤ 281474976710656) : AC Try.prog 77 [.sl 1 (l.map sb)] [] 0 false (fun r h nx => r = .bool (risingB l) ∧ h = [] ∧ nx = 0) := by
  have hlm : (l.map sb).length = l.length := List.length_map _
  refine ac_fn Try.func77 rfl rfl rfl rfl (fun w0 S0 r0 => ?_)
  refine aw_seq ?_
  refine aw_region ?_
  refine st_p (mva rfl) rfl ?_
  refine al_nil ?_
  refine nm ?_
  refine aw_seq ?_
  refine aw_region ?_
  refine st_p (mva rfl) rfl ?_
  refine al_nil ?_
  refine nm ?_
  refine aw_seq ?_
  refine aw_seq ?_
  refine aw_region ?_
  refine st_p (mv rfl) rfl ?_
  refine st_p (op_len Try.underlying74 rfl) rfl ?_
  refine st_p (mv rfl) rfl ?_
  refine al_nil ?_
  refine nm ?_
  refine aw_block ?_
  -- LOOP
  refine aw_loop (fun i : {i : Nat // i ≤ l.length ∧ ∀ j, j < i → okAt l j = true} => ⟨[(0, .sl 1 (l.map sb)), (2, .bool false), (3, .fn (.func 137) [] []), (6, .sl 1 (l.map sb)), (7, .int .i64 l.length), (8, .int .i64 i.1)], [], 0⟩) (fun i => l.length - i.1) ⟨0, Nat.zero_le _, fun j hj => absurd hj (Nat.not_lt_zero _)⟩ ?_ ?_
  · exact le_to [] rfl rfl rfl rfl rfl ⟨rfl, rfl, rfl, rfl, by rw [← hlm]; rfl, rfl, trivial⟩ trivial
  · rintro ⟨i, hi, ha⟩
    dsimp only
    by_cases hlt : i < l.length
    · obtain ⟨k, hc⟩ : ∃ k, l[i]? = some k := ⟨_, List.getElem?_eq_getElem hlt⟩
      have hcb : (l.map sb)[((i : Nat) : Int).toNat]? = some (sb k) := by rw [Int.toNat_natCast, List.getElem?_map, hc]; rfl
      have hgk : l.getD i [] = k := by rw [List.getD_eq_getElem?_getD, hc]; rfl
      refine aw_seq ?_
      refine aw_region ?_
      refine st_p (OpP.conv (op_lt rfl rfl) (yes (by first | assumption | omega))) rfl ?_
      refine al_nil ?_
      refine nm ?_
      refine aw_seq ?_
      -- IF t9
      refine aw_yes (rfl) ?_
      refine aw_skip ?_
      refine nm ?_
      refine aw_seq ?_
      refine aw_block ?_
      refine aw_seq ?_
      refine aw_region ?_
      refine st_p (mv rfl) rfl ?_
      refine st_p (op_indexAddrL Try.underlying74 z9 rfl rfl (by omega) (by first | assumption | rfl)) rfl ?_
      refine st_p (op_load1L Try.underlying9 rfl rfl rfl) rfl ?_
      refine st_p (mva rfl) rfl ?_
      refine st_p (mva rfl) rfl ?_
      refine al_nil ?_
      refine nm ?_
      refine aw_seq ?_
      refine aw_region ?_
      refine st_p (mv rfl) rfl ?_
      refine st_p (mv rfl) rfl ?_
      -- STOP: call t13(t14) -> 15
      refine st_call (key_may k (hk k (List.mem_of_getElem? hc))) Try.func137 ⟨rfl, rfl⟩ rfl rfl (.cons (.same (by rfl)) .nil) rfl ?_
      cases hs : mayB k with
      | false =>
        rintro _ _ _ ⟨rfl, rfl, rfl⟩ r2 h2 n2 hr hh hn
        simp only [AV.ren, rens, Blk.ren, swp, List.map_cons, List.map_nil, List.cons_append, List.nil_append, List.append_nil, Nat.not_lt_zero, if_false, Nat.reduceAdd, Nat.zero_add, Nat.add_zero, ren_bl, hs] at hr hh hn
        subst hr hh hn
        refine st_p (op_notF rfl) rfl ?_
        refine st_p (mv rfl) rfl ?_
        refine st_s rfl rfl rfl rfl rfl ?_
        refine st_s rfl rfl rfl rfl rfl ?_
        refine st_s rfl rfl rfl rfl rfl ?_
        refine st_s rfl rfl rfl rfl rfl ?_
        refine st_s rfl rfl rfl rfl rfl ?_
        refine st_s rfl rfl rfl rfl rfl ?_
        refine st_s rfl rfl rfl rfl rfl ?_
        refine st_s rfl rfl rfl rfl rfl ?_
        refine st_s rfl rfl rfl rfl rfl ?_
        refine st_s rfl rfl rfl rfl rfl ?_
        refine st_s rfl rfl rfl rfl rfl ?_
        refine st_p (pkT rfl rfl) rfl ?_
        refine al_nil ?_
        refine nm ?_
        -- IF t29
        refine aw_yes (rfl) ?_
        refine aw_seq ?_
        refine aw_region ?_
        refine st_p (mva rfl) rfl ?_
        refine al_nil ?_
        refine nm ?_
        refine aw_ret ?_
        refine rb ?_
        refine rs ?_
        refine rs ?_
        refine rb ?_
        refine rs ?_
        exact ret_v (res1 Try.results77) (.inr ⟨rfl, rfl⟩) ⟨by rw [rising_bad hlt (by unfold okAt; rw [hgk, hs]; rfl)]; rfl, rfl, rfl⟩
      | true =>
        by_cases h0 : i = 0
        · skip
          rintro _ _ _ ⟨rfl, rfl, rfl⟩ r2 h2 n2 hr hh hn
          simp only [AV.ren, rens, Blk.ren, swp, List.map_cons, List.map_nil, List.cons_append, List.nil_append, List.append_nil, Nat.not_lt_zero, if_false, Nat.reduceAdd, Nat.zero_add, Nat.add_zero, ren_bl, hs] at hr hh hn
          subst hr hh hn
          refine st_p (op_notT rfl) rfl ?_
          refine st_p (mv rfl) rfl ?_
          refine st_pg rfl rfl rfl (mv rfl) rfl ?_
          refine st_pg rfl rfl rfl (OpP.conv (op_gt rfl rfl) (no (by first | assumption | omega))) rfl ?_
          refine st_pg rfl rfl rfl (mv rfl) rfl ?_
          refine st_s rfl rfl rfl rfl rfl ?_
          refine st_s rfl rfl rfl rfl rfl ?_
          refine st_s rfl rfl rfl rfl rfl ?_
          refine st_s rfl rfl rfl rfl rfl ?_
          refine st_s rfl rfl rfl rfl rfl ?_
          refine st_s rfl rfl rfl rfl rfl ?_
          refine st_s rfl rfl rfl rfl rfl ?_
          refine st_pg rfl rfl rfl (pkF rfl rfl) rfl ?_
          refine st_p (pkF rfl rfl) rfl ?_
          refine al_nil ?_
          refine nm ?_
          -- IF t29
          refine aw_no (rfl) ?_
          refine aw_skip ?_
          refine nmb ?_
          refine nm ?_
          refine aw_region ?_
          refine st_p (op_addi rfl rfl (by omega)) rfl ?_
          refine st_p (mv rfl) rfl ?_
          refine al_nil ?_
          refine nm ?_
          exact ⟨⟨i + 1, hlt, fun j hj => by
            rcases Nat.lt_succ_iff_lt_or_eq.1 hj with h | rfl
            · exact ha j h
            · unfold okAt; rw [hgk, hs, h0]; rfl⟩, by dsimp only; omega, le_to [] rfl rfl rfl rfl rfl ⟨rfl, rfl, rfl, rfl, rfl, rfl, trivial⟩ trivial⟩
        · obtain ⟨k', hc'⟩ : ∃ k', l[i - 1]? = some k' := ⟨_, List.getElem?_eq_getElem (by omega)⟩
          have hcb' : (l.map sb)[((i : Int) - 1).toNat]? = some (sb k') := by rw [show ((i : Int) - 1).toNat = i - 1 from by omega, List.getElem?_map, hc']; rfl
          have hgk' : l.getD (i - 1) [] = k' := by rw [List.getD_eq_getElem?_getD, hc']; rfl
          have h0' : (i == 0) = false := by simpa using h0
          cases hb : bless k' k with
          | false =>
            rintro _ _ _ ⟨rfl, rfl, rfl⟩ r2 h2 n2 hr hh hn
            simp only [AV.ren, rens, Blk.ren, swp, List.map_cons, List.map_nil, List.cons_append, List.nil_append, List.append_nil, Nat.not_lt_zero, if_false, Nat.reduceAdd, Nat.zero_add, Nat.add_zero, ren_bl, hs] at hr hh hn
            subst hr hh hn
            refine st_p (op_notT rfl) rfl ?_
            refine st_p (mv rfl) rfl ?_
            refine st_pg rfl rfl rfl (mv rfl) rfl ?_
            refine st_pg rfl rfl rfl (OpP.conv (op_gt rfl rfl) (yes (by first | assumption | omega))) rfl ?_
            refine st_pg rfl rfl rfl (mv rfl) rfl ?_
            refine st_pg rfl rfl rfl (mv rfl) rfl ?_
            refine st_pg rfl rfl rfl (mv rfl) rfl ?_
            refine st_pg rfl rfl rfl (op_subi rfl rfl (by omega)) rfl ?_
            refine st_pg rfl rfl rfl (op_indexAddrL Try.underlying74 z9 rfl rfl (by omega) (by first | assumption | rfl)) rfl ?_
            refine st_pg rfl rfl rfl (op_load1L Try.underlying9 rfl rfl rfl) rfl ?_
            refine st_pg rfl rfl rfl (mv rfl) rfl ?_
            refine st_pg rfl rfl rfl (op_ges rfl rfl) rfl ?_
            refine st_pg rfl rfl rfl (pkT rfl rfl) rfl ?_
            refine st_p (pkF rfl rfl) rfl ?_
            refine al_nil ?_
            refine nm ?_
            -- IF t29
            refine aw_yes (by show AV.bool (!bless k' k) = _; rw [hb]; rfl) ?_
            refine aw_seq ?_
            refine aw_region ?_
            refine st_p (mva rfl) rfl ?_
            refine al_nil ?_
            refine nm ?_
            refine aw_ret ?_
            refine rb ?_
            refine rs ?_
            refine rs ?_
            refine rb ?_
            refine rs ?_
            exact ret_v (res1 Try.results77) (.inr ⟨rfl, rfl⟩) ⟨by rw [rising_bad hlt (by unfold okAt; rw [hgk, hgk', hs, hb, h0']; rfl)]; rfl, rfl, rfl⟩
          | true =>
            rintro _ _ _ ⟨rfl, rfl, rfl⟩ r2 h2 n2 hr hh hn
            simp only [AV.ren, rens, Blk.ren, swp, List.map_cons, List.map_nil, List.cons_append, List.nil_append, List.append_nil, Nat.not_lt_zero, if_false, Nat.reduceAdd, Nat.zero_add, Nat.add_zero, ren_bl, hs] at hr hh hn
            subst hr hh hn
            refine st_p (op_notT rfl) rfl ?_
            refine st_p (mv rfl) rfl ?_
            refine st_pg rfl rfl rfl (mv rfl) rfl ?_
            refine st_pg rfl rfl rfl (OpP.conv (op_gt rfl rfl) (yes (by first | assumption | omega))) rfl ?_
            refine st_pg rfl rfl rfl (mv rfl) rfl ?_
            refine st_pg rfl rfl rfl (mv rfl) rfl ?_
            refine st_pg rfl rfl rfl (mv rfl) rfl ?_
            refine st_pg rfl rfl rfl (op_subi rfl rfl (by omega)) rfl ?_
            refine st_pg rfl rfl rfl (op_indexAddrL Try.underlying74 z9 rfl rfl (by omega) (by first | assumption | rfl)) rfl ?_
            refine st_pg rfl rfl rfl (op_load1L Try.underlying9 rfl rfl rfl) rfl ?_
            refine st_pg rfl rfl rfl (mv rfl) rfl ?_
            refine st_pg rfl rfl rfl (op_ges rfl rfl) rfl ?_
            refine st_pg rfl rfl rfl (pkT rfl rfl) rfl ?_
            refine st_p (pkF rfl rfl) rfl ?_
            refine al_nil ?_
            refine nm ?_
            -- IF t29
            refine aw_no (by show AV.bool (!bless k' k) = _; rw [hb]; rfl) ?_
            refine aw_skip ?_
            refine nmb ?_
            refine nm ?_
            refine aw_region ?_
            refine st_p (op_addi rfl rfl (by omega)) rfl ?_
            refine st_p (mv rfl) rfl ?_
            refine al_nil ?_
            refine nm ?_
            exact ⟨⟨i + 1, hlt, fun j hj => by
              rcases Nat.lt_succ_iff_lt_or_eq.1 hj with h | rfl
              · exact ha j h
              · unfold okAt; rw [hgk, hgk', hs, hb, h0']; rfl⟩, by dsimp only; omega, le_to [] rfl rfl rfl rfl rfl ⟨rfl, rfl, rfl, rfl, rfl, rfl, trivial⟩ trivial⟩
    · skip
      refine aw_seq ?_
      refine aw_region ?_
      refine st_p (OpP.conv (op_lt rfl rfl) (no (by first | assumption | omega))) rfl ?_
      refine al_nil ?_
      refine nm ?_
      refine aw_seq ?_
      -- IF t9
      refine aw_no (rfl) ?_
      refine aw_exit ?_
      refine xs ?_
      refine xs ?_
      refine xb ?_
      refine nm ?_
      refine aw_seq ?_
      refine aw_region ?_
      refine st_p (mva rfl) rfl ?_
      refine al_nil ?_
      refine nm ?_
      refine aw_ret ?_
      exact ret_v (res1 Try.results77) (.inr ⟨rfl, rfl⟩) ⟨by rw [rising_good (fun j hj => ha j (by omega))]; rfl, rfl, rfl⟩

end Go.Proofs.Ytloddmbbfkejcaa.Abs
end
section
/-
  Numbers and texts as bytes: what package num and its reference come to.
-/
namespace Go.Proofs.Ytloddmbbfkejcaa.Abs

def putNum (v : Nat) : List UInt8 := if v < 128 then [UInt8.ofNat v] else UInt8.ofNat (v % 128 + 128) :: putNum (v / 128)
termination_by v

theorem putNum_lo {v : Nat} (h : v < 128) : putNum v = [UInt8.ofNat v] := by rw [putNum, if_pos h]
theorem putNum_hi {v : Nat} (h : ¬ v < 128) : putNum v = UInt8.ofNat (v % 128 + 128) :: putNum (v / 128) := by rw [putNum, if_neg h]
theorem putNum_len : ∀ (n v : Nat), v < 128 ^ (n + 1) → (putNum v).length ≤ n + 1 := by
  intro n
  induction n with
  | zero => intro v h; rw [putNum_lo (by simpa using h)]; simp
  | succ n ih =>
    intro v h
    by_cases hv : v < 128
    · rw [putNum_lo hv]; simp
    · rw [putNum_hi hv, List.length_cons]
      have := ih (v / 128) (by rw [Nat.div_lt_iff_lt_mul (by decide)]; rw [Nat.pow_succ] at h; exact h)
      omega
theorem putNum_le (v : Nat) (h : v ≤ 9223372036854775807) : (putNum v).length ≤ 9 := putNum_len 8 v (Nat.lt_of_le_of_lt h (by decide))
theorem putNum_pos (v : Nat) : 0 < (putNum v).length := by
  by_cases hv : v < 128
  · rw [putNum_lo hv]; simp
  · rw [putNum_hi hv]; simp

theorem u8_nat {n : Nat} (h : n < 256) : ((UInt8.ofNat n).toNat : Int) = n := by
  rw [UInt8.toNat_ofNat']
  rw [Nat.mod_eq_of_lt (by simpa using h)]
theorem wrap_u8 (x : Nat) : IntKind.u8.wrap (x : Int) = ((x % 256 : Nat) : Int) := by
  simp [IntKind.wrap, IntKind.signed, IntKind.bits]
theorem bits_or_128 : ∀ (y : Fin 256), bits .or .u8 ((y.val : Nat) : Int) 128 = ((y.val % 128 + 128 : Nat) : Int) := by decide +kernel
theorem more_byte (x : Nat) : bits .or .u8 (IntKind.u8.wrap (x : Int)) 128 = ((UInt8.ofNat (x % 128 + 128)).toNat : Int) := by
  rw [wrap_u8, u8_nat (by omega)]
  have := bits_or_128 ⟨x % 256, Nat.mod_lt _ (by decide)⟩
  dsimp only at this
  rw [this]
  congr 1
  omega
theorem low_byte (x : Nat) (hx : x < 128) : IntKind.u8.wrap (x : Int) = ((UInt8.ofNat x).toNat : Int) := by
  rw [wrap_u8, u8_nat (by omega), Nat.mod_eq_of_lt (by omega)]

theorem num_Put (v : Int) (h0 : 0 ≤ v) (h1 : v ≤ 9223372036854775807) : AC Try.prog 86 [.int .i64 v] [] 0 false (fun r h nx => r = .own 0 0 (putNum v.toNat).length ∧ h = [(0, .cells 1 (bl (putNum v.toNat)))] ∧ nx = 1) := by
  have hle := putNum_le v.toNat (by omega)
  refine ac_fn Try.func86 rfl rfl rfl rfl (fun w0 S0 r0 => ?_)
  refine aw_seq ?_
  refine aw_region ?_
  refine st_p (mva rfl) rfl ?_
  refine al_nil ?_
  refine nm ?_
  refine aw_seq ?_
  refine aw_seq ?_
  refine aw_region ?_
  refine st_p (mv rfl) rfl ?_
  refine st_p (OpP.conv (op_lt rfl rfl) (no (by first | assumption | omega))) rfl ?_
  refine al_nil ?_
  refine nm ?_
  -- IF t4
  refine aw_no (rfl) ?_
  refine aw_skip ?_
  refine nm ?_
  refine aw_seq ?_
  refine aw_block ?_
  -- LOOP
  refine aw_virt 2 1 rfl ?_
  refine aw_loop (fun p : {p : Nat × List UInt8 // p.2 ++ putNum p.1 = putNum v.toNat ∧ p.1 ≤ 9223372036854775807} => ⟨[(0, .int .i64 p.1.1), (2, .own 0 0 p.1.2.length)], [(0, .cells 1 (bl p.1.2))], 1⟩) (fun p => p.1.1) ⟨(v.toNat, []), rfl, by dsimp only; omega⟩ ?_ ?_
  · exact le_to [] rfl rfl rfl rfl rfl ⟨by simp only [AV.ren]; rw [Int.toNat_of_nonneg h0]; rfl, rfl, trivial⟩ ⟨rfl, trivial⟩
  · rintro ⟨⟨x, acc⟩, he, hx⟩
    dsimp only at he hx ⊢
    have hl : acc.length ≤ 9 := by rw [← he] at hle; simp only [List.length_append] at hle; omega
    by_cases hb : 127 < x
    · skip
      refine aw_seq ?_
      refine aw_seq ?_
      refine aw_region ?_
      refine st_p (mv rfl) rfl ?_
      refine st_p (OpP.conv (op_gt rfl rfl) (yes (by first | assumption | omega))) rfl ?_
      refine al_nil ?_
      refine nm ?_
      -- IF t6
      refine aw_yes (rfl) ?_
      refine aw_skip ?_
      refine nm ?_
      refine aw_seq ?_
      refine aw_block ?_
      refine aw_region ?_
      refine st_p (mv rfl) rfl ?_
      refine st_p (mv rfl) rfl ?_
      refine st_p (op_conv (by rw [Try.underlying3]; rfl) Try.underlying5 rfl) rfl ?_
      refine st_p (op_bor rfl rfl) rfl ?_
      refine st_o (bsl Try.underlying22 i5 o5 (by decide) rfl rfl rfl (by decide)) rfl ?_
      refine st_o (op_app Try.underlying22 Try.underlying22 (.inl ⟨_, rfl⟩) i5 o5 rfl rfl rfl (by first | rfl | omega | (simp; done) | (simp; omega)) ((SrcA.whole rfl (by first | rfl | simp)).ok rfl (by intro z hz; simp only [List.mem_singleton, List.drop_zero, List.take_succ_cons, List.take_zero, List.mem_cons, List.not_mem_nil, or_false, List.mem_map] at hz; first | (subst hz; rfl) | (obtain ⟨_, _, rfl⟩ := hz; rfl) | (rcases hz with rfl | rfl <;> rfl))) (by simp; try omega) rfl) rfl ?_
      refine st_p (mva rfl) rfl ?_
      refine al_nil ?_
      refine nmb ?_
      refine nm ?_
      refine aw_region ?_
      refine st_p (mv rfl) rfl ?_
      refine st_p (op_shr rfl rfl (by decide)) rfl ?_
      refine st_p (mva rfl) rfl ?_
      refine al_nil ?_
      refine nm ?_
      refine ⟨⟨(x / 128, acc ++ [UInt8.ofNat (x % 128 + 128)]), by show (acc ++ [UInt8.ofNat (x % 128 + 128)]) ++ putNum (x / 128) = _; rw [List.append_assoc, ← he, putNum_hi (v := x) (by omega)]; rfl, by dsimp only; omega⟩, by dsimp only; omega, le_to [(0, 2)] rfl rfl rfl rfl rfl ⟨?_, ?_, trivial⟩ ⟨?_, trivial⟩⟩
      · simp only [AV.ren, tget]; rfl
      · simp [AV.ren, tget, swp, bl]
      · simp only [Blk.ren, hget, swp, ren_bl, more_byte]; simp [bl]
    · skip
      refine aw_seq ?_
      refine aw_seq ?_
      refine aw_region ?_
      refine st_p (mv rfl) rfl ?_
      refine st_p (OpP.conv (op_gt rfl rfl) (no (by first | assumption | omega))) rfl ?_
      refine al_nil ?_
      refine nm ?_
      -- IF t6
      refine aw_no (rfl) ?_
      refine aw_exit ?_
      refine xs ?_
      refine xs ?_
      refine xb ?_
      refine nm ?_
      refine aw_seq ?_
      refine aw_region ?_
      refine st_p (mv rfl) rfl ?_
      refine st_p (mv rfl) rfl ?_
      refine st_p (op_conv (by rw [Try.underlying3]; rfl) Try.underlying5 rfl) rfl ?_
      refine st_o (bsl Try.underlying22 i5 o5 (by decide) rfl rfl rfl (by decide)) rfl ?_
      refine st_o (op_app Try.underlying22 Try.underlying22 (.inl ⟨_, rfl⟩) i5 o5 rfl rfl rfl (by first | rfl | omega | (simp; done) | (simp; omega)) ((SrcA.whole rfl (by first | rfl | simp)).ok rfl (by intro z hz; simp only [List.mem_singleton, List.drop_zero, List.take_succ_cons, List.take_zero, List.mem_cons, List.not_mem_nil, or_false, List.mem_map] at hz; first | (subst hz; rfl) | (obtain ⟨_, _, rfl⟩ := hz; rfl) | (rcases hz with rfl | rfl <;> rfl))) (by simp; try omega) rfl) rfl ?_
      refine st_p (mva rfl) rfl ?_
      refine al_nil ?_
      refine nm ?_
      refine aw_ret ?_
      refine ret_a ⟨[(2, .own 0 0 (putNum v.toNat).length)], [(0, .cells 1 (bl (putNum v.toNat)))], 1⟩ (le_to [(0, 2)] rfl rfl rfl rfl rfl ⟨?_, trivial⟩ ⟨?_, trivial⟩) (res1 Try.results86) (.inr ⟨rfl, ?_⟩) ⟨rfl, rfl, rfl⟩
      · rw [← he, putNum_lo (by omega)]; simp [AV.ren, tget, swp, bl]
      · rw [← he, putNum_lo (by omega)]; simp only [Blk.ren, hget, swp, ren_bl, low_byte x (by omega)]; simp [bl]
      · simp [Blk.nosl, AV.nosl]

end Go.Proofs.Ytloddmbbfkejcaa.Abs
end
section
/-
  Numbers and texts taken from bytes: package num.
-/
namespace Go.Proofs.Ytloddmbbfkejcaa.Abs

def takeN : List UInt8 → Nat → Nat → Option (Nat × Nat)
  | [], _, _ => none
  | c :: t, i, v => if c.toNat < 128 then (if i = 0 ∨ 0 < c.toNat then some (v + c.toNat * 128 ^ i, i + 1) else none) else takeN t (i + 1) (v + (c.toNat - 128) * 128 ^ i)

def takeNum (l : List UInt8) : Option (Nat × Nat) := takeN (l.take 9) 0 0

def numA : Option (Nat × Nat) → AV
  | some (v, n) => .tup [.int .i64 v, .int .i64 n, .bool true]
  | none => .tup [.int .i64 0, .int .i64 0, .bool false]

theorem num_result (v n : Int) (b : Bool) : AC Try.prog 186 [.int .i64 v, .int .i64 n, .bool b] [] 0 false (fun r h nx => r = (if b then .tup [.int .i64 v, .int .i64 n, .bool true] else .tup [.int .i64 0, .int .i64 0, .bool false]) ∧ h = [] ∧ nx = 0) := by
  cases b
  · skip
    refine ac_fn Try.func186 rfl rfl rfl rfl (fun w0 S0 r0 => ?_)
    refine aw_seq ?_
    refine aw_region ?_
    refine st_p (mva rfl) rfl ?_
    refine st_p (mva rfl) rfl ?_
    refine st_p (mva rfl) rfl ?_
    refine al_nil ?_
    refine nm ?_
    refine aw_seq ?_
    refine aw_seq ?_
    refine aw_region ?_
    refine st_p (mv rfl) rfl ?_
    refine st_p (op_notF rfl) rfl ?_
    refine al_nil ?_
    refine nm ?_
    -- IF t10
    refine aw_yes (rfl) ?_
    refine aw_seq ?_
    refine aw_region ?_
    refine st_p (mva rfl) rfl ?_
    refine st_p (mva rfl) rfl ?_
    refine st_p (mva rfl) rfl ?_
    refine al_nil ?_
    refine nm ?_
    refine aw_ret ?_
    refine rs ?_
    exact ret_v (res3 Try.results186) (.inr ⟨rfl, rfl⟩) ⟨rfl, rfl, rfl⟩
  · skip
    refine ac_fn Try.func186 rfl rfl rfl rfl (fun w0 S0 r0 => ?_)
    refine aw_seq ?_
    refine aw_region ?_
    refine st_p (mva rfl) rfl ?_
    refine st_p (mva rfl) rfl ?_
    refine st_p (mva rfl) rfl ?_
    refine al_nil ?_
    refine nm ?_
    refine aw_seq ?_
    refine aw_seq ?_
    refine aw_region ?_
    refine st_p (mv rfl) rfl ?_
    refine st_p (op_notT rfl) rfl ?_
    refine al_nil ?_
    refine nm ?_
    -- IF t10
    refine aw_no (rfl) ?_
    refine aw_skip ?_
    refine nm ?_
    refine aw_seq ?_
    refine aw_region ?_
    refine st_p (mv rfl) rfl ?_
    refine st_p (mv rfl) rfl ?_
    refine st_p (mva rfl) rfl ?_
    refine st_p (mva rfl) rfl ?_
    refine st_p (mva rfl) rfl ?_
    refine al_nil ?_
    refine nm ?_
    refine aw_ret ?_
    exact ret_v (res3 Try.results186) (.inr ⟨rfl, rfl⟩) ⟨rfl, rfl, rfl⟩

theorem take_min {α : Type} (l : List α) (k : Nat) : l.take (min (l.length : Int) (k : Int)).toNat = l.take k := by
  have : (min (l.length : Int) (k : Int)).toNat = min l.length k := by omega
  rw [this]
  rcases Nat.le_total l.length k with h | h
  · rw [Nat.min_eq_left h, List.take_length, List.take_of_length_le h]
  · rw [Nat.min_eq_right h]

theorem and_127 : ∀ (y : Fin 256), bits .and .u8 ((y.val : Nat) : Int) 127 = ((y.val % 128 : Nat) : Int) := by decide +kernel
theorem and_128 : ∀ (y : Fin 256), bits .and .u8 ((y.val : Nat) : Int) 128 = if y.val < 128 then 0 else 128 := by decide +kernel
theorem u8_and127 (c : UInt8) : bits .and .u8 (c.toNat : Int) 127 = ((c.toNat % 128 : Nat) : Int) := and_127 ⟨c.toNat, c.toNat_lt⟩
theorem u8_and128 (c : UInt8) : bits .and .u8 (c.toNat : Int) 128 = if c.toNat < 128 then 0 else 128 := and_128 ⟨c.toNat, c.toNat_lt⟩
theorem or_add (v x i : Nat) (hv : v < 128 ^ i) (hx : v + x * 128 ^ i < 9223372036854775808) : bits .or .i64 (v : Int) ((x * 128 ^ i : Nat) : Int) = ((v + x * 128 ^ i : Nat) : Int) := by
  have e7 : 128 ^ i = 2 ^ (7 * i) := by rw [show (128 : Nat) = 2 ^ 7 from rfl, ← Nat.pow_mul]
  have hor : v ||| x * 128 ^ i = v + x * 128 ^ i := by
    have h1 := Nat.shiftLeft_add_eq_or_of_lt (i := 7 * i) (b := v) (by rw [← e7]; exact hv) x
    rw [Nat.shiftLeft_eq, ← e7] at h1
    rw [Nat.or_comm, ← h1, Nat.add_comm]
  have h1 : (BitVec.ofInt 64 (v : Int)).toNat = v := by
    rw [BitVec.ofInt_natCast, BitVec.toNat_ofNat]; exact Nat.mod_eq_of_lt (by omega)
  have h2 : (BitVec.ofInt 64 ((x * 128 ^ i : Nat) : Int)).toNat = x * 128 ^ i := by
    rw [BitVec.ofInt_natCast, BitVec.toNat_ofNat]; exact Nat.mod_eq_of_lt (by omega)
  show IntKind.i64.wrap ((BitVec.ofInt 64 (v : Int) ||| BitVec.ofInt 64 ((x * 128 ^ i : Nat) : Int)).toNat : Int) = _
  rw [BitVec.toNat_or, h1, h2, hor, Abs.wrap_i64 (by omega) (by omega)]
theorem pow_le9 {i : Nat} (h : i ≤ 8) : 128 ^ (i + 1) ≤ 9223372036854775808 := by
  have := Nat.pow_le_pow_right (show 0 < 128 by decide) (show i + 1 ≤ 9 by omega)
  exact this
theorem take_val (v i : Nat) (c : UInt8) (hi : i ≤ 8) (hv : v < 128 ^ i) : bits .or .i64 (v : Int) (IntKind.i64.wrap (IntKind.i64.wrap (bits .and .u8 (c.toNat : Int) 127) * 2 ^ (7 * (i : Int)).toNat)) = ((v + c.toNat % 128 * 128 ^ i : Nat) : Int) ∧ v + c.toNat % 128 * 128 ^ i < 128 ^ (i + 1) := by
  have hc : c.toNat % 128 < 128 := Nat.mod_lt _ (by decide)
  have h9 := pow_le9 hi
  have hlt : v + c.toNat % 128 * 128 ^ i < 128 ^ (i + 1) := by
    have : (c.toNat % 128 + 1) * 128 ^ i ≤ 128 * 128 ^ i := Nat.mul_le_mul_right _ hc
    rw [Nat.add_mul, Nat.one_mul] at this
    rw [Nat.pow_succ, Nat.mul_comm (128 ^ i)]
    omega
  refine ⟨?_, hlt⟩
  have hw : IntKind.i64.wrap ((c.toNat % 128 : Nat) : Int) = ((c.toNat % 128 : Nat) : Int) := Abs.wrap_i64 (by omega) (by omega)
  rw [u8_and127, hw, show (7 * (i : Int)).toNat = 7 * i from by omega]
  have e : ((c.toNat % 128 : Nat) : Int) * 2 ^ (7 * i) = ((c.toNat % 128 * 128 ^ i : Nat) : Int) := by
    rw [show (128 : Nat) = 2 ^ 7 from rfl, ← Nat.pow_mul, Int.natCast_mul, Int.natCast_pow]
    rfl
  rw [e, Abs.wrap_i64 (by omega) (by omega), or_add v _ i hv (by omega)]

theorem num_Take (l : List UInt8) : AC Try.prog 146 [.sl 1 (bl l)] [] 0 false (fun r h nx => r = numA (takeNum l) ∧ h = [] ∧ nx = 0) := by
  generalize hm : l.take 9 = m
  have hml : m.length ≤ 9 := by rw [← hm]; simp; omega
  refine ac_fn Try.func146 rfl rfl rfl rfl (fun w0 S0 r0 => ?_)
  refine aw_seq ?_
  refine aw_region ?_
  refine st_p (mva rfl) rfl ?_
  refine st_p (mva rfl) rfl ?_
  refine st_p (mva rfl) rfl ?_
  refine al_nil ?_
  refine nm ?_
  refine aw_seq ?_
  refine aw_seq ?_
  refine aw_region ?_
  refine st_p (mv rfl) rfl ?_
  refine st_p (mv rfl) rfl ?_
  refine st_p (op_len Try.underlying22 rfl) rfl ?_
  refine st_p (op_min rfl rfl) rfl ?_
  refine st_p (op_sliceL Try.underlying22 z5 rfl (by exact rfl) (by exact ⟨_, rfl⟩) (by first | omega | (simp only [bl_len, List.length_map, List.length_append, List.length_take, List.length_drop]; omega)) (by first | omega | (simp only [bl_len, List.length_map, List.length_append, List.length_take, List.length_drop]; omega)) (by first | omega | (simp only [bl_len, List.length_map, List.length_append, List.length_take, List.length_drop]; omega))) rfl ?_
  refine st_p (op_len Try.underlying22 rfl) rfl ?_
  refine st_p (mv rfl) rfl ?_
  refine al_nil ?_
  refine nm ?_
  refine aw_block ?_
  -- LOOP
  refine aw_loop (fun p : {p : Nat × Nat // p.1 ≤ m.length ∧ takeN (m.drop p.1) p.1 p.2 = takeNum l ∧ p.2 < 128 ^ p.1} => ⟨[(2, .int .i64 p.1.2), (11, .sl 1 (bl m)), (12, .int .i64 m.length), (13, .int .i64 p.1.1)], [], 0⟩) (fun p => m.length - p.1.1) ⟨(0, 0), Nat.zero_le _, by rw [List.drop_zero, ← hm]; rfl, by decide⟩ ?_ ?_
  · have e : (min (l.length : Int) 9).toNat = min l.length 9 := by omega
    have e2 : l.take (min l.length 9) = m := by rw [← hm, ← take_min l 9]; congr 1; omega
    refine le_to [] rfl rfl rfl rfl rfl ⟨rfl, ?_, ?_, rfl, trivial⟩ trivial
    · show AV.sl 1 (((bl l).drop 0).take ((min ((bl l).length : Int) 9).toNat - 0)) = AV.sl 1 (bl m)
      rw [List.drop_zero, bl_len, e, Nat.sub_zero, bl_take, e2]
    · show AV.int .i64 ((((bl l).drop 0).take ((min ((bl l).length : Int) 9).toNat - 0)).length : Nat) = AV.int .i64 (m.length : Nat)
      rw [List.drop_zero, bl_len, e, Nat.sub_zero, bl_take, e2, bl_len]
  · rintro ⟨⟨i, v⟩, hi, ht, hv⟩
    dsimp only at hi ht hv ⊢
    by_cases hlt : i < m.length
    · obtain ⟨c, hc⟩ : ∃ c, m[i]? = some c := ⟨_, List.getElem?_eq_getElem hlt⟩
      have hcb : (bl m)[i]? = some (.int .u8 (c.toNat : Int)) := by simp [bl, hc]
      have hdr : m.drop i = c :: m.drop (i + 1) := by
        rw [List.drop_eq_getElem_cons hlt]; rw [List.getElem?_eq_getElem hlt] at hc; rw [Option.some.inj hc]
      rw [hdr, takeN] at ht
      obtain ⟨hval, hnew⟩ := take_val v i c (by omega) hv
      have hc0 : (0 : Int) ≤ c.toNat := Int.natCast_nonneg _
      by_cases hb : c.toNat < 128
      · have h128 : bits .and .u8 (c.toNat : Int) 128 = 0 := by rw [u8_and128, if_pos hb]
        rw [if_pos hb] at ht
        rw [Nat.mod_eq_of_lt hb] at hval hnew
        by_cases hok : i = 0 ∨ 0 < c.toNat
        · rw [if_pos hok] at ht
          by_cases hi0 : i = 0
          · skip
            refine aw_seq ?_
            refine aw_region ?_
            refine st_p (OpP.conv (op_lt rfl rfl) (yes (by first | assumption | omega))) rfl ?_
            refine al_nil ?_
            refine nm ?_
            refine aw_seq ?_
            -- IF t14
            refine aw_yes (rfl) ?_
            refine aw_skip ?_
            refine nm ?_
            refine aw_seq ?_
            refine aw_block ?_
            refine aw_seq ?_
            refine aw_region ?_
            refine st_p (mv rfl) rfl ?_
            refine st_p (op_indexAddrL Try.underlying22 z5 rfl rfl (by omega) (by first | assumption | rfl)) rfl ?_
            refine st_p (op_load1L Try.underlying5 rfl rfl rfl) rfl ?_
            refine st_p (mva rfl) rfl ?_
            refine st_p (mva rfl) rfl ?_
            refine al_nil ?_
            refine nm ?_
            refine aw_seq ?_
            refine aw_region ?_
            refine st_p (mv rfl) rfl ?_
            refine st_p (mv rfl) rfl ?_
            refine st_p (op_band rfl rfl) rfl ?_
            refine st_p (op_conv (by rw [Try.underlying5]; rfl) Try.underlying3 rfl) rfl ?_
            refine st_p (mv rfl) rfl ?_
            refine st_p (op_muli rfl rfl (by omega)) rfl ?_
            refine st_p (op_shl rfl rfl (by simp only [IntKind.bits]; omega)) rfl ?_
            refine st_p (op_bor rfl rfl) rfl ?_
            refine st_p (mva rfl) rfl ?_
            refine al_nil ?_
            refine nm ?_
            refine aw_seq ?_
            refine aw_region ?_
            refine st_p (mv rfl) rfl ?_
            refine st_p (op_band rfl rfl) rfl ?_
            refine st_p (OpP.conv (op_eq rfl rfl) (yes (by first | assumption | omega))) rfl ?_
            refine al_nil ?_
            refine nm ?_
            -- IF t28
            refine aw_yes (rfl) ?_
            refine aw_seq ?_
            refine aw_region ?_
            refine st_p (mv rfl) rfl ?_
            refine st_p (mv rfl) rfl ?_
            refine st_p (op_addi rfl rfl (by omega)) rfl ?_
            refine st_p (mv rfl) rfl ?_
            refine st_p (OpP.conv (op_eq rfl rfl) (yes (by first | assumption | omega))) rfl ?_
            refine st_p (mv rfl) rfl ?_
            refine st_s rfl rfl rfl rfl rfl ?_
            refine st_s rfl rfl rfl rfl rfl ?_
            refine st_p (pkT rfl rfl) rfl ?_
            -- STOP: call diwan/num.result(t29, t31, t37) -> 38
            refine st_call0 (num_result _ _ true) Try.func186 ⟨rfl, rfl⟩ rfl (.cons (.same (by rfl)) (.cons (.same (by rfl)) (.cons (.same (by rfl)) .nil))) rfl ?_
            rintro _ _ _ ⟨rfl, rfl, rfl⟩ r2 h2 n2 hr hh hn
            simp only [AV.ren, rens, Blk.ren, swp, List.map_cons, List.map_nil, List.cons_append, List.nil_append, List.append_nil, Nat.not_lt_zero, if_false, Nat.reduceAdd, Nat.zero_add, Nat.add_zero, ren_bl, if_true] at hr hh hn
            subst hr hh hn
            refine st_p (op_extract rfl rfl) rfl ?_
            refine st_p (op_extract rfl rfl) rfl ?_
            refine st_p (op_extract rfl rfl) rfl ?_
            refine st_p (mva rfl) rfl ?_
            refine st_p (mva rfl) rfl ?_
            refine st_p (mva rfl) rfl ?_
            refine al_nil ?_
            refine nm ?_
            refine aw_ret ?_
            refine rb ?_
            refine rs ?_
            refine rs ?_
            refine rb ?_
            refine rs ?_
            refine ret_a ⟨[(2, .int .i64 (v + c.toNat * 128 ^ i : Nat)), (3, .int .i64 (i + 1 : Nat)), (4, .bool true)], [], 0⟩ (le_to [] rfl rfl rfl rfl rfl ⟨by rw [← hval]; rfl, rfl, rfl, trivial⟩ trivial) (res3 Try.results146) (.inr ⟨rfl, rfl⟩) ⟨by rw [← ht]; rfl, rfl, rfl⟩
          · skip
            refine aw_seq ?_
            refine aw_region ?_
            refine st_p (OpP.conv (op_lt rfl rfl) (yes (by first | assumption | omega))) rfl ?_
            refine al_nil ?_
            refine nm ?_
            refine aw_seq ?_
            -- IF t14
            refine aw_yes (rfl) ?_
            refine aw_skip ?_
            refine nm ?_
            refine aw_seq ?_
            refine aw_block ?_
            refine aw_seq ?_
            refine aw_region ?_
            refine st_p (mv rfl) rfl ?_
            refine st_p (op_indexAddrL Try.underlying22 z5 rfl rfl (by omega) (by first | assumption | rfl)) rfl ?_
            refine st_p (op_load1L Try.underlying5 rfl rfl rfl) rfl ?_
            refine st_p (mva rfl) rfl ?_
            refine st_p (mva rfl) rfl ?_
            refine al_nil ?_
            refine nm ?_
            refine aw_seq ?_
            refine aw_region ?_
            refine st_p (mv rfl) rfl ?_
            refine st_p (mv rfl) rfl ?_
            refine st_p (op_band rfl rfl) rfl ?_
            refine st_p (op_conv (by rw [Try.underlying5]; rfl) Try.underlying3 rfl) rfl ?_
            refine st_p (mv rfl) rfl ?_
            refine st_p (op_muli rfl rfl (by omega)) rfl ?_
            refine st_p (op_shl rfl rfl (by simp only [IntKind.bits]; omega)) rfl ?_
            refine st_p (op_bor rfl rfl) rfl ?_
            refine st_p (mva rfl) rfl ?_
            refine al_nil ?_
            refine nm ?_
            refine aw_seq ?_
            refine aw_region ?_
            refine st_p (mv rfl) rfl ?_
            refine st_p (op_band rfl rfl) rfl ?_
            refine st_p (OpP.conv (op_eq rfl rfl) (yes (by first | assumption | omega))) rfl ?_
            refine al_nil ?_
            refine nm ?_
            -- IF t28
            refine aw_yes (rfl) ?_
            refine aw_seq ?_
            refine aw_region ?_
            refine st_p (mv rfl) rfl ?_
            refine st_p (mv rfl) rfl ?_
            refine st_p (op_addi rfl rfl (by omega)) rfl ?_
            refine st_p (mv rfl) rfl ?_
            refine st_p (OpP.conv (op_eq rfl rfl) (no (by first | assumption | omega))) rfl ?_
            refine st_p (mv rfl) rfl ?_
            refine st_pg rfl rfl rfl (mv rfl) rfl ?_
            refine st_pg rfl rfl rfl (OpP.conv (op_gt rfl rfl) (yes (by first | assumption | omega))) rfl ?_
            refine st_p (pkF rfl rfl) rfl ?_
            -- STOP: call diwan/num.result(t29, t31, t37) -> 38
            refine st_call0 (num_result _ _ true) Try.func186 ⟨rfl, rfl⟩ rfl (.cons (.same (by rfl)) (.cons (.same (by rfl)) (.cons (.same (by rfl)) .nil))) rfl ?_
            rintro _ _ _ ⟨rfl, rfl, rfl⟩ r2 h2 n2 hr hh hn
            simp only [AV.ren, rens, Blk.ren, swp, List.map_cons, List.map_nil, List.cons_append, List.nil_append, List.append_nil, Nat.not_lt_zero, if_false, Nat.reduceAdd, Nat.zero_add, Nat.add_zero, ren_bl, if_true] at hr hh hn
            subst hr hh hn
            refine st_p (op_extract rfl rfl) rfl ?_
            refine st_p (op_extract rfl rfl) rfl ?_
            refine st_p (op_extract rfl rfl) rfl ?_
            refine st_p (mva rfl) rfl ?_
            refine st_p (mva rfl) rfl ?_
            refine st_p (mva rfl) rfl ?_
            refine al_nil ?_
            refine nm ?_
            refine aw_ret ?_
            refine rb ?_
            refine rs ?_
            refine rs ?_
            refine rb ?_
            refine rs ?_
            refine ret_a ⟨[(2, .int .i64 (v + c.toNat * 128 ^ i : Nat)), (3, .int .i64 (i + 1 : Nat)), (4, .bool true)], [], 0⟩ (le_to [] rfl rfl rfl rfl rfl ⟨by rw [← hval]; rfl, rfl, rfl, trivial⟩ trivial) (res3 Try.results146) (.inr ⟨rfl, rfl⟩) ⟨by rw [← ht]; rfl, rfl, rfl⟩
        · rw [if_neg hok] at ht
          refine aw_seq ?_
          refine aw_region ?_
          refine st_p (OpP.conv (op_lt rfl rfl) (yes (by first | assumption | omega))) rfl ?_
          refine al_nil ?_
          refine nm ?_
          refine aw_seq ?_
          -- IF t14
          refine aw_yes (rfl) ?_
          refine aw_skip ?_
          refine nm ?_
          refine aw_seq ?_
          refine aw_block ?_
          refine aw_seq ?_
          refine aw_region ?_
          refine st_p (mv rfl) rfl ?_
          refine st_p (op_indexAddrL Try.underlying22 z5 rfl rfl (by omega) (by first | assumption | rfl)) rfl ?_
          refine st_p (op_load1L Try.underlying5 rfl rfl rfl) rfl ?_
          refine st_p (mva rfl) rfl ?_
          refine st_p (mva rfl) rfl ?_
          refine al_nil ?_
          refine nm ?_
          refine aw_seq ?_
          refine aw_region ?_
          refine st_p (mv rfl) rfl ?_
          refine st_p (mv rfl) rfl ?_
          refine st_p (op_band rfl rfl) rfl ?_
          refine st_p (op_conv (by rw [Try.underlying5]; rfl) Try.underlying3 rfl) rfl ?_
          refine st_p (mv rfl) rfl ?_
          refine st_p (op_muli rfl rfl (by omega)) rfl ?_
          refine st_p (op_shl rfl rfl (by simp only [IntKind.bits]; omega)) rfl ?_
          refine st_p (op_bor rfl rfl) rfl ?_
          refine st_p (mva rfl) rfl ?_
          refine al_nil ?_
          refine nm ?_
          refine aw_seq ?_
          refine aw_region ?_
          refine st_p (mv rfl) rfl ?_
          refine st_p (op_band rfl rfl) rfl ?_
          refine st_p (OpP.conv (op_eq rfl rfl) (yes (by first | assumption | omega))) rfl ?_
          refine al_nil ?_
          refine nm ?_
          -- IF t28
          refine aw_yes (rfl) ?_
          refine aw_seq ?_
          refine aw_region ?_
          refine st_p (mv rfl) rfl ?_
          refine st_p (mv rfl) rfl ?_
          refine st_p (op_addi rfl rfl (by omega)) rfl ?_
          refine st_p (mv rfl) rfl ?_
          refine st_p (OpP.conv (op_eq rfl rfl) (no (by first | assumption | omega))) rfl ?_
          refine st_p (mv rfl) rfl ?_
          refine st_pg rfl rfl rfl (mv rfl) rfl ?_
          refine st_pg rfl rfl rfl (OpP.conv (op_gt rfl rfl) (no (by first | assumption | omega))) rfl ?_
          refine st_p (pkF rfl rfl) rfl ?_
          -- STOP: call diwan/num.result(t29, t31, t37) -> 38
          refine st_call0 (num_result _ _ false) Try.func186 ⟨rfl, rfl⟩ rfl (.cons (.same (by rfl)) (.cons (.same (by rfl)) (.cons (.same (by rfl)) .nil))) rfl ?_
          rintro _ _ _ ⟨rfl, rfl, rfl⟩ r2 h2 n2 hr hh hn
          simp only [AV.ren, rens, Blk.ren, swp, List.map_cons, List.map_nil, List.cons_append, List.nil_append, List.append_nil, Nat.not_lt_zero, if_false, Nat.reduceAdd, Nat.zero_add, Nat.add_zero, ren_bl, Bool.false_eq_true, if_false] at hr hh hn
          subst hr hh hn
          refine st_p (op_extract rfl rfl) rfl ?_
          refine st_p (op_extract rfl rfl) rfl ?_
          refine st_p (op_extract rfl rfl) rfl ?_
          refine st_p (mva rfl) rfl ?_
          refine st_p (mva rfl) rfl ?_
          refine st_p (mva rfl) rfl ?_
          refine al_nil ?_
          refine nm ?_
          refine aw_ret ?_
          refine rb ?_
          refine rs ?_
          refine rs ?_
          refine rb ?_
          refine rs ?_
          refine ret_a ⟨[(2, .int .i64 0), (3, .int .i64 0), (4, .bool false)], [], 0⟩ (le_to [] rfl rfl rfl rfl rfl ⟨rfl, rfl, rfl, trivial⟩ trivial) (res3 Try.results146) (.inr ⟨rfl, rfl⟩) ⟨by rw [← ht]; rfl, rfl, rfl⟩
      · have h128 : ¬ bits .and .u8 (c.toNat : Int) 128 = 0 := by rw [u8_and128, if_neg hb]; decide
        rw [if_neg hb] at ht
        have hm128 : c.toNat % 128 = c.toNat - 128 := by have := c.toNat_lt; omega
        rw [hm128] at hval hnew
        refine aw_seq ?_
        refine aw_region ?_
        refine st_p (OpP.conv (op_lt rfl rfl) (yes (by first | assumption | omega))) rfl ?_
        refine al_nil ?_
        refine nm ?_
        refine aw_seq ?_
        -- IF t14
        refine aw_yes (rfl) ?_
        refine aw_skip ?_
        refine nm ?_
        refine aw_seq ?_
        refine aw_block ?_
        refine aw_seq ?_
        refine aw_region ?_
        refine st_p (mv rfl) rfl ?_
        refine st_p (op_indexAddrL Try.underlying22 z5 rfl rfl (by omega) (by first | assumption | rfl)) rfl ?_
        refine st_p (op_load1L Try.underlying5 rfl rfl rfl) rfl ?_
        refine st_p (mva rfl) rfl ?_
        refine st_p (mva rfl) rfl ?_
        refine al_nil ?_
        refine nm ?_
        refine aw_seq ?_
        refine aw_region ?_
        refine st_p (mv rfl) rfl ?_
        refine st_p (mv rfl) rfl ?_
        refine st_p (op_band rfl rfl) rfl ?_
        refine st_p (op_conv (by rw [Try.underlying5]; rfl) Try.underlying3 rfl) rfl ?_
        refine st_p (mv rfl) rfl ?_
        refine st_p (op_muli rfl rfl (by omega)) rfl ?_
        refine st_p (op_shl rfl rfl (by simp only [IntKind.bits]; omega)) rfl ?_
        refine st_p (op_bor rfl rfl) rfl ?_
        refine st_p (mva rfl) rfl ?_
        refine al_nil ?_
        refine nm ?_
        refine aw_seq ?_
        refine aw_region ?_
        refine st_p (mv rfl) rfl ?_
        refine st_p (op_band rfl rfl) rfl ?_
        refine st_p (OpP.conv (op_eq rfl rfl) (no (by first | assumption | omega))) rfl ?_
        refine al_nil ?_
        refine nm ?_
        -- IF t28
        refine aw_no (rfl) ?_
        refine aw_skip ?_
        refine nmb ?_
        refine nm ?_
        refine aw_region ?_
        refine st_p (op_addi rfl rfl (by omega)) rfl ?_
        refine st_p (mv rfl) rfl ?_
        refine al_nil ?_
        refine nm ?_
        refine ⟨⟨(i + 1, v + (c.toNat - 128) * 128 ^ i), by dsimp only; omega, ht, hnew⟩, by dsimp only; omega, le_to [] rfl rfl rfl rfl rfl ⟨?_, rfl, rfl, rfl, trivial⟩ trivial⟩
        rw [← hval]; rfl
    · have hnil : m.drop i = [] := List.drop_of_length_le (by omega)
      rw [hnil, takeN] at ht
      refine aw_seq ?_
      refine aw_region ?_
      refine st_p (OpP.conv (op_lt rfl rfl) (no (by first | assumption | omega))) rfl ?_
      refine al_nil ?_
      refine nm ?_
      refine aw_seq ?_
      -- IF t14
      refine aw_no (rfl) ?_
      refine aw_exit ?_
      refine xs ?_
      refine xs ?_
      refine xb ?_
      refine nm ?_
      refine aw_seq ?_
      refine aw_region ?_
      refine st_p (mva rfl) rfl ?_
      refine st_p (mva rfl) rfl ?_
      refine st_p (mva rfl) rfl ?_
      refine al_nil ?_
      refine nm ?_
      refine aw_ret ?_
      refine ret_a ⟨[(2, .int .i64 0), (3, .int .i64 0), (4, .bool false)], [], 0⟩ (le_to [] rfl rfl rfl rfl rfl ⟨rfl, rfl, rfl, trivial⟩ trivial) (res3 Try.results146) (.inr ⟨rfl, rfl⟩) ⟨by rw [← ht]; rfl, rfl, rfl⟩

end Go.Proofs.Ytloddmbbfkejcaa.Abs
end
section
/-
  Texts as bytes: package num.
-/
namespace Go.Proofs.Ytloddmbbfkejcaa.Abs

def putText (s : List UInt8) : List UInt8 := putNum s.length ++ s

theorem num_PutText (s : List UInt8) (hs : s.length ≤ 255) : AC Try.prog 87 [sb s] [] 0 false (fun r h nx => r = .own 0 0 (putText s).length ∧ h = [(0, .cells 1 (bl (putText s)))] ∧ nx = 1) := by
  have hle := putNum_le s.length (by omega)
  refine ac_fn Try.func87 rfl rfl rfl rfl (fun w0 S0 r0 => ?_)
  refine aw_seq ?_
  refine aw_region ?_
  refine st_p (mva rfl) rfl ?_
  refine al_nil ?_
  refine nm ?_
  refine aw_seq ?_
  refine aw_seq ?_
  refine aw_region ?_
  refine st_p (mv rfl) rfl ?_
  refine st_p (op_lens Try.underlying9 rfl) rfl ?_
  refine st_p (OpP.conv (op_gt rfl rfl) (no (by first | assumption | omega))) rfl ?_
  refine al_nil ?_
  refine nm ?_
  -- IF t5
  refine aw_no (rfl) ?_
  refine aw_skip ?_
  refine nm ?_
  refine aw_seq ?_
  refine aw_region ?_
  refine st_p (mv rfl) rfl ?_
  refine st_p (op_lens Try.underlying9 rfl) rfl ?_
  -- STOP: call diwan/num.Put(t7) -> 8
  refine st_call0 (num_Put (s.length : Int) (by omega) (by omega)) Try.func86 ⟨rfl, rfl⟩ rfl (.cons (.same (by rfl)) .nil) rfl ?_
  rintro _ _ _ ⟨rfl, rfl, rfl⟩ r2 h2 n2 hr hh hn
  simp only [AV.ren, rens, Blk.ren, swp, List.map_cons, List.map_nil, List.cons_append, List.nil_append, List.append_nil, Nat.not_lt_zero, if_false, Nat.reduceAdd, Nat.zero_add, Nat.add_zero, ren_bl, Int.toNat_natCast] at hr hh hn
  subst hr hh hn
  refine st_p (mv rfl) rfl ?_
  refine st_o (op_app Try.underlying22 Try.underlying9 (.inr rfl) i5 o5 rfl rfl rfl (by first | rfl | omega | (simp; done) | (simp; omega)) (SrcStr.ok rfl) (by simp; try omega) rfl) rfl ?_
  refine st_p (mva rfl) rfl ?_
  refine al_nil ?_
  refine nm ?_
  refine aw_ret ?_
  refine ret_a ⟨[(2, .own 0 0 (putText s).length)], [(0, .cells 1 (bl (putText s)))], 1⟩ (le_to [(0, 1)] rfl rfl rfl rfl rfl ⟨?_, trivial⟩ ⟨?_, trivial⟩) (res1 Try.results87) (.inr ⟨rfl, ?_⟩) ⟨rfl, rfl, rfl⟩
  · simp [AV.ren, tget, swp, putText, bl]
  · simp only [Blk.ren, hget, swp, ren_bl, putText, bl_app]; rfl
  · simp [Blk.nosl, AV.nosl, bl]

def takeText (l : List UInt8) : Option (List UInt8 × Nat) :=
  match takeNum l with
  | some (v, n) => if v ≤ 255 ∧ v + n ≤ l.length then some ((l.drop n).take v, n + v) else none
  | none => none

def textA : Option (List UInt8 × Nat) → AV
  | some (s, n) => .tup [sb s, .int .i64 n, .bool true]
  | none => .tup [sb [], .int .i64 0, .bool false]

theorem takeN_spec : ∀ (m : List UInt8) (i v0 v n : Nat), takeN m i v0 = some (v, n) → v0 < 128 ^ i → n ≤ i + m.length ∧ i < n ∧ v < 128 ^ n := by
  intro m
  induction m with
  | nil => intro i v0 v n h; cases h
  | cons c t ih =>
    intro i v0 v n h h0
    rw [takeN] at h
    have step : ∀ x, x < 128 → v0 + x * 128 ^ i < 128 ^ (i + 1) := fun x hx => by
      have : (x + 1) * 128 ^ i ≤ 128 * 128 ^ i := Nat.mul_le_mul_right _ hx
      rw [Nat.add_mul, Nat.one_mul] at this
      rw [Nat.pow_succ, Nat.mul_comm (128 ^ i)]
      omega
    split at h
    · rename_i hc
      split at h
      · obtain ⟨rfl, rfl⟩ := Prod.mk.inj (Option.some.inj h)
        exact ⟨by simp only [List.length_cons]; omega, by omega, step _ hc⟩
      · cases h
    · obtain ⟨h1, h2, h3⟩ := ih _ _ _ _ h (step _ (by have := c.toNat_lt; omega))
      exact ⟨by simp only [List.length_cons]; omega, by omega, h3⟩

theorem takeNum_spec {l : List UInt8} {v n : Nat} (h : takeNum l = some (v, n)) : n ≤ l.length ∧ 1 ≤ n ∧ n ≤ 9 ∧ v ≤ 9223372036854775807 := by
  obtain ⟨h1, h2, h3⟩ := takeN_spec _ _ _ _ _ h (by decide)
  simp only [List.length_take] at h1
  have : 128 ^ n ≤ 128 ^ 9 := Nat.pow_le_pow_right (by decide) (by omega)
  have e : (128 : Nat) ^ 9 = 9223372036854775808 := rfl
  exact ⟨by omega, by omega, by omega, by omega⟩

theorem num_TakeText (l : List UInt8) (hl : l.length ≤ 9223372036854775807) : AC Try.prog 148 [.sl 1 (bl l)] [] 0 false (fun r h nx => r = textA (takeText l) ∧ h = [] ∧ nx = 0) := by
  have hbl := bl_len l
  refine ac_fn Try.func148 rfl rfl rfl rfl (fun w0 S0 r0 => ?_)
  refine aw_seq ?_
  refine aw_region ?_
  refine st_p (mva rfl) rfl ?_
  refine st_p (mva rfl) rfl ?_
  refine st_p (mva rfl) rfl ?_
  refine al_nil ?_
  refine nm ?_
  refine aw_seq ?_
  refine aw_region ?_
  refine st_p (mv rfl) rfl ?_
  -- STOP: call diwan/num.Take(t7) -> 8
  refine st_call0 (num_Take l) Try.func146 ⟨rfl, rfl⟩ rfl (.cons (.same (by rfl)) .nil) rfl ?_
  cases ht : takeNum l with
  | none =>
    rintro _ _ _ ⟨rfl, rfl, rfl⟩ r2 h2 n2 hr hh hn
    simp only [AV.ren, rens, Blk.ren, swp, List.map_cons, List.map_nil, List.cons_append, List.nil_append, List.append_nil, Nat.not_lt_zero, if_false, Nat.reduceAdd, Nat.zero_add, Nat.add_zero, ren_bl, numA] at hr hh hn
    subst hr hh hn
    refine st_p (mv rfl) rfl ?_
    refine st_p (op_extract rfl rfl) rfl ?_
    refine st_p (op_extract rfl rfl) rfl ?_
    refine st_p (op_extract rfl rfl) rfl ?_
    refine st_p (mva rfl) rfl ?_
    refine st_p (mva rfl) rfl ?_
    refine st_p (mva rfl) rfl ?_
    refine al_nil ?_
    refine nm ?_
    refine aw_seq ?_
    refine aw_seq ?_
    refine aw_region ?_
    refine st_p (mv rfl) rfl ?_
    refine st_p (op_notF rfl) rfl ?_
    refine st_p (mv rfl) rfl ?_
    refine st_s rfl rfl rfl rfl rfl ?_
    refine st_s rfl rfl rfl rfl rfl ?_
    refine st_p (pkT rfl rfl) rfl ?_
    refine st_p (mv rfl) rfl ?_
    refine st_s rfl rfl rfl rfl rfl ?_
    refine st_s rfl rfl rfl rfl rfl ?_
    refine st_s rfl rfl rfl rfl rfl ?_
    refine st_s rfl rfl rfl rfl rfl ?_
    refine st_s rfl rfl rfl rfl rfl ?_
    refine st_s rfl rfl rfl rfl rfl ?_
    refine st_p (pkT rfl rfl) rfl ?_
    refine al_nil ?_
    refine nm ?_
    -- IF t25
    refine aw_yes (rfl) ?_
    refine aw_seq ?_
    refine aw_region ?_
    refine st_p (mva rfl) rfl ?_
    refine st_p (mva rfl) rfl ?_
    refine st_p (mva rfl) rfl ?_
    refine al_nil ?_
    refine nm ?_
    refine aw_ret ?_
    refine rs ?_
    exact ret_v (res3 Try.results148) (.inr ⟨rfl, rfl⟩) ⟨by unfold takeText; rw [ht]; rfl, rfl, rfl⟩
  | some vn =>
    obtain ⟨v, n⟩ := vn
    obtain ⟨h1, h2, h3, h4⟩ := takeNum_spec ht
    by_cases hv : v ≤ 255
    · by_cases hn : v + n ≤ l.length
      · have e : takeText l = some ((l.drop n).take v, n + v) := by unfold takeText; rw [ht]; exact if_pos ⟨hv, hn⟩
        rintro _ _ _ ⟨rfl, rfl, rfl⟩ r2 h2 n2 hr hh hn
        simp only [AV.ren, rens, Blk.ren, swp, List.map_cons, List.map_nil, List.cons_append, List.nil_append, List.append_nil, Nat.not_lt_zero, if_false, Nat.reduceAdd, Nat.zero_add, Nat.add_zero, ren_bl, numA] at hr hh hn
        subst hr hh hn
        refine st_p (mv rfl) rfl ?_
        refine st_p (op_extract rfl rfl) rfl ?_
        refine st_p (op_extract rfl rfl) rfl ?_
        refine st_p (op_extract rfl rfl) rfl ?_
        refine st_p (mva rfl) rfl ?_
        refine st_p (mva rfl) rfl ?_
        refine st_p (mva rfl) rfl ?_
        refine al_nil ?_
        refine nm ?_
        refine aw_seq ?_
        refine aw_seq ?_
        refine aw_region ?_
        refine st_p (mv rfl) rfl ?_
        refine st_p (op_notT rfl) rfl ?_
        refine st_p (mv rfl) rfl ?_
        refine st_pg rfl rfl rfl (mv rfl) rfl ?_
        refine st_pg rfl rfl rfl (OpP.conv (op_gt rfl rfl) (no (by first | assumption | omega))) rfl ?_
        refine st_p (pkF rfl rfl) rfl ?_
        refine st_p (mv rfl) rfl ?_
        refine st_pg rfl rfl rfl (mv rfl) rfl ?_
        refine st_pg rfl rfl rfl (mv rfl) rfl ?_
        refine st_pg rfl rfl rfl (op_len Try.underlying22 rfl) rfl ?_
        refine st_pg rfl rfl rfl (mv rfl) rfl ?_
        refine st_pg rfl rfl rfl (op_subi rfl rfl (by omega)) rfl ?_
        refine st_pg rfl rfl rfl (OpP.conv (op_gt rfl rfl) (no (by first | assumption | omega))) rfl ?_
        refine st_p (pkF rfl rfl) rfl ?_
        refine al_nil ?_
        refine nm ?_
        -- IF t25
        refine aw_no (rfl) ?_
        refine aw_skip ?_
        refine nm ?_
        refine aw_seq ?_
        refine aw_region ?_
        refine st_p (mv rfl) rfl ?_
        refine st_p (mv rfl) rfl ?_
        refine st_p (mv rfl) rfl ?_
        refine st_p (mv rfl) rfl ?_
        refine st_p (op_addi rfl rfl (by omega)) rfl ?_
        refine st_p (op_sliceL Try.underlying22 z5 rfl (by exact ⟨_, rfl⟩) (by exact ⟨_, rfl⟩) (by first | omega | (simp only [bl_len, List.length_map, List.length_append, List.length_take, List.length_drop]; omega)) (by first | omega | (simp only [bl_len, List.length_map, List.length_append, List.length_take, List.length_drop]; omega)) (by first | omega | (simp only [bl_len, List.length_map, List.length_append, List.length_take, List.length_drop]; omega))) rfl ?_
        refine st_p (op_toStr Try.underlying22 Try.underlying5 Try.underlying9 rfl (.sl (.inr trivial)) (by simp only [bl_take, bl_drop, bl_app, List.take_length, List.drop_zero, List.take_nil, List.drop_nil]; rfl)) rfl ?_
        refine st_p (mv rfl) rfl ?_
        refine st_p (mv rfl) rfl ?_
        refine st_p (op_addi rfl rfl (by omega)) rfl ?_
        refine st_p (mva rfl) rfl ?_
        refine st_p (mva rfl) rfl ?_
        refine st_p (mva rfl) rfl ?_
        refine al_nil ?_
        refine nm ?_
        refine aw_ret ?_
        refine ret_a ⟨[(2, sb ((l.drop n).take v)), (3, .int .i64 (n + v : Nat)), (4, .bool true)], [], 0⟩ (le_to [] rfl rfl rfl rfl rfl ⟨?_, rfl, rfl, trivial⟩ trivial) (res3 Try.results148) (.inr ⟨rfl, rfl⟩) ⟨by rw [e]; rfl, rfl, rfl⟩
        show sb ((l.drop (n : Int).toNat).take (((n : Int) + (v : Int)).toNat - (n : Int).toNat)) = sb ((l.drop n).take v)
        rw [show ((n : Int) + (v : Int)).toNat - (n : Int).toNat = v from by omega]; rfl
      · have e : takeText l = none := by unfold takeText; rw [ht]; exact if_neg (fun h => hn h.2)
        rintro _ _ _ ⟨rfl, rfl, rfl⟩ r2 h2 n2 hr hh hn
        simp only [AV.ren, rens, Blk.ren, swp, List.map_cons, List.map_nil, List.cons_append, List.nil_append, List.append_nil, Nat.not_lt_zero, if_false, Nat.reduceAdd, Nat.zero_add, Nat.add_zero, ren_bl, numA] at hr hh hn
        subst hr hh hn
        refine st_p (mv rfl) rfl ?_
        refine st_p (op_extract rfl rfl) rfl ?_
        refine st_p (op_extract rfl rfl) rfl ?_
        refine st_p (op_extract rfl rfl) rfl ?_
        refine st_p (mva rfl) rfl ?_
        refine st_p (mva rfl) rfl ?_
        refine st_p (mva rfl) rfl ?_
        refine al_nil ?_
        refine nm ?_
        refine aw_seq ?_
        refine aw_seq ?_
        refine aw_region ?_
        refine st_p (mv rfl) rfl ?_
        refine st_p (op_notT rfl) rfl ?_
        refine st_p (mv rfl) rfl ?_
        refine st_pg rfl rfl rfl (mv rfl) rfl ?_
        refine st_pg rfl rfl rfl (OpP.conv (op_gt rfl rfl) (no (by first | assumption | omega))) rfl ?_
        refine st_p (pkF rfl rfl) rfl ?_
        refine st_p (mv rfl) rfl ?_
        refine st_pg rfl rfl rfl (mv rfl) rfl ?_
        refine st_pg rfl rfl rfl (mv rfl) rfl ?_
        refine st_pg rfl rfl rfl (op_len Try.underlying22 rfl) rfl ?_
        refine st_pg rfl rfl rfl (mv rfl) rfl ?_
        refine st_pg rfl rfl rfl (op_subi rfl rfl (by omega)) rfl ?_
        refine st_pg rfl rfl rfl (OpP.conv (op_gt rfl rfl) (yes (by first | assumption | omega))) rfl ?_
        refine st_p (pkF rfl rfl) rfl ?_
        refine al_nil ?_
        refine nm ?_
        -- IF t25
        refine aw_yes (rfl) ?_
        refine aw_seq ?_
        refine aw_region ?_
        refine st_p (mva rfl) rfl ?_
        refine st_p (mva rfl) rfl ?_
        refine st_p (mva rfl) rfl ?_
        refine al_nil ?_
        refine nm ?_
        refine aw_ret ?_
        refine rs ?_
        exact ret_v (res3 Try.results148) (.inr ⟨rfl, rfl⟩) ⟨by rw [e]; rfl, rfl, rfl⟩
    · have e : takeText l = none := by unfold takeText; rw [ht]; exact if_neg (fun h => hv h.1)
      rintro _ _ _ ⟨rfl, rfl, rfl⟩ r2 h2 n2 hr hh hn
      simp only [AV.ren, rens, Blk.ren, swp, List.map_cons, List.map_nil, List.cons_append, List.nil_append, List.append_nil, Nat.not_lt_zero, if_false, Nat.reduceAdd, Nat.zero_add, Nat.add_zero, ren_bl, numA] at hr hh hn
      subst hr hh hn
      refine st_p (mv rfl) rfl ?_
      refine st_p (op_extract rfl rfl) rfl ?_
      refine st_p (op_extract rfl rfl) rfl ?_
      refine st_p (op_extract rfl rfl) rfl ?_
      refine st_p (mva rfl) rfl ?_
      refine st_p (mva rfl) rfl ?_
      refine st_p (mva rfl) rfl ?_
      refine al_nil ?_
      refine nm ?_
      refine aw_seq ?_
      refine aw_seq ?_
      refine aw_region ?_
      refine st_p (mv rfl) rfl ?_
      refine st_p (op_notT rfl) rfl ?_
      refine st_p (mv rfl) rfl ?_
      refine st_pg rfl rfl rfl (mv rfl) rfl ?_
      refine st_pg rfl rfl rfl (OpP.conv (op_gt rfl rfl) (yes (by first | assumption | omega))) rfl ?_
      refine st_p (pkF rfl rfl) rfl ?_
      refine st_p (mv rfl) rfl ?_
      refine st_s rfl rfl rfl rfl rfl ?_
      refine st_s rfl rfl rfl rfl rfl ?_
      refine st_s rfl rfl rfl rfl rfl ?_
      refine st_s rfl rfl rfl rfl rfl ?_
      refine st_s rfl rfl rfl rfl rfl ?_
      refine st_s rfl rfl rfl rfl rfl ?_
      refine st_p (pkT rfl rfl) rfl ?_
      refine al_nil ?_
      refine nm ?_
      -- IF t25
      refine aw_yes (rfl) ?_
      refine aw_seq ?_
      refine aw_region ?_
      refine st_p (mva rfl) rfl ?_
      refine st_p (mva rfl) rfl ?_
      refine st_p (mva rfl) rfl ?_
      refine al_nil ?_
      refine nm ?_
      refine aw_ret ?_
      refine rs ?_
      exact ret_v (res3 Try.results148) (.inr ⟨rfl, rfl⟩) ⟨by rw [e]; rfl, rfl, rfl⟩

end Go.Proofs.Ytloddmbbfkejcaa.Abs
end
section
/-
  Transactions: what they stand for; which reads and writes may be; their keys.
-/
namespace Go.Proofs.Ytloddmbbfkejcaa.Abs

structure RD where
  key : List UInt8
  ver : Int
  val : List UInt8
  there : Bool
structure WR where
  key : List UInt8
  val : List UInt8
  gone : Bool
structure TX where
  ses : Int
  seq : Int
  reads : List RD
  writes : List WR

def rdA (r : RD) : AV := .agg [sb r.key, .int .i64 r.ver, sb r.val, .bool r.there]
def wrA (w : WR) : AV := .agg [sb w.key, sb w.val, .bool w.gone]
def txA (t : TX) : AV := .agg [.int .i64 t.ses, .int .i64 t.seq, .sl 4 (t.reads.map rdA), .sl 3 (t.writes.map wrA)]

/-- What is read may be. -/
def readB (r : RD) : Bool := !(!r.there && decide (r.val ≠ []) || r.there && decide (r.ver = 0)) && (decide (0 ≤ r.ver) && decide (r.val.length ≤ 16))
def writeB (w : WR) : Bool := decide (w.val.length ≤ 16) && (!w.gone || decide (w.val = []))

theorem txn_read (r : RD) : AC Try.prog 80 [rdA r] [] 0 false (fun v h nx => v = .bool (readB r) ∧ h = [] ∧ nx = 0) := by
  obtain ⟨k, ver, val, there⟩ := r
  dsimp only [rdA]
  cases there with
  | false =>
    by_cases h1 : val = []
    · subst h1
      by_cases h2 : 0 ≤ ver
      · skip
        refine ac_fn Try.func80 rfl rfl rfl rfl (fun w0 S0 r0 => ?_)
        refine aw_seq ?_
        refine aw_region ?_
        refine st_o (bx rfl rfl) rfl ?_
        refine st_p (mva rfl) rfl ?_
        refine al_nil ?_
        refine nm ?_
        refine aw_seq ?_
        refine aw_seq ?_
        refine aw_region ?_
        refine st_p (op_fieldAddr Try.underlying46 rfl z4 (by decide) rfl) rfl ?_
        refine st_p (op_load1 Try.underlying4 rfl rfl rfl rfl rfl) rfl ?_
        refine st_p (op_notF rfl) rfl ?_
        refine st_p (mv rfl) rfl ?_
        refine st_pg rfl rfl rfl (op_fieldAddr Try.underlying46 rfl z9 (by decide) rfl) rfl ?_
        refine st_pg rfl rfl rfl (op_load1 Try.underlying9 rfl rfl rfl rfl rfl) rfl ?_
        refine st_pg rfl rfl rfl (op_nes rfl rfl) rfl ?_
        refine st_p (pkT rfl rfl) rfl ?_
        refine st_p (mv rfl) rfl ?_
        refine st_pg rfl rfl rfl (op_fieldAddr Try.underlying46 rfl z4 (by decide) rfl) rfl ?_
        refine st_pg rfl rfl rfl (op_load1 Try.underlying4 rfl rfl rfl rfl rfl) rfl ?_
        refine st_pg rfl rfl rfl (mv rfl) rfl ?_
        refine st_s rfl rfl rfl rfl rfl ?_
        refine st_s rfl rfl rfl rfl rfl ?_
        refine st_s rfl rfl rfl rfl rfl ?_
        refine st_pg rfl rfl rfl (pkF rfl rfl) rfl ?_
        refine st_p (pkF rfl rfl) rfl ?_
        refine al_nil ?_
        refine nm ?_
        -- IF t19
        refine aw_no (rfl) ?_
        refine aw_skip ?_
        refine nm ?_
        refine aw_seq ?_
        refine aw_region ?_
        refine st_p (op_fieldAddr Try.underlying46 rfl z3 (by decide) rfl) rfl ?_
        refine st_p (op_load1 Try.underlying3 rfl rfl rfl rfl rfl) rfl ?_
        refine st_p (OpP.conv (op_ge rfl rfl) (yes (by first | assumption | omega))) rfl ?_
        refine st_p (mv rfl) rfl ?_
        refine st_pg rfl rfl rfl (op_fieldAddr Try.underlying46 rfl z9 (by decide) rfl) rfl ?_
        refine st_pg rfl rfl rfl (op_load1 Try.underlying9 rfl rfl rfl rfl rfl) rfl ?_
        refine st_pg rfl rfl rfl (op_lens Try.underlying9 rfl) rfl ?_
        refine st_pg rfl rfl rfl (op_le rfl rfl) rfl ?_
        refine st_p (pkT rfl rfl) rfl ?_
        refine st_p (mva rfl) rfl ?_
        refine al_nil ?_
        refine nm ?_
        refine aw_ret ?_
        exact ret_a ⟨[(2, .bool true)], [], 0⟩ (le_to [] rfl rfl rfl rfl rfl ⟨rfl, trivial⟩ trivial) (res1 Try.results80) (.inr ⟨rfl, rfl⟩) ⟨by simp [readB, h2, tget], rfl, rfl⟩
      · skip
        refine ac_fn Try.func80 rfl rfl rfl rfl (fun w0 S0 r0 => ?_)
        refine aw_seq ?_
        refine aw_region ?_
        refine st_o (bx rfl rfl) rfl ?_
        refine st_p (mva rfl) rfl ?_
        refine al_nil ?_
        refine nm ?_
        refine aw_seq ?_
        refine aw_seq ?_
        refine aw_region ?_
        refine st_p (op_fieldAddr Try.underlying46 rfl z4 (by decide) rfl) rfl ?_
        refine st_p (op_load1 Try.underlying4 rfl rfl rfl rfl rfl) rfl ?_
        refine st_p (op_notF rfl) rfl ?_
        refine st_p (mv rfl) rfl ?_
        refine st_pg rfl rfl rfl (op_fieldAddr Try.underlying46 rfl z9 (by decide) rfl) rfl ?_
        refine st_pg rfl rfl rfl (op_load1 Try.underlying9 rfl rfl rfl rfl rfl) rfl ?_
        refine st_pg rfl rfl rfl (op_nes rfl rfl) rfl ?_
        refine st_p (pkT rfl rfl) rfl ?_
        refine st_p (mv rfl) rfl ?_
        refine st_pg rfl rfl rfl (op_fieldAddr Try.underlying46 rfl z4 (by decide) rfl) rfl ?_
        refine st_pg rfl rfl rfl (op_load1 Try.underlying4 rfl rfl rfl rfl rfl) rfl ?_
        refine st_pg rfl rfl rfl (mv rfl) rfl ?_
        refine st_s rfl rfl rfl rfl rfl ?_
        refine st_s rfl rfl rfl rfl rfl ?_
        refine st_s rfl rfl rfl rfl rfl ?_
        refine st_pg rfl rfl rfl (pkF rfl rfl) rfl ?_
        refine st_p (pkF rfl rfl) rfl ?_
        refine al_nil ?_
        refine nm ?_
        -- IF t19
        refine aw_no (rfl) ?_
        refine aw_skip ?_
        refine nm ?_
        refine aw_seq ?_
        refine aw_region ?_
        refine st_p (op_fieldAddr Try.underlying46 rfl z3 (by decide) rfl) rfl ?_
        refine st_p (op_load1 Try.underlying3 rfl rfl rfl rfl rfl) rfl ?_
        refine st_p (OpP.conv (op_ge rfl rfl) (no (by first | assumption | omega))) rfl ?_
        refine st_p (mv rfl) rfl ?_
        refine st_s rfl rfl rfl rfl rfl ?_
        refine st_s rfl rfl rfl rfl rfl ?_
        refine st_s rfl rfl rfl rfl rfl ?_
        refine st_s rfl rfl rfl rfl rfl ?_
        refine st_p (pkF rfl rfl) rfl ?_
        refine st_p (mva rfl) rfl ?_
        refine al_nil ?_
        refine nm ?_
        refine aw_ret ?_
        exact ret_a ⟨[(2, .bool false)], [], 0⟩ (le_to [] rfl rfl rfl rfl rfl ⟨rfl, trivial⟩ trivial) (res1 Try.results80) (.inr ⟨rfl, rfl⟩) ⟨by simp [readB, h2, tget], rfl, rfl⟩
    · skip
      refine ac_fn Try.func80 rfl rfl rfl rfl (fun w0 S0 r0 => ?_)
      refine aw_seq ?_
      refine aw_region ?_
      refine st_o (bx rfl rfl) rfl ?_
      refine st_p (mva rfl) rfl ?_
      refine al_nil ?_
      refine nm ?_
      refine aw_seq ?_
      refine aw_seq ?_
      refine aw_region ?_
      refine st_p (op_fieldAddr Try.underlying46 rfl z4 (by decide) rfl) rfl ?_
      refine st_p (op_load1 Try.underlying4 rfl rfl rfl rfl rfl) rfl ?_
      refine st_p (op_notF rfl) rfl ?_
      refine st_p (mv rfl) rfl ?_
      refine st_pg rfl rfl rfl (op_fieldAddr Try.underlying46 rfl z9 (by decide) rfl) rfl ?_
      refine st_pg rfl rfl rfl (op_load1 Try.underlying9 rfl rfl rfl rfl rfl) rfl ?_
      refine st_pg rfl rfl rfl (OpP.conv (op_nes rfl rfl) (yes (by first | assumption | omega))) rfl ?_
      refine st_p (pkT rfl rfl) rfl ?_
      refine st_p (mv rfl) rfl ?_
      refine st_s rfl rfl rfl rfl rfl ?_
      refine st_s rfl rfl rfl rfl rfl ?_
      refine st_s rfl rfl rfl rfl rfl ?_
      refine st_s rfl rfl rfl rfl rfl ?_
      refine st_s rfl rfl rfl rfl rfl ?_
      refine st_s rfl rfl rfl rfl rfl ?_
      refine st_s rfl rfl rfl rfl rfl ?_
      refine st_p (pkT rfl rfl) rfl ?_
      refine al_nil ?_
      refine nm ?_
      -- IF t19
      refine aw_yes (rfl) ?_
      refine aw_seq ?_
      refine aw_region ?_
      refine st_p (mva rfl) rfl ?_
      refine al_nil ?_
      refine nm ?_
      refine aw_ret ?_
      refine rs ?_
      exact ret_a ⟨[(2, .bool false)], [], 0⟩ (le_to [] rfl rfl rfl rfl rfl ⟨rfl, trivial⟩ trivial) (res1 Try.results80) (.inr ⟨rfl, rfl⟩) ⟨by simp [readB, h1, tget], rfl, rfl⟩
  | true =>
    by_cases h1 : ver = 0
    · skip
      refine ac_fn Try.func80 rfl rfl rfl rfl (fun w0 S0 r0 => ?_)
      refine aw_seq ?_
      refine aw_region ?_
      refine st_o (bx rfl rfl) rfl ?_
      refine st_p (mva rfl) rfl ?_
      refine al_nil ?_
      refine nm ?_
      refine aw_seq ?_
      refine aw_seq ?_
      refine aw_region ?_
      refine st_p (op_fieldAddr Try.underlying46 rfl z4 (by decide) rfl) rfl ?_
      refine st_p (op_load1 Try.underlying4 rfl rfl rfl rfl rfl) rfl ?_
      refine st_p (op_notT rfl) rfl ?_
      refine st_p (mv rfl) rfl ?_
      refine st_s rfl rfl rfl rfl rfl ?_
      refine st_s rfl rfl rfl rfl rfl ?_
      refine st_s rfl rfl rfl rfl rfl ?_
      refine st_p (pkF rfl rfl) rfl ?_
      refine st_p (mv rfl) rfl ?_
      refine st_pg rfl rfl rfl (op_fieldAddr Try.underlying46 rfl z4 (by decide) rfl) rfl ?_
      refine st_pg rfl rfl rfl (op_load1 Try.underlying4 rfl rfl rfl rfl rfl) rfl ?_
      refine st_pg rfl rfl rfl (mv rfl) rfl ?_
      refine st_pg rfl rfl rfl (op_fieldAddr Try.underlying46 rfl z3 (by decide) rfl) rfl ?_
      refine st_pg rfl rfl rfl (op_load1 Try.underlying3 rfl rfl rfl rfl rfl) rfl ?_
      refine st_pg rfl rfl rfl (OpP.conv (op_eq rfl rfl) (yes (by first | assumption | omega))) rfl ?_
      refine st_pg rfl rfl rfl (pkT rfl rfl) rfl ?_
      refine st_p (pkF rfl rfl) rfl ?_
      refine al_nil ?_
      refine nm ?_
      -- IF t19
      refine aw_yes (rfl) ?_
      refine aw_seq ?_
      refine aw_region ?_
      refine st_p (mva rfl) rfl ?_
      refine al_nil ?_
      refine nm ?_
      refine aw_ret ?_
      refine rs ?_
      exact ret_a ⟨[(2, .bool false)], [], 0⟩ (le_to [] rfl rfl rfl rfl rfl ⟨rfl, trivial⟩ trivial) (res1 Try.results80) (.inr ⟨rfl, rfl⟩) ⟨by simp [readB, h1, tget], rfl, rfl⟩
    · by_cases h2 : 0 ≤ ver
      · by_cases h3 : val.length ≤ 16
        · skip
          refine ac_fn Try.func80 rfl rfl rfl rfl (fun w0 S0 r0 => ?_)
          refine aw_seq ?_
          refine aw_region ?_
          refine st_o (bx rfl rfl) rfl ?_
          refine st_p (mva rfl) rfl ?_
          refine al_nil ?_
          refine nm ?_
          refine aw_seq ?_
          refine aw_seq ?_
          refine aw_region ?_
          refine st_p (op_fieldAddr Try.underlying46 rfl z4 (by decide) rfl) rfl ?_
          refine st_p (op_load1 Try.underlying4 rfl rfl rfl rfl rfl) rfl ?_
          refine st_p (op_notT rfl) rfl ?_
          refine st_p (mv rfl) rfl ?_
          refine st_s rfl rfl rfl rfl rfl ?_
          refine st_s rfl rfl rfl rfl rfl ?_
          refine st_s rfl rfl rfl rfl rfl ?_
          refine st_p (pkF rfl rfl) rfl ?_
          refine st_p (mv rfl) rfl ?_
          refine st_pg rfl rfl rfl (op_fieldAddr Try.underlying46 rfl z4 (by decide) rfl) rfl ?_
          refine st_pg rfl rfl rfl (op_load1 Try.underlying4 rfl rfl rfl rfl rfl) rfl ?_
          refine st_pg rfl rfl rfl (mv rfl) rfl ?_
          refine st_pg rfl rfl rfl (op_fieldAddr Try.underlying46 rfl z3 (by decide) rfl) rfl ?_
          refine st_pg rfl rfl rfl (op_load1 Try.underlying3 rfl rfl rfl rfl rfl) rfl ?_
          refine st_pg rfl rfl rfl (OpP.conv (op_eq rfl rfl) (no (by first | assumption | omega))) rfl ?_
          refine st_pg rfl rfl rfl (pkT rfl rfl) rfl ?_
          refine st_p (pkF rfl rfl) rfl ?_
          refine al_nil ?_
          refine nm ?_
          -- IF t19
          refine aw_no (rfl) ?_
          refine aw_skip ?_
          refine nm ?_
          refine aw_seq ?_
          refine aw_region ?_
          refine st_p (op_fieldAddr Try.underlying46 rfl z3 (by decide) rfl) rfl ?_
          refine st_p (op_load1 Try.underlying3 rfl rfl rfl rfl rfl) rfl ?_
          refine st_p (OpP.conv (op_ge rfl rfl) (yes (by first | assumption | omega))) rfl ?_
          refine st_p (mv rfl) rfl ?_
          refine st_pg rfl rfl rfl (op_fieldAddr Try.underlying46 rfl z9 (by decide) rfl) rfl ?_
          refine st_pg rfl rfl rfl (op_load1 Try.underlying9 rfl rfl rfl rfl rfl) rfl ?_
          refine st_pg rfl rfl rfl (op_lens Try.underlying9 rfl) rfl ?_
          refine st_pg rfl rfl rfl (OpP.conv (op_le rfl rfl) (yes (by first | assumption | omega))) rfl ?_
          refine st_p (pkT rfl rfl) rfl ?_
          refine st_p (mva rfl) rfl ?_
          refine al_nil ?_
          refine nm ?_
          refine aw_ret ?_
          exact ret_a ⟨[(2, .bool true)], [], 0⟩ (le_to [] rfl rfl rfl rfl rfl ⟨rfl, trivial⟩ trivial) (res1 Try.results80) (.inr ⟨rfl, rfl⟩) ⟨by simp [readB, h1, h2, h3, tget], rfl, rfl⟩
        · skip
          refine ac_fn Try.func80 rfl rfl rfl rfl (fun w0 S0 r0 => ?_)
          refine aw_seq ?_
          refine aw_region ?_
          refine st_o (bx rfl rfl) rfl ?_
          refine st_p (mva rfl) rfl ?_
          refine al_nil ?_
          refine nm ?_
          refine aw_seq ?_
          refine aw_seq ?_
          refine aw_region ?_
          refine st_p (op_fieldAddr Try.underlying46 rfl z4 (by decide) rfl) rfl ?_
          refine st_p (op_load1 Try.underlying4 rfl rfl rfl rfl rfl) rfl ?_
          refine st_p (op_notT rfl) rfl ?_
          refine st_p (mv rfl) rfl ?_
          refine st_s rfl rfl rfl rfl rfl ?_
          refine st_s rfl rfl rfl rfl rfl ?_
          refine st_s rfl rfl rfl rfl rfl ?_
          refine st_p (pkF rfl rfl) rfl ?_
          refine st_p (mv rfl) rfl ?_
          refine st_pg rfl rfl rfl (op_fieldAddr Try.underlying46 rfl z4 (by decide) rfl) rfl ?_
          refine st_pg rfl rfl rfl (op_load1 Try.underlying4 rfl rfl rfl rfl rfl) rfl ?_
          refine st_pg rfl rfl rfl (mv rfl) rfl ?_
          refine st_pg rfl rfl rfl (op_fieldAddr Try.underlying46 rfl z3 (by decide) rfl) rfl ?_
          refine st_pg rfl rfl rfl (op_load1 Try.underlying3 rfl rfl rfl rfl rfl) rfl ?_
          refine st_pg rfl rfl rfl (OpP.conv (op_eq rfl rfl) (no (by first | assumption | omega))) rfl ?_
          refine st_pg rfl rfl rfl (pkT rfl rfl) rfl ?_
          refine st_p (pkF rfl rfl) rfl ?_
          refine al_nil ?_
          refine nm ?_
          -- IF t19
          refine aw_no (rfl) ?_
          refine aw_skip ?_
          refine nm ?_
          refine aw_seq ?_
          refine aw_region ?_
          refine st_p (op_fieldAddr Try.underlying46 rfl z3 (by decide) rfl) rfl ?_
          refine st_p (op_load1 Try.underlying3 rfl rfl rfl rfl rfl) rfl ?_
          refine st_p (OpP.conv (op_ge rfl rfl) (yes (by first | assumption | omega))) rfl ?_
          refine st_p (mv rfl) rfl ?_
          refine st_pg rfl rfl rfl (op_fieldAddr Try.underlying46 rfl z9 (by decide) rfl) rfl ?_
          refine st_pg rfl rfl rfl (op_load1 Try.underlying9 rfl rfl rfl rfl rfl) rfl ?_
          refine st_pg rfl rfl rfl (op_lens Try.underlying9 rfl) rfl ?_
          refine st_pg rfl rfl rfl (OpP.conv (op_le rfl rfl) (no (by first | assumption | omega))) rfl ?_
          refine st_p (pkT rfl rfl) rfl ?_
          refine st_p (mva rfl) rfl ?_
          refine al_nil ?_
          refine nm ?_
          refine aw_ret ?_
          exact ret_a ⟨[(2, .bool false)], [], 0⟩ (le_to [] rfl rfl rfl rfl rfl ⟨rfl, trivial⟩ trivial) (res1 Try.results80) (.inr ⟨rfl, rfl⟩) ⟨by simp [readB, h3, tget], rfl, rfl⟩
      · skip
        refine ac_fn Try.func80 rfl rfl rfl rfl (fun w0 S0 r0 => ?_)
        refine aw_seq ?_
        refine aw_region ?_
        refine st_o (bx rfl rfl) rfl ?_
        refine st_p (mva rfl) rfl ?_
        refine al_nil ?_
        refine nm ?_
        refine aw_seq ?_
        refine aw_seq ?_
        refine aw_region ?_
        refine st_p (op_fieldAddr Try.underlying46 rfl z4 (by decide) rfl) rfl ?_
        refine st_p (op_load1 Try.underlying4 rfl rfl rfl rfl rfl) rfl ?_
        refine st_p (op_notT rfl) rfl ?_
        refine st_p (mv rfl) rfl ?_
        refine st_s rfl rfl rfl rfl rfl ?_
        refine st_s rfl rfl rfl rfl rfl ?_
        refine st_s rfl rfl rfl rfl rfl ?_
        refine st_p (pkF rfl rfl) rfl ?_
        refine st_p (mv rfl) rfl ?_
        refine st_pg rfl rfl rfl (op_fieldAddr Try.underlying46 rfl z4 (by decide) rfl) rfl ?_
        refine st_pg rfl rfl rfl (op_load1 Try.underlying4 rfl rfl rfl rfl rfl) rfl ?_
        refine st_pg rfl rfl rfl (mv rfl) rfl ?_
        refine st_pg rfl rfl rfl (op_fieldAddr Try.underlying46 rfl z3 (by decide) rfl) rfl ?_
        refine st_pg rfl rfl rfl (op_load1 Try.underlying3 rfl rfl rfl rfl rfl) rfl ?_
        refine st_pg rfl rfl rfl (OpP.conv (op_eq rfl rfl) (no (by first | assumption | omega))) rfl ?_
        refine st_pg rfl rfl rfl (pkT rfl rfl) rfl ?_
        refine st_p (pkF rfl rfl) rfl ?_
        refine al_nil ?_
        refine nm ?_
        -- IF t19
        refine aw_no (rfl) ?_
        refine aw_skip ?_
        refine nm ?_
        refine aw_seq ?_
        refine aw_region ?_
        refine st_p (op_fieldAddr Try.underlying46 rfl z3 (by decide) rfl) rfl ?_
        refine st_p (op_load1 Try.underlying3 rfl rfl rfl rfl rfl) rfl ?_
        refine st_p (OpP.conv (op_ge rfl rfl) (no (by first | assumption | omega))) rfl ?_
        refine st_p (mv rfl) rfl ?_
        refine st_s rfl rfl rfl rfl rfl ?_
        refine st_s rfl rfl rfl rfl rfl ?_
        refine st_s rfl rfl rfl rfl rfl ?_
        refine st_s rfl rfl rfl rfl rfl ?_
        refine st_p (pkF rfl rfl) rfl ?_
        refine st_p (mva rfl) rfl ?_
        refine al_nil ?_
        refine nm ?_
        refine aw_ret ?_
        exact ret_a ⟨[(2, .bool false)], [], 0⟩ (le_to [] rfl rfl rfl rfl rfl ⟨rfl, trivial⟩ trivial) (res1 Try.results80) (.inr ⟨rfl, rfl⟩) ⟨by simp [readB, h2, tget], rfl, rfl⟩

theorem txn_write (w : WR) : AC Try.prog 83 [wrA w] [] 0 false (fun v h nx => v = .bool (writeB w) ∧ h = [] ∧ nx = 0) := by
  obtain ⟨k, val, gone⟩ := w
  dsimp only [wrA]
  by_cases h1 : val.length ≤ 16
  · cases gone with
    | false =>
      refine ac_fn Try.func83 rfl rfl rfl rfl (fun w0 S0 r0 => ?_)
      refine aw_seq ?_
      refine aw_region ?_
      refine st_o (bx rfl rfl) rfl ?_
      refine st_p (mva rfl) rfl ?_
      refine al_nil ?_
      refine nm ?_
      refine aw_seq ?_
      refine aw_region ?_
      refine st_p (op_fieldAddr Try.underlying48 rfl z9 (by decide) rfl) rfl ?_
      refine st_p (op_load1 Try.underlying9 rfl rfl rfl rfl rfl) rfl ?_
      refine st_p (op_lens Try.underlying9 rfl) rfl ?_
      refine st_p (OpP.conv (op_le rfl rfl) (yes (by first | assumption | omega))) rfl ?_
      refine st_p (mv rfl) rfl ?_
      refine st_pg rfl rfl rfl (op_fieldAddr Try.underlying48 rfl z4 (by decide) rfl) rfl ?_
      refine st_pg rfl rfl rfl (op_load1 Try.underlying4 rfl rfl rfl rfl rfl) rfl ?_
      refine st_pg rfl rfl rfl (op_notF rfl) rfl ?_
      refine st_pg rfl rfl rfl (mv rfl) rfl ?_
      refine st_s rfl rfl rfl rfl rfl ?_
      refine st_s rfl rfl rfl rfl rfl ?_
      refine st_s rfl rfl rfl rfl rfl ?_
      refine st_pg rfl rfl rfl (pkT rfl rfl) rfl ?_
      refine st_p (pkT rfl rfl) rfl ?_
      refine st_p (mva rfl) rfl ?_
      refine al_nil ?_
      refine nm ?_
      refine aw_ret ?_
      exact ret_a ⟨[(2, .bool true)], [], 0⟩ (le_to [] rfl rfl rfl rfl rfl ⟨rfl, trivial⟩ trivial) (res1 Try.results83) (.inr ⟨rfl, rfl⟩) ⟨by simp [writeB, h1, tget], rfl, rfl⟩
    | true =>
      by_cases h2 : val = []
      · skip
        refine ac_fn Try.func83 rfl rfl rfl rfl (fun w0 S0 r0 => ?_)
        refine aw_seq ?_
        refine aw_region ?_
        refine st_o (bx rfl rfl) rfl ?_
        refine st_p (mva rfl) rfl ?_
        refine al_nil ?_
        refine nm ?_
        refine aw_seq ?_
        refine aw_region ?_
        refine st_p (op_fieldAddr Try.underlying48 rfl z9 (by decide) rfl) rfl ?_
        refine st_p (op_load1 Try.underlying9 rfl rfl rfl rfl rfl) rfl ?_
        refine st_p (op_lens Try.underlying9 rfl) rfl ?_
        refine st_p (OpP.conv (op_le rfl rfl) (yes (by first | assumption | omega))) rfl ?_
        refine st_p (mv rfl) rfl ?_
        refine st_pg rfl rfl rfl (op_fieldAddr Try.underlying48 rfl z4 (by decide) rfl) rfl ?_
        refine st_pg rfl rfl rfl (op_load1 Try.underlying4 rfl rfl rfl rfl rfl) rfl ?_
        refine st_pg rfl rfl rfl (op_notT rfl) rfl ?_
        refine st_pg rfl rfl rfl (mv rfl) rfl ?_
        refine st_pg rfl rfl rfl (op_fieldAddr Try.underlying48 rfl z9 (by decide) rfl) rfl ?_
        refine st_pg rfl rfl rfl (op_load1 Try.underlying9 rfl rfl rfl rfl rfl) rfl ?_
        refine st_pg rfl rfl rfl (OpP.conv (op_eqs rfl rfl) (yes (by first | assumption | omega))) rfl ?_
        refine st_pg rfl rfl rfl (pkF rfl rfl) rfl ?_
        refine st_p (pkT rfl rfl) rfl ?_
        refine st_p (mva rfl) rfl ?_
        refine al_nil ?_
        refine nm ?_
        refine aw_ret ?_
        exact ret_a ⟨[(2, .bool true)], [], 0⟩ (le_to [] rfl rfl rfl rfl rfl ⟨rfl, trivial⟩ trivial) (res1 Try.results83) (.inr ⟨rfl, rfl⟩) ⟨by simp [writeB, h1, h2, tget], rfl, rfl⟩
      · skip
        refine ac_fn Try.func83 rfl rfl rfl rfl (fun w0 S0 r0 => ?_)
        refine aw_seq ?_
        refine aw_region ?_
        refine st_o (bx rfl rfl) rfl ?_
        refine st_p (mva rfl) rfl ?_
        refine al_nil ?_
        refine nm ?_
        refine aw_seq ?_
        refine aw_region ?_
        refine st_p (op_fieldAddr Try.underlying48 rfl z9 (by decide) rfl) rfl ?_
        refine st_p (op_load1 Try.underlying9 rfl rfl rfl rfl rfl) rfl ?_
        refine st_p (op_lens Try.underlying9 rfl) rfl ?_
        refine st_p (OpP.conv (op_le rfl rfl) (yes (by first | assumption | omega))) rfl ?_
        refine st_p (mv rfl) rfl ?_
        refine st_pg rfl rfl rfl (op_fieldAddr Try.underlying48 rfl z4 (by decide) rfl) rfl ?_
        refine st_pg rfl rfl rfl (op_load1 Try.underlying4 rfl rfl rfl rfl rfl) rfl ?_
        refine st_pg rfl rfl rfl (op_notT rfl) rfl ?_
        refine st_pg rfl rfl rfl (mv rfl) rfl ?_
        refine st_pg rfl rfl rfl (op_fieldAddr Try.underlying48 rfl z9 (by decide) rfl) rfl ?_
        refine st_pg rfl rfl rfl (op_load1 Try.underlying9 rfl rfl rfl rfl rfl) rfl ?_
        refine st_pg rfl rfl rfl (OpP.conv (op_eqs rfl rfl) (no (by first | assumption | omega))) rfl ?_
        refine st_pg rfl rfl rfl (pkF rfl rfl) rfl ?_
        refine st_p (pkT rfl rfl) rfl ?_
        refine st_p (mva rfl) rfl ?_
        refine al_nil ?_
        refine nm ?_
        refine aw_ret ?_
        exact ret_a ⟨[(2, .bool false)], [], 0⟩ (le_to [] rfl rfl rfl rfl rfl ⟨rfl, trivial⟩ trivial) (res1 Try.results83) (.inr ⟨rfl, rfl⟩) ⟨by simp [writeB, h1, h2, tget], rfl, rfl⟩
  · skip
    refine ac_fn Try.func83 rfl rfl rfl rfl (fun w0 S0 r0 => ?_)
    refine aw_seq ?_
    refine aw_region ?_
    refine st_o (bx rfl rfl) rfl ?_
    refine st_p (mva rfl) rfl ?_
    refine al_nil ?_
    refine nm ?_
    refine aw_seq ?_
    refine aw_region ?_
    refine st_p (op_fieldAddr Try.underlying48 rfl z9 (by decide) rfl) rfl ?_
    refine st_p (op_load1 Try.underlying9 rfl rfl rfl rfl rfl) rfl ?_
    refine st_p (op_lens Try.underlying9 rfl) rfl ?_
    refine st_p (OpP.conv (op_le rfl rfl) (no (by first | assumption | omega))) rfl ?_
    refine st_p (mv rfl) rfl ?_
    refine st_s rfl rfl rfl rfl rfl ?_
    refine st_s rfl rfl rfl rfl rfl ?_
    refine st_s rfl rfl rfl rfl rfl ?_
    refine st_s rfl rfl rfl rfl rfl ?_
    refine st_s rfl rfl rfl rfl rfl ?_
    refine st_s rfl rfl rfl rfl rfl ?_
    refine st_s rfl rfl rfl rfl rfl ?_
    refine st_s rfl rfl rfl rfl rfl ?_
    refine st_p (pkF rfl rfl) rfl ?_
    refine st_p (mva rfl) rfl ?_
    refine al_nil ?_
    refine nm ?_
    refine aw_ret ?_
    exact ret_a ⟨[(2, .bool false)], [], 0⟩ (le_to [] rfl rfl rfl rfl rfl ⟨rfl, trivial⟩ trivial) (res1 Try.results83) (.inr ⟨rfl, rfl⟩) ⟨by simp [writeB, h1, tget], rfl, rfl⟩

end Go.Proofs.Ytloddmbbfkejcaa.Abs
end
section
/-
  Transactions: their keys.
-/
namespace Go.Proofs.Ytloddmbbfkejcaa.Abs

theorem txn_keys (t : TX) (hr : t.reads.length ≤ 1000000) (hw : t.writes.length ≤ 1000000) : AC Try.prog 76 [txA t] [] 0 false (fun v h nx => v = .tup [.own 0 0 t.reads.length, .own 1 0 t.writes.length] ∧
    h = [(0, .cells 1 (t.reads.map fun r => sb r.key)), (1, .cells 1 (t.writes.map fun w => sb w.key))] ∧ nx = 2) := by
  obtain ⟨ses, seq, rs, ws⟩ := t
  dsimp only [txA] at hr hw ⊢
  have hrl : (rs.map rdA).length = rs.length := List.length_map _
  have hwl : (ws.map wrA).length = ws.length := List.length_map _
  refine ac_fn Try.func76 rfl rfl rfl rfl (fun w0 S0 r0 => ?_)
  refine aw_seq ?_
  refine aw_region ?_
  refine st_o (bx rfl rfl) rfl ?_
  refine st_p (mva rfl) rfl ?_
  refine st_p (mva rfl) rfl ?_
  refine al_nil ?_
  refine nm ?_
  refine aw_seq ?_
  refine aw_seq ?_
  refine aw_region ?_
  refine st_p (op_fieldAddr Try.underlying26 rfl z23 (by decide) rfl) rfl ?_
  refine st_p (op_load1 Try.underlying23 rfl rfl rfl rfl rfl) rfl ?_
  refine st_p (op_len Try.underlying23 rfl) rfl ?_
  refine st_p (mv rfl) rfl ?_
  refine al_nil ?_
  refine nm ?_
  refine aw_block ?_
  -- LOOP
  refine aw_virt 2 1 rfl ?_
  refine aw_virt 3 1 rfl ?_
  refine aw_loop (fun i : {i : Nat // i ≤ rs.length} => ⟨[(1, .ptr 0 0 0), (2, .own 1 0 i.1), (3, .own 2 0 0), (9, .sl 4 (rs.map rdA)), (10, .int .i64 rs.length), (11, .int .i64 i.1)], [(0, .cells 4 [.agg [.int .i64 ses, .int .i64 seq, .sl 4 (rs.map rdA), .sl 3 (ws.map wrA)]]), (1, .cells 1 ((rs.take i.1).map fun r => sb r.key)), (2, .cells 1 [])], 3⟩) (fun i => rs.length - i.1) ⟨0, Nat.zero_le _⟩ ?_ ?_
  · exact le_to [(0, 0), (1, 1), (2, 2)] rfl rfl rfl rfl rfl ⟨rfl, rfl, rfl, rfl, by rw [← hrl]; rfl, rfl, trivial⟩ ⟨rfl, rfl, rfl, trivial⟩
  · rintro ⟨i, hi⟩
    dsimp only
    by_cases hlt : i < rs.length
    · obtain ⟨x, hx⟩ : ∃ x, rs[i]? = some x := ⟨_, List.getElem?_eq_getElem hlt⟩
      have hxb : (rs.map rdA)[((i : Nat) : Int).toNat]? = some (.agg [sb x.key, .int .i64 x.ver, sb x.val, .bool x.there]) := by rw [Int.toNat_natCast, List.getElem?_map, hx]; rfl
      have htl : ((rs.take i).map fun r => sb r.key).length = i := by simp; omega
      refine aw_seq ?_
      refine aw_region ?_
      refine st_p (OpP.conv (op_lt rfl rfl) (yes (by first | assumption | omega))) rfl ?_
      refine al_nil ?_
      refine nm ?_
      refine aw_seq ?_
      -- IF t12
      refine aw_yes (rfl) ?_
      refine aw_skip ?_
      refine nm ?_
      refine aw_seq ?_
      refine aw_block ?_
      refine aw_seq ?_
      refine aw_region ?_
      refine st_p (op_indexAddrL Try.underlying23 z46 rfl rfl (by omega) (by first | assumption | rfl)) rfl ?_
      refine st_p (op_loadAL Try.underlying46 rfl z46 rfl rfl) rfl ?_
      refine st_o (op_alloc a46 rfl rfl) rfl ?_
      refine st_n (stA z46 rfl rfl rfl rfl rfl rfl rfl rfl rfl rfl) ?_
      refine al_nil ?_
      refine nm ?_
      refine aw_region ?_
      refine st_p (mv rfl) rfl ?_
      refine st_p (op_fieldAddr Try.underlying46 rfl z9 (by decide) rfl) rfl ?_
      refine st_p (op_load1 Try.underlying9 rfl rfl rfl rfl rfl) rfl ?_
      refine st_o (bsl Try.underlying74 i9 o9 (by decide) rfl rfl rfl (by decide)) rfl ?_
      refine st_o (op_app Try.underlying74 Try.underlying74 (.inl ⟨_, rfl⟩) i9 o9 rfl rfl rfl (by first | rfl | omega | (simp; done) | (simp; omega)) ((SrcA.whole rfl (by first | rfl | simp)).ok rfl (by intro z hz; simp only [List.mem_singleton, List.drop_zero, List.take_succ_cons, List.take_zero, List.mem_cons, List.not_mem_nil, or_false, List.mem_map] at hz; first | (subst hz; rfl) | (obtain ⟨_, _, rfl⟩ := hz; rfl) | (rcases hz with rfl | rfl <;> rfl))) (by simp; try omega) rfl) rfl ?_
      refine st_p (mva rfl) rfl ?_
      refine al_nil ?_
      refine nmb ?_
      refine nm ?_
      refine aw_region ?_
      refine st_p (op_addi rfl rfl (by omega)) rfl ?_
      refine st_p (mv rfl) rfl ?_
      refine al_nil ?_
      refine nm ?_
      refine ⟨⟨i + 1, hlt⟩, by dsimp only; omega, le_to [(0, 0), (1, 5), (2, 2)] rfl rfl rfl rfl rfl ⟨rfl, ?_, rfl, rfl, rfl, rfl, trivial⟩ ⟨rfl, ?_, rfl, trivial⟩⟩
      · simp [AV.ren, tget, swp]; omega
      · simp [Blk.ren, hget, swp, AV.ren, List.take_add_one, hx, sb]; rfl
    · have e : rs.take i = rs := List.take_of_length_le (by omega)
      refine aw_seq ?_
      refine aw_region ?_
      refine st_p (OpP.conv (op_lt rfl rfl) (no (by first | assumption | omega))) rfl ?_
      refine al_nil ?_
      refine nm ?_
      refine aw_seq ?_
      -- IF t12
      refine aw_no (rfl) ?_
      refine aw_exit ?_
      refine xs ?_
      refine xs ?_
      refine xb ?_
      refine nm ?_
      refine aw_seq ?_
      refine aw_seq ?_
      refine aw_region ?_
      refine st_p (op_fieldAddr Try.underlying26 rfl z24 (by decide) rfl) rfl ?_
      refine st_p (op_load1 Try.underlying24 rfl rfl rfl rfl rfl) rfl ?_
      refine st_p (op_len Try.underlying24 rfl) rfl ?_
      refine st_p (mv rfl) rfl ?_
      refine al_nil ?_
      refine nm ?_
      refine aw_block ?_
      -- LOOP
      refine aw_loop (fun j : {j : Nat // j ≤ ws.length} => ⟨[(1, .ptr 0 0 0), (2, .own 1 0 rs.length), (3, .own 2 0 j.1), (22, .sl 3 (ws.map wrA)), (23, .int .i64 ws.length), (24, .int .i64 j.1)], [(0, .cells 4 [.agg [.int .i64 ses, .int .i64 seq, .sl 4 (rs.map rdA), .sl 3 (ws.map wrA)]]), (1, .cells 1 (rs.map fun r => sb r.key)), (2, .cells 1 ((ws.take j.1).map fun w => sb w.key))], 3⟩) (fun j => ws.length - j.1) ⟨0, Nat.zero_le _⟩ ?_ ?_
      · refine le_to [(0, 0), (1, 1), (2, 2)] rfl rfl rfl rfl rfl ⟨rfl, ?_, rfl, rfl, by rw [← hwl]; rfl, rfl, trivial⟩ ⟨rfl, ?_, rfl, trivial⟩
        · rw [show rs.length = i from by omega]; rfl
        · rw [e]; simp [Blk.ren, hget, swp, AV.ren, sb]
      · rintro ⟨j, hj⟩
        dsimp only
        by_cases hjt : j < ws.length
        · obtain ⟨x, hx⟩ : ∃ x, ws[j]? = some x := ⟨_, List.getElem?_eq_getElem hjt⟩
          have hxb : (ws.map wrA)[((j : Nat) : Int).toNat]? = some (.agg [sb x.key, sb x.val, .bool x.gone]) := by rw [Int.toNat_natCast, List.getElem?_map, hx]; rfl
          have htl : ((ws.take j).map fun w => sb w.key).length = j := by simp; omega
          refine aw_seq ?_
          refine aw_region ?_
          refine st_p (OpP.conv (op_lt rfl rfl) (yes (by first | assumption | omega))) rfl ?_
          refine al_nil ?_
          refine nm ?_
          refine aw_seq ?_
          -- IF t25
          refine aw_yes (rfl) ?_
          refine aw_skip ?_
          refine nm ?_
          refine aw_seq ?_
          refine aw_block ?_
          refine aw_seq ?_
          refine aw_region ?_
          refine st_p (op_indexAddrL Try.underlying24 z48 rfl rfl (by omega) (by first | assumption | rfl)) rfl ?_
          refine st_p (op_loadAL Try.underlying48 rfl z48 rfl rfl) rfl ?_
          refine st_o (op_alloc a48 rfl rfl) rfl ?_
          refine st_n (stA z48 rfl rfl rfl rfl rfl rfl rfl rfl rfl rfl) ?_
          refine al_nil ?_
          refine nm ?_
          refine aw_region ?_
          refine st_p (mv rfl) rfl ?_
          refine st_p (op_fieldAddr Try.underlying48 rfl z9 (by decide) rfl) rfl ?_
          refine st_p (op_load1 Try.underlying9 rfl rfl rfl rfl rfl) rfl ?_
          refine st_o (bsl Try.underlying74 i9 o9 (by decide) rfl rfl rfl (by decide)) rfl ?_
          refine st_o (op_app Try.underlying74 Try.underlying74 (.inl ⟨_, rfl⟩) i9 o9 rfl rfl rfl (by first | rfl | omega | (simp; done) | (simp; omega)) ((SrcA.whole rfl (by first | rfl | simp)).ok rfl (by intro z hz; simp only [List.mem_singleton, List.drop_zero, List.take_succ_cons, List.take_zero, List.mem_cons, List.not_mem_nil, or_false, List.mem_map] at hz; first | (subst hz; rfl) | (obtain ⟨_, _, rfl⟩ := hz; rfl) | (rcases hz with rfl | rfl <;> rfl))) (by simp; try omega) rfl) rfl ?_
          refine st_p (mva rfl) rfl ?_
          refine al_nil ?_
          refine nmb ?_
          refine nm ?_
          refine aw_region ?_
          refine st_p (op_addi rfl rfl (by omega)) rfl ?_
          refine st_p (mv rfl) rfl ?_
          refine al_nil ?_
          refine nm ?_
          refine ⟨⟨j + 1, hjt⟩, by dsimp only; omega, le_to [(0, 0), (1, 1), (2, 5)] rfl rfl rfl rfl rfl ⟨rfl, rfl, ?_, rfl, rfl, rfl, trivial⟩ ⟨rfl, ?_, ?_, trivial⟩⟩
          · simp [AV.ren, tget, swp]; omega
          · simp [Blk.ren, hget, swp, AV.ren, sb]
          · simp [Blk.ren, hget, swp, AV.ren, List.take_add_one, hx, sb]; rfl
        · have e2 : ws.take j = ws := List.take_of_length_le (by omega)
          have e3 : j = ws.length := by omega
          refine aw_seq ?_
          refine aw_region ?_
          refine st_p (OpP.conv (op_lt rfl rfl) (no (by first | assumption | omega))) rfl ?_
          refine al_nil ?_
          refine nm ?_
          refine aw_seq ?_
          -- IF t25
          refine aw_no (rfl) ?_
          refine aw_exit ?_
          refine xs ?_
          refine xs ?_
          refine xb ?_
          refine nm ?_
          refine aw_seq ?_
          refine aw_region ?_
          refine st_p (mv rfl) rfl ?_
          refine st_p (mv rfl) rfl ?_
          refine st_p (mva rfl) rfl ?_
          refine st_p (mva rfl) rfl ?_
          refine al_nil ?_
          refine nm ?_
          refine aw_ret ?_
          refine ret_a ⟨[(2, .own 0 0 rs.length), (3, .own 1 0 ws.length)], [(0, .cells 1 (rs.map fun r => sb r.key)), (1, .cells 1 (ws.map fun w => sb w.key))], 2⟩ (le_to [(0, 1), (1, 2)] rfl rfl rfl rfl rfl ⟨rfl, ?_, trivial⟩ ⟨?_, ?_, trivial⟩) (res2 Try.results76) (.inr ⟨rfl, ?_⟩) ⟨rfl, rfl, rfl⟩
          · rw [← e3]; rfl
          · simp [Blk.ren, hget, swp, AV.ren, sb]
          · rw [e2]; simp [Blk.ren, hget, swp, AV.ren, sb]
          · simp [Blk.nosl, AV.nosl, sb]

end Go.Proofs.Ytloddmbbfkejcaa.Abs
end
section
/-
  Transactions: whether some read, some write may not be.
-/
namespace Go.Proofs.Ytloddmbbfkejcaa.Abs

def firstI {α : Type} (p : α → Bool) (l : List α) : Int := match l.findIdx? p with
  | some i => i
  | none => -1

theorem firstI_at {α : Type} {p : α → Bool} {l : List α} {i : Nat} {x : α} (hx : l[i]? = some x) (hp : p x = true) (h : ∀ (j : Nat) (y : α), j < i → l[j]? = some y → p y = false) : firstI p l = i := by
  obtain ⟨hil, hie⟩ := List.getElem?_eq_some_iff.1 hx
  unfold firstI
  rw [show l.findIdx? p = some i from List.findIdx?_eq_some_iff_getElem.2 ⟨hil, by rw [hie]; exact hp, fun j hj => by
    have hjl : j < l.length := by omega
    have := h j (l[j]'hjl) hj (List.getElem?_eq_getElem hjl)
    simp [this]⟩]
theorem firstI_none {α : Type} {p : α → Bool} {l : List α} (h : ∀ (j : Nat) (y : α), l[j]? = some y → p y = false) : firstI p l = -1 := by
  unfold firstI
  rw [List.findIdx?_eq_none_iff.2 (fun x hx => by
    obtain ⟨j, hj, rfl⟩ := List.mem_iff_getElem.1 hx
    exact h j _ (List.getElem?_eq_getElem hj))]
theorem firstI_all {α : Type} (p : α → Bool) (l : List α) : (0 ≤ firstI (fun x => !p x) l → l.all p = false) ∧ (l.all p = false → 0 ≤ firstI (fun x => !p x) l) := by
  unfold firstI
  cases h : l.findIdx? (fun x => !p x) with
  | none =>
    have h1 := List.findIdx?_eq_none_iff.1 h
    refine ⟨fun h => absurd h (by decide), fun h2 => ?_⟩
    rw [List.all_eq_false] at h2
    obtain ⟨x, hx, hp⟩ := h2
    have := h1 x hx
    cases hq : p x <;> simp_all
  | some i =>
    obtain ⟨hi, hp, _⟩ := List.findIdx?_eq_some_iff_getElem.1 h
    refine ⟨fun _ => ?_, fun _ => Int.natCast_nonneg _⟩
    rw [List.all_eq_false]
    exact ⟨l[i], List.getElem_mem _, by simpa using hp⟩

theorem may_reads (x : RD) : AC Try.prog 79 [rdA x] [] 0 false (fun v h nx => v = .bool (!readB x) ∧ h = [] ∧ nx = 0) := by
  have hx := txn_read x
  cases hp : readB x with
  | true =>
    rw [hp] at hx
    refine ac_fn Try.func79 rfl rfl rfl rfl (fun w0 S0 r0 => ?_)
    refine aw_seq ?_
    refine aw_region ?_
    refine st_o (bx rfl rfl) rfl ?_
    refine st_p (mva rfl) rfl ?_
    refine al_nil ?_
    refine nm ?_
    refine aw_seq ?_
    refine aw_region ?_
    refine st_p (op_loadA Try.underlying46 rfl z46 rfl rfl rfl rfl) rfl ?_
    -- STOP: call diwan/txn.read(t3) -> 4
    refine st_o ((op_callq (hx) Try.func80 ⟨rfl, rfl⟩ rfl rfl (fun nx => (.cons (.same (by rfl)) .nil)) (by rintro _ _ _ ⟨rfl, rfl, rfl⟩; exact .same rfl)).ok) rfl ?_
    refine st_p (op_notT rfl) rfl ?_
    refine st_p (mva rfl) rfl ?_
    refine al_nil ?_
    refine nm ?_
    refine aw_ret ?_
    exact ret_a ⟨[(2, .bool false)], [], 0⟩ (le_to [] rfl rfl rfl rfl rfl ⟨rfl, trivial⟩ trivial) (res1 Try.results79) (.inr ⟨rfl, rfl⟩) ⟨rfl, rfl, rfl⟩
  | false =>
    rw [hp] at hx
    refine ac_fn Try.func79 rfl rfl rfl rfl (fun w0 S0 r0 => ?_)
    refine aw_seq ?_
    refine aw_region ?_
    refine st_o (bx rfl rfl) rfl ?_
    refine st_p (mva rfl) rfl ?_
    refine al_nil ?_
    refine nm ?_
    refine aw_seq ?_
    refine aw_region ?_
    refine st_p (op_loadA Try.underlying46 rfl z46 rfl rfl rfl rfl) rfl ?_
    -- STOP: call diwan/txn.read(t3) -> 4
    refine st_o ((op_callq (hx) Try.func80 ⟨rfl, rfl⟩ rfl rfl (fun nx => (.cons (.same (by rfl)) .nil)) (by rintro _ _ _ ⟨rfl, rfl, rfl⟩; exact .same rfl)).ok) rfl ?_
    refine st_p (op_notF rfl) rfl ?_
    refine st_p (mva rfl) rfl ?_
    refine al_nil ?_
    refine nm ?_
    refine aw_ret ?_
    exact ret_a ⟨[(2, .bool true)], [], 0⟩ (le_to [] rfl rfl rfl rfl rfl ⟨rfl, trivial⟩ trivial) (res1 Try.results79) (.inr ⟨rfl, rfl⟩) ⟨rfl, rfl, rfl⟩

theorem index_reads (l : List RD) (hl : l.length ≤ 1000000) : AC Try.prog 138 [.sl 4 (l.map rdA), .fn (.func 79) [] []] [] 0 false (fun v h nx => v = .int .i64 (firstI (fun x => !readB x) l) ∧ h = [] ∧ nx = 0) := by
  have hlm : (l.map rdA).length = l.length := List.length_map _
  refine ac_fn Try.func138 rfl rfl rfl rfl (fun w0 S0 r0 => ?_)
  refine aw_seq ?_
  refine aw_region ?_
  refine st_p (mva rfl) rfl ?_
  refine al_nil ?_
  refine nm ?_
  refine aw_seq ?_
  refine aw_seq ?_
  refine aw_region ?_
  refine st_p (mv rfl) rfl ?_
  refine st_p (op_len Try.underlying23 rfl) rfl ?_
  refine st_p (mv rfl) rfl ?_
  refine al_nil ?_
  refine nm ?_
  refine aw_block ?_
  -- LOOP
  refine aw_loop (fun i : {i : Nat // i ≤ l.length ∧ ∀ (j : Nat) (x : RD), j < i → l[j]? = some x → readB x = true} => ⟨[(0, .sl 4 (l.map rdA)), (1, .fn (.func 79) [] []), (7, .int .i64 l.length), (8, .int .i64 i.1)], [], 0⟩) (fun i => l.length - i.1) ⟨0, Nat.zero_le _, fun j x hj => absurd hj (Nat.not_lt_zero _)⟩ ?_ ?_
  · exact le_to [] rfl rfl rfl rfl rfl ⟨rfl, rfl, by rw [← hlm]; rfl, rfl, trivial⟩ trivial
  · rintro ⟨i, hi, ha⟩
    dsimp only
    by_cases hlt : i < l.length
    · obtain ⟨x, hx⟩ : ∃ x, l[i]? = some x := ⟨_, List.getElem?_eq_getElem hlt⟩
      have hxb : (l.map rdA)[((i : Nat) : Int).toNat]? = some (.agg [sb x.key, .int .i64 x.ver, sb x.val, .bool x.there]) := by rw [Int.toNat_natCast, List.getElem?_map, hx]; rfl
      have hc := may_reads x
      cases hp : readB x with
      | false =>
        rw [hp] at hc
        refine aw_seq ?_
        refine aw_region ?_
        refine st_p (OpP.conv (op_lt rfl rfl) (yes (by first | assumption | omega))) rfl ?_
        refine al_nil ?_
        refine nm ?_
        refine aw_seq ?_
        -- IF t9
        refine aw_yes (rfl) ?_
        refine aw_skip ?_
        refine nm ?_
        refine aw_seq ?_
        refine aw_block ?_
        refine aw_seq ?_
        refine aw_region ?_
        refine st_p (mv rfl) rfl ?_
        refine st_p (mva rfl) rfl ?_
        refine al_nil ?_
        refine nm ?_
        refine aw_seq ?_
        refine aw_region ?_
        refine st_p (mv rfl) rfl ?_
        refine st_p (mv rfl) rfl ?_
        refine st_p (mv rfl) rfl ?_
        refine st_p (op_indexAddrL Try.underlying23 z46 rfl rfl (by omega) (by first | assumption | rfl)) rfl ?_
        refine st_p (op_loadAL Try.underlying46 rfl z46 rfl rfl) rfl ?_
        -- STOP: call t11(t15) -> 16
        refine st_o ((op_callq (hc) Try.func79 ⟨rfl, rfl⟩ rfl rfl (fun nx => (.cons (.same (by rfl)) .nil)) (by rintro _ _ _ ⟨rfl, rfl, rfl⟩; exact .same rfl)).ok) rfl ?_
        refine al_nil ?_
        refine nm ?_
        -- IF t16
        refine aw_yes (rfl) ?_
        refine aw_seq ?_
        refine aw_region ?_
        refine st_p (mv rfl) rfl ?_
        refine st_p (mva rfl) rfl ?_
        refine al_nil ?_
        refine nm ?_
        refine aw_ret ?_
        refine rb ?_
        refine rs ?_
        refine rs ?_
        refine rb ?_
        refine rs ?_
        exact ret_a ⟨[(4, .int .i64 i)], [], 0⟩ (le_to [] rfl rfl rfl rfl rfl ⟨rfl, trivial⟩ trivial) (res1 Try.results138) (.inr ⟨rfl, rfl⟩) ⟨by rw [firstI_at hx (by rw [hp]; rfl) (fun j y hj hy => by rw [ha j y hj hy]; rfl)]; rfl, rfl, rfl⟩
      | true =>
        rw [hp] at hc
        refine aw_seq ?_
        refine aw_region ?_
        refine st_p (OpP.conv (op_lt rfl rfl) (yes (by first | assumption | omega))) rfl ?_
        refine al_nil ?_
        refine nm ?_
        refine aw_seq ?_
        -- IF t9
        refine aw_yes (rfl) ?_
        refine aw_skip ?_
        refine nm ?_
        refine aw_seq ?_
        refine aw_block ?_
        refine aw_seq ?_
        refine aw_region ?_
        refine st_p (mv rfl) rfl ?_
        refine st_p (mva rfl) rfl ?_
        refine al_nil ?_
        refine nm ?_
        refine aw_seq ?_
        refine aw_region ?_
        refine st_p (mv rfl) rfl ?_
        refine st_p (mv rfl) rfl ?_
        refine st_p (mv rfl) rfl ?_
        refine st_p (op_indexAddrL Try.underlying23 z46 rfl rfl (by omega) (by first | assumption | rfl)) rfl ?_
        refine st_p (op_loadAL Try.underlying46 rfl z46 rfl rfl) rfl ?_
        -- STOP: call t11(t15) -> 16
        refine st_o ((op_callq (hc) Try.func79 ⟨rfl, rfl⟩ rfl rfl (fun nx => (.cons (.same (by rfl)) .nil)) (by rintro _ _ _ ⟨rfl, rfl, rfl⟩; exact .same rfl)).ok) rfl ?_
        refine al_nil ?_
        refine nm ?_
        -- IF t16
        refine aw_no (rfl) ?_
        refine aw_skip ?_
        refine nmb ?_
        refine nm ?_
        refine aw_region ?_
        refine st_p (op_addi rfl rfl (by omega)) rfl ?_
        refine st_p (mv rfl) rfl ?_
        refine al_nil ?_
        refine nm ?_
        exact ⟨⟨i + 1, hlt, fun j y hj hy => by
          rcases Nat.lt_succ_iff_lt_or_eq.1 hj with h | rfl
          · exact ha j y h hy
          · rw [hx] at hy; obtain rfl := Option.some.inj hy; exact hp⟩, by dsimp only; omega, le_to [] rfl rfl rfl rfl rfl ⟨rfl, rfl, rfl, rfl, trivial⟩ trivial⟩
    · skip
      refine aw_seq ?_
      refine aw_region ?_
      refine st_p (OpP.conv (op_lt rfl rfl) (no (by first | assumption | omega))) rfl ?_
      refine al_nil ?_
      refine nm ?_
      refine aw_seq ?_
      -- IF t9
      refine aw_no (rfl) ?_
      refine aw_exit ?_
      refine xs ?_
      refine xs ?_
      refine xb ?_
      refine nm ?_
      refine aw_seq ?_
      refine aw_region ?_
      refine st_p (mva rfl) rfl ?_
      refine al_nil ?_
      refine nm ?_
      refine aw_ret ?_
      exact ret_a ⟨[(4, .int .i64 (-1))], [], 0⟩ (le_to [] rfl rfl rfl rfl rfl ⟨rfl, trivial⟩ trivial) (res1 Try.results138) (.inr ⟨rfl, rfl⟩) ⟨by rw [firstI_none (fun j y hy => by rw [ha j y (by have := (List.getElem?_eq_some_iff.1 hy).1; omega) hy]; rfl)]; rfl, rfl, rfl⟩

theorem contains_reads (l : List RD) (hl : l.length ≤ 1000000) : AC Try.prog 78 [.sl 4 (l.map rdA), .fn (.func 79) [] []] [] 0 false (fun v h nx => v = .bool (!l.all readB) ∧ h = [] ∧ nx = 0) := by
  have hi := index_reads l hl
  have hs := firstI_all readB l
  cases ha : l.all readB with
  | true =>
    have hneg : ¬ 0 ≤ firstI (fun x => !readB x) l := fun h => by rw [hs.1 h] at ha; cases ha
    refine ac_fn Try.func78 rfl rfl rfl rfl (fun w0 S0 r0 => ?_)
    refine aw_seq ?_
    refine aw_region ?_
    refine st_p (mva rfl) rfl ?_
    refine al_nil ?_
    refine nm ?_
    refine aw_seq ?_
    refine aw_region ?_
    refine st_p (mv rfl) rfl ?_
    refine st_p (mv rfl) rfl ?_
    -- STOP: call slices.IndexFunc[[]diwan/api.Read,diwan/api.Read](t5, t6) -> 7
    refine st_o ((op_callq (hi) Try.func138 ⟨rfl, rfl⟩ rfl rfl (fun nx => (.cons (.same (by rfl)) (.cons (.same (by rfl)) .nil))) (by rintro _ _ _ ⟨rfl, rfl, rfl⟩; exact .same rfl)).ok) rfl ?_
    refine st_p (OpP.conv (op_ge rfl rfl) (no (by first | assumption | omega))) rfl ?_
    refine st_p (mva rfl) rfl ?_
    refine al_nil ?_
    refine nm ?_
    refine aw_ret ?_
    exact ret_v (res1 Try.results78) (.inr ⟨rfl, rfl⟩) ⟨rfl, rfl, rfl⟩
  | false =>
    have hpos : 0 ≤ firstI (fun x => !readB x) l := hs.2 ha
    refine ac_fn Try.func78 rfl rfl rfl rfl (fun w0 S0 r0 => ?_)
    refine aw_seq ?_
    refine aw_region ?_
    refine st_p (mva rfl) rfl ?_
    refine al_nil ?_
    refine nm ?_
    refine aw_seq ?_
    refine aw_region ?_
    refine st_p (mv rfl) rfl ?_
    refine st_p (mv rfl) rfl ?_
    -- STOP: call slices.IndexFunc[[]diwan/api.Read,diwan/api.Read](t5, t6) -> 7
    refine st_o ((op_callq (hi) Try.func138 ⟨rfl, rfl⟩ rfl rfl (fun nx => (.cons (.same (by rfl)) (.cons (.same (by rfl)) .nil))) (by rintro _ _ _ ⟨rfl, rfl, rfl⟩; exact .same rfl)).ok) rfl ?_
    refine st_p (OpP.conv (op_ge rfl rfl) (yes (by first | assumption | omega))) rfl ?_
    refine st_p (mva rfl) rfl ?_
    refine al_nil ?_
    refine nm ?_
    refine aw_ret ?_
    exact ret_v (res1 Try.results78) (.inr ⟨rfl, rfl⟩) ⟨rfl, rfl, rfl⟩

theorem may_writes (x : WR) : AC Try.prog 82 [wrA x] [] 0 false (fun v h nx => v = .bool (!writeB x) ∧ h = [] ∧ nx = 0) := by
  have hx := txn_write x
  cases hp : writeB x with
  | true =>
    rw [hp] at hx
    refine ac_fn Try.func82 rfl rfl rfl rfl (fun w0 S0 r0 => ?_)
    refine aw_seq ?_
    refine aw_region ?_
    refine st_o (bx rfl rfl) rfl ?_
    refine st_p (mva rfl) rfl ?_
    refine al_nil ?_
    refine nm ?_
    refine aw_seq ?_
    refine aw_region ?_
    refine st_p (op_loadA Try.underlying48 rfl z48 rfl rfl rfl rfl) rfl ?_
    -- STOP: call diwan/txn.write(t3) -> 4
    refine st_o ((op_callq (hx) Try.func83 ⟨rfl, rfl⟩ rfl rfl (fun nx => (.cons (.same (by rfl)) .nil)) (by rintro _ _ _ ⟨rfl, rfl, rfl⟩; exact .same rfl)).ok) rfl ?_
    refine st_p (op_notT rfl) rfl ?_
    refine st_p (mva rfl) rfl ?_
    refine al_nil ?_
    refine nm ?_
    refine aw_ret ?_
    exact ret_a ⟨[(2, .bool false)], [], 0⟩ (le_to [] rfl rfl rfl rfl rfl ⟨rfl, trivial⟩ trivial) (res1 Try.results82) (.inr ⟨rfl, rfl⟩) ⟨rfl, rfl, rfl⟩
  | false =>
    rw [hp] at hx
    refine ac_fn Try.func82 rfl rfl rfl rfl (fun w0 S0 r0 => ?_)
    refine aw_seq ?_
    refine aw_region ?_
    refine st_o (bx rfl rfl) rfl ?_
    refine st_p (mva rfl) rfl ?_
    refine al_nil ?_
    refine nm ?_
    refine aw_seq ?_
    refine aw_region ?_
    refine st_p (op_loadA Try.underlying48 rfl z48 rfl rfl rfl rfl) rfl ?_
    -- STOP: call diwan/txn.write(t3) -> 4
    refine st_o ((op_callq (hx) Try.func83 ⟨rfl, rfl⟩ rfl rfl (fun nx => (.cons (.same (by rfl)) .nil)) (by rintro _ _ _ ⟨rfl, rfl, rfl⟩; exact .same rfl)).ok) rfl ?_
    refine st_p (op_notF rfl) rfl ?_
    refine st_p (mva rfl) rfl ?_
    refine al_nil ?_
    refine nm ?_
    refine aw_ret ?_
    exact ret_a ⟨[(2, .bool true)], [], 0⟩ (le_to [] rfl rfl rfl rfl rfl ⟨rfl, trivial⟩ trivial) (res1 Try.results82) (.inr ⟨rfl, rfl⟩) ⟨rfl, rfl, rfl⟩

theorem index_writes (l : List WR) (hl : l.length ≤ 1000000) : AC Try.prog 139 [.sl 3 (l.map wrA), .fn (.func 82) [] []] [] 0 false (fun v h nx => v = .int .i64 (firstI (fun x => !writeB x) l) ∧ h = [] ∧ nx = 0) := by
  have hlm : (l.map wrA).length = l.length := List.length_map _
  refine ac_fn Try.func139 rfl rfl rfl rfl (fun w0 S0 r0 => ?_)
  refine aw_seq ?_
  refine aw_region ?_
  refine st_p (mva rfl) rfl ?_
  refine al_nil ?_
  refine nm ?_
  refine aw_seq ?_
  refine aw_seq ?_
  refine aw_region ?_
  refine st_p (mv rfl) rfl ?_
  refine st_p (op_len Try.underlying24 rfl) rfl ?_
  refine st_p (mv rfl) rfl ?_
  refine al_nil ?_
  refine nm ?_
  refine aw_block ?_
  -- LOOP
  refine aw_loop (fun i : {i : Nat // i ≤ l.length ∧ ∀ (j : Nat) (x : WR), j < i → l[j]? = some x → writeB x = true} => ⟨[(0, .sl 3 (l.map wrA)), (1, .fn (.func 82) [] []), (7, .int .i64 l.length), (8, .int .i64 i.1)], [], 0⟩) (fun i => l.length - i.1) ⟨0, Nat.zero_le _, fun j x hj => absurd hj (Nat.not_lt_zero _)⟩ ?_ ?_
  · exact le_to [] rfl rfl rfl rfl rfl ⟨rfl, rfl, by rw [← hlm]; rfl, rfl, trivial⟩ trivial
  · rintro ⟨i, hi, ha⟩
    dsimp only
    by_cases hlt : i < l.length
    · obtain ⟨x, hx⟩ : ∃ x, l[i]? = some x := ⟨_, List.getElem?_eq_getElem hlt⟩
      have hxb : (l.map wrA)[((i : Nat) : Int).toNat]? = some (.agg [sb x.key, sb x.val, .bool x.gone]) := by rw [Int.toNat_natCast, List.getElem?_map, hx]; rfl
      have hc := may_writes x
      cases hp : writeB x with
      | false =>
        rw [hp] at hc
        refine aw_seq ?_
        refine aw_region ?_
        refine st_p (OpP.conv (op_lt rfl rfl) (yes (by first | assumption | omega))) rfl ?_
        refine al_nil ?_
        refine nm ?_
        refine aw_seq ?_
        -- IF t9
        refine aw_yes (rfl) ?_
        refine aw_skip ?_
        refine nm ?_
        refine aw_seq ?_
        refine aw_block ?_
        refine aw_seq ?_
        refine aw_region ?_
        refine st_p (mv rfl) rfl ?_
        refine st_p (mva rfl) rfl ?_
        refine al_nil ?_
        refine nm ?_
        refine aw_seq ?_
        refine aw_region ?_
        refine st_p (mv rfl) rfl ?_
        refine st_p (mv rfl) rfl ?_
        refine st_p (mv rfl) rfl ?_
        refine st_p (op_indexAddrL Try.underlying24 z48 rfl rfl (by omega) (by first | assumption | rfl)) rfl ?_
        refine st_p (op_loadAL Try.underlying48 rfl z48 rfl rfl) rfl ?_
        -- STOP: call t11(t15) -> 16
        refine st_o ((op_callq (hc) Try.func82 ⟨rfl, rfl⟩ rfl rfl (fun nx => (.cons (.same (by rfl)) .nil)) (by rintro _ _ _ ⟨rfl, rfl, rfl⟩; exact .same rfl)).ok) rfl ?_
        refine al_nil ?_
        refine nm ?_
        -- IF t16
        refine aw_yes (rfl) ?_
        refine aw_seq ?_
        refine aw_region ?_
        refine st_p (mv rfl) rfl ?_
        refine st_p (mva rfl) rfl ?_
        refine al_nil ?_
        refine nm ?_
        refine aw_ret ?_
        refine rb ?_
        refine rs ?_
        refine rs ?_
        refine rb ?_
        refine rs ?_
        exact ret_a ⟨[(4, .int .i64 i)], [], 0⟩ (le_to [] rfl rfl rfl rfl rfl ⟨rfl, trivial⟩ trivial) (res1 Try.results139) (.inr ⟨rfl, rfl⟩) ⟨by rw [firstI_at hx (by rw [hp]; rfl) (fun j y hj hy => by rw [ha j y hj hy]; rfl)]; rfl, rfl, rfl⟩
      | true =>
        rw [hp] at hc
        refine aw_seq ?_
        refine aw_region ?_
        refine st_p (OpP.conv (op_lt rfl rfl) (yes (by first | assumption | omega))) rfl ?_
        refine al_nil ?_
        refine nm ?_
        refine aw_seq ?_
        -- IF t9
        refine aw_yes (rfl) ?_
        refine aw_skip ?_
        refine nm ?_
        refine aw_seq ?_
        refine aw_block ?_
        refine aw_seq ?_
        refine aw_region ?_
        refine st_p (mv rfl) rfl ?_
        refine st_p (mva rfl) rfl ?_
        refine al_nil ?_
        refine nm ?_
        refine aw_seq ?_
        refine aw_region ?_
        refine st_p (mv rfl) rfl ?_
        refine st_p (mv rfl) rfl ?_
        refine st_p (mv rfl) rfl ?_
        refine st_p (op_indexAddrL Try.underlying24 z48 rfl rfl (by omega) (by first | assumption | rfl)) rfl ?_
        refine st_p (op_loadAL Try.underlying48 rfl z48 rfl rfl) rfl ?_
        -- STOP: call t11(t15) -> 16
        refine st_o ((op_callq (hc) Try.func82 ⟨rfl, rfl⟩ rfl rfl (fun nx => (.cons (.same (by rfl)) .nil)) (by rintro _ _ _ ⟨rfl, rfl, rfl⟩; exact .same rfl)).ok) rfl ?_
        refine al_nil ?_
        refine nm ?_
        -- IF t16
        refine aw_no (rfl) ?_
        refine aw_skip ?_
        refine nmb ?_
        refine nm ?_
        refine aw_region ?_
        refine st_p (op_addi rfl rfl (by omega)) rfl ?_
        refine st_p (mv rfl) rfl ?_
        refine al_nil ?_
        refine nm ?_
        exact ⟨⟨i + 1, hlt, fun j y hj hy => by
          rcases Nat.lt_succ_iff_lt_or_eq.1 hj with h | rfl
          · exact ha j y h hy
          · rw [hx] at hy; obtain rfl := Option.some.inj hy; exact hp⟩, by dsimp only; omega, le_to [] rfl rfl rfl rfl rfl ⟨rfl, rfl, rfl, rfl, trivial⟩ trivial⟩
    · skip
      refine aw_seq ?_
      refine aw_region ?_
      refine st_p (OpP.conv (op_lt rfl rfl) (no (by first | assumption | omega))) rfl ?_
      refine al_nil ?_
      refine nm ?_
      refine aw_seq ?_
      -- IF t9
      refine aw_no (rfl) ?_
      refine aw_exit ?_
      refine xs ?_
      refine xs ?_
      refine xb ?_
      refine nm ?_
      refine aw_seq ?_
      refine aw_region ?_
      refine st_p (mva rfl) rfl ?_
      refine al_nil ?_
      refine nm ?_
      refine aw_ret ?_
      exact ret_a ⟨[(4, .int .i64 (-1))], [], 0⟩ (le_to [] rfl rfl rfl rfl rfl ⟨rfl, trivial⟩ trivial) (res1 Try.results139) (.inr ⟨rfl, rfl⟩) ⟨by rw [firstI_none (fun j y hy => by rw [ha j y (by have := (List.getElem?_eq_some_iff.1 hy).1; omega) hy]; rfl)]; rfl, rfl, rfl⟩

theorem contains_writes (l : List WR) (hl : l.length ≤ 1000000) : AC Try.prog 81 [.sl 3 (l.map wrA), .fn (.func 82) [] []] [] 0 false (fun v h nx => v = .bool (!l.all writeB) ∧ h = [] ∧ nx = 0) := by
  have hi := index_writes l hl
  have hs := firstI_all writeB l
  cases ha : l.all writeB with
  | true =>
    have hneg : ¬ 0 ≤ firstI (fun x => !writeB x) l := fun h => by rw [hs.1 h] at ha; cases ha
    refine ac_fn Try.func81 rfl rfl rfl rfl (fun w0 S0 r0 => ?_)
    refine aw_seq ?_
    refine aw_region ?_
    refine st_p (mva rfl) rfl ?_
    refine al_nil ?_
    refine nm ?_
    refine aw_seq ?_
    refine aw_region ?_
    refine st_p (mv rfl) rfl ?_
    refine st_p (mv rfl) rfl ?_
    -- STOP: call slices.IndexFunc[[]diwan/api.Write,diwan/api.Write](t5, t6) -> 7
    refine st_o ((op_callq (hi) Try.func139 ⟨rfl, rfl⟩ rfl rfl (fun nx => (.cons (.same (by rfl)) (.cons (.same (by rfl)) .nil))) (by rintro _ _ _ ⟨rfl, rfl, rfl⟩; exact .same rfl)).ok) rfl ?_
    refine st_p (OpP.conv (op_ge rfl rfl) (no (by first | assumption | omega))) rfl ?_
    refine st_p (mva rfl) rfl ?_
    refine al_nil ?_
    refine nm ?_
    refine aw_ret ?_
    exact ret_v (res1 Try.results81) (.inr ⟨rfl, rfl⟩) ⟨rfl, rfl, rfl⟩
  | false =>
    have hpos : 0 ≤ firstI (fun x => !writeB x) l := hs.2 ha
    refine ac_fn Try.func81 rfl rfl rfl rfl (fun w0 S0 r0 => ?_)
    refine aw_seq ?_
    refine aw_region ?_
    refine st_p (mva rfl) rfl ?_
    refine al_nil ?_
    refine nm ?_
    refine aw_seq ?_
    refine aw_region ?_
    refine st_p (mv rfl) rfl ?_
    refine st_p (mv rfl) rfl ?_
    -- STOP: call slices.IndexFunc[[]diwan/api.Write,diwan/api.Write](t5, t6) -> 7
    refine st_o ((op_callq (hi) Try.func139 ⟨rfl, rfl⟩ rfl rfl (fun nx => (.cons (.same (by rfl)) (.cons (.same (by rfl)) .nil))) (by rintro _ _ _ ⟨rfl, rfl, rfl⟩; exact .same rfl)).ok) rfl ?_
    refine st_p (OpP.conv (op_ge rfl rfl) (yes (by first | assumption | omega))) rfl ?_
    refine st_p (mva rfl) rfl ?_
    refine al_nil ?_
    refine nm ?_
    refine aw_ret ?_
    exact ret_v (res1 Try.results81) (.inr ⟨rfl, rfl⟩) ⟨rfl, rfl, rfl⟩

end Go.Proofs.Ytloddmbbfkejcaa.Abs
end
