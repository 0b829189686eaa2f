/-
  Regions whose order is open: one walk in the text's order serves every order. It holds of any program.
-/
import Derived.Test.YtloddmbbfkejcaaAbsM
import Derived.Orders
namespace Go.Proofs.Ytloddmbbfkejcaa.Abs

/-- What leaves the abstract heap alone. -/
def OpQ (P : Program) (op : Op) (tm : List (Nat × AV)) (h : Heap) (v : AV) : Prop := ∀ nx, OpOK P op ⟨tm, h, nx⟩ v h nx

theorem OpP.q {P : Program} {op : Op} {tm : List (Nat × AV)} {h : Heap} {v : AV} (hp : OpP P op tm h v) : OpQ P op tm h v := fun _ => hp.ok

theorem Rep.grow {c : Ctx} {n : Nat} {st : St} {ρ : Rho} {S S' : Nat → Prop} {a : Act} {w w' : World} (h : Rep c n st ρ S a w) (h1 : ∀ b, S b → S' b) (h2 : ∀ b, S' b → S b ∨ w.heap.size ≤ b) (h3 : ∀ b, S' b → b < w'.heap.size) (hw : Same w w') : Rep c n st ρ S' a w' := by
  have hr := h.same hw
  have hS : ∀ b, S b → S' b ∧ w'.heap[b]? = w'.heap[b]? := fun b hb => ⟨h1 b hb, rfl⟩
  refine ⟨hr.size, hr.defers, fun i => (hr.tmps i).mono hS (fun _ _ h => h), ⟨fun b B hb => ?_, hr.sim.inj, h3⟩, ⟨hr.post.os, hr.post.tape, hr.post.output, hr.post.size, hr.post.keep, fun b hb => h1 b (hr.post.sIn b hb), fun b hb => ?_, hr.post.own, hr.post.ids⟩, hr.fresh, hr.le, hr.dom⟩
  · rcases hr.sim.blk b B hb with ⟨r, q1, q2, q3, q4⟩ | hv
    · refine .inl ⟨r, q1, q2.mono hS (fun _ _ h => h) rfl, fun hs => ?_, q4⟩
      rcases h2 _ hs with h' | h'
      · exact q3 h'
      · have := (blk_of h hb q1).2.1; omega
    · exact .inr hv
  · rcases h2 b hb with h' | h'
    · exact hr.post.sNew b h'
    · exact .inr (Nat.le_trans h.post.size h')

structure It where
  v : AV
  ef : Bool
  lo : Nat
  hi : Nat
  ks : List Nat

def sel (ks : List Nat) (tm : List (Nat × AV)) : List (Nat × AV) := ks.map fun k => (k, tget tm k)

theorem tget_sel (ks : List Nat) (tm : List (Nat × AV)) (x : Nat) : tget (sel ks tm) x = if x ∈ ks then tget tm x else .top := by
  induction ks with
  | nil => simp [sel, tget]
  | cons k ks ih =>
    simp only [sel, List.map_cons, tget]
    by_cases e : k = x
    · subst e; simp
    · rw [if_neg e]
      unfold sel at ih
      rw [ih]
      simp [Ne.symm e]

def rank (its : List It) (i : Nat) : Nat := (its.take i).countP (fun it => it.ef)

def edges (o : Oper) : List Nat := (o.after.toList.filter fun e => Region.binds .any e).map (·.on)

theorem mem_edges {o : Oper} {p : Nat} : p ∈ edges o ↔ ∃ e ∈ o.after, Region.binds .any e = true ∧ e.on = p := by
  unfold edges
  simp only [List.mem_map, List.mem_filter, Array.mem_toList_iff]
  constructor
  · rintro ⟨e, ⟨h1, h2⟩, h3⟩; exact ⟨e, h1, h2, h3⟩
  · rintro ⟨e, h1, h2, h3⟩; exact ⟨e, ⟨h1, h2⟩, h3⟩

/-- The value that a slot has behind the region's operations. -/
def ent : List Oper → List It → List (Nat × AV) → Nat → AV
  | o :: l, it :: its, tm, x => if o.dst = some x then it.v else ent l its tm x
  | _, _, tm, x => tget tm x

section
variable (l : List Oper) (its : List It) (m : Nat)

/-- What is looked at without the values. -/
structure Plan : Prop where
  len : l.length = its.length
  up : ∀ (i : Nat) (o : Oper), l[i]? = some o → ∀ p ∈ edges o, p < i
  dist : ∀ (i j : Nat) (o o' : Oper) (d : Nat), l[i]? = some o → l[j]? = some o' → o.dst = some d → o'.dst = some d → i = j
  lo : ∀ (i : Nat) (o : Oper) (it : It), l[i]? = some o → its[i]? = some it → it.lo = 0 ∨ ∃ p ∈ edges o, ∃ q, its[p]? = some q ∧ ((q.ef = true ∧ rank its p + 1 = it.lo) ∨ it.lo ≤ q.lo)
  eff : ∀ (i : Nat) (it : It), its[i]? = some it → it.ef = true → it.lo = rank its i ∧ it.hi = rank its i ∧ rank its i < m
  hi : ∀ (i : Nat) (it : It), its[i]? = some it → m ≤ it.hi ∨ it.ef = true ∨ ∃ j o q, l[j]? = some o ∧ its[j]? = some q ∧ i ∈ edges o ∧ ((q.ef = true ∧ rank its j ≤ it.hi) ∨ q.hi ≤ it.hi)
  slots : ∀ (i : Nat) (o : Oper) (it : It), l[i]? = some o → its[i]? = some it → ∀ k ∈ it.ks, (∃ p ∈ edges o, ∃ o', l[p]? = some o' ∧ o'.dst = some k) ∨ ∀ (j : Nat) (o' : Oper), l[j]? = some o' → o'.dst ≠ some k
  guard : ∀ (i : Nat) (o : Oper) (j : Nat) (b : Bool), l[i]? = some o → o.guard = some (j, b) → j ∈ edges o ∧ ∃ o' d, l[j]? = some o' ∧ o'.dst = some d

end

/-- What an operation does at a stage. -/
def Run (P : Program) (op : Op) (ef : Bool) (v : AV) (tm : List (Nat × AV)) (s : Nat) (hs : List (Heap × Nat)) (H : Heap) (X : Nat) : Prop :=
  if ef then ∃ H' X', hs[s + 1]? = some (H', X') ∧ OpOK P op ⟨tm, H, X⟩ v H' X' else OpQ P op tm H v

def Ob (P : Program) (l : List Oper) (its : List It) (E : List (Nat × AV)) (hs : List (Heap × Nat)) (i s : Nat) : Prop :=
  ∀ o it H X, l[i]? = some o → its[i]? = some it → hs[s]? = some (H, X) →
    match o.guard with
    | none => Run P o.op it.ef it.v (sel it.ks E) s hs H X
    | some (j, b) => ∃ g, (∃ q, its[j]? = some q ∧ gv q.v = some g) ∧ (g = some b → Run P o.op it.ef it.v (sel it.ks E) s hs H X) ∧ (g ≠ some b → it.v = .tup [] ∧ it.ef = false)

section
variable {P : Program} {c : Ctx} {n : Nat} {Q : Exit → St → Prop} {l : List Oper} {its : List It} {m : Nat} {hs : List (Heap × Nat)} {tm0 : List (Nat × AV)}

def L (t : Array Bool) (i : Nat) : Prop := t.getD i false = true

structure DInv (c : Ctx) (n : Nat) (l : List Oper) (its : List It) (m : Nat) (hs : List (Heap × Nat)) (tm0 : List (Nat × AV)) (t : Array Bool) (a : Act) (w : World) (s : Nat) : Prop where
  size : t.size = l.length
  closed : ∀ (i : Nat) (o : Oper), l[i]? = some o → L t i → ∀ p ∈ edges o, L t p
  st : ∀ (i : Nat) (it : It), its[i]? = some it → it.ef = true → (L t i ↔ rank its i < s)
  sm : s ≤ m
  rep : ∃ tm H X ρ S, hs[s]? = some (H, X) ∧ Rep c n ⟨tm, H, X⟩ ρ S a w ∧ (∀ (i : Nat) (o : Oper) (it : It) (x : Nat), l[i]? = some o → its[i]? = some it → o.dst = some x → L t i → tget tm x = it.v) ∧
    ∀ x, (∀ (i : Nat) (o : Oper), l[i]? = some o → o.dst = some x → ¬ L t i) → tget tm x = tget tm0 x

theorem rank_lt {i j : Nat} {it : It} (hij : i < j) (hi : its[i]? = some it) (he : it.ef = true) : rank its i < rank its j := by
  have hil : i < its.length := (List.getElem?_eq_some_iff.1 hi).1
  unfold rank
  have e : its.take j = its.take i ++ (its.drop i).take (j - i) := by
    rw [← List.take_add, show i + (j - i) = j from by omega]
  rw [e, List.countP_append]
  have e2 : (its.drop i).take (j - i) = it :: ((its.drop (i + 1)).take (j - i - 1)) := by
    rw [List.getElem?_eq_some_iff] at hi
    obtain ⟨_, hi⟩ := hi
    rw [List.drop_eq_getElem_cons hil, hi, show j - i = (j - i - 1) + 1 from by omega, List.take_succ_cons]
    simp
  rw [e2, List.countP_cons, he]
  simp

theorem rank_inj {i j : Nat} {it jt : It} (hi : its[i]? = some it) (hj : its[j]? = some jt) (he : it.ef = true) (he' : jt.ef = true) (h : rank its i = rank its j) : i = j := by
  rcases Nat.lt_trichotomy i j with h1 | h1 | h1
  · have := rank_lt h1 hi he; omega
  · exact h1
  · have := rank_lt h1 hj he'; omega

/-- All effects below a listed operation's bound are listed. -/
theorem lo_ok (hp : Plan l its m) {t : Array Bool} {a : Act} {w : World} {s : Nat} (hd : DInv c n l its m hs tm0 t a w s) : ∀ (k i : Nat) (o : Oper) (it : It), i < k → l[i]? = some o → its[i]? = some it → (∀ p ∈ edges o, L t p) → it.lo ≤ s := by
  intro k
  induction k with
  | zero => intro i o it hi; omega
  | succ k ih =>
    intro i o it hi ho hit hall
    rcases hp.lo i o it ho hit with h | ⟨p, hpe, q, hq, h⟩
    · omega
    · have hpi := hp.up i o ho p hpe
      have hLp := hall p hpe
      obtain ⟨op, hop⟩ : ∃ op, l[p]? = some op := ⟨_, List.getElem?_eq_getElem (by rw [hp.len]; exact (List.getElem?_eq_some_iff.1 hq).1)⟩
      rcases h with ⟨h1, h2⟩ | h1
      · have := (hd.st p q hq h1).1 hLp
        omega
      · have := ih p op q (by omega) hop hq (hd.closed p op hop hLp)
        omega

theorem hi_ok (hp : Plan l its m) {t : Array Bool} {a : Act} {w : World} {s : Nat} (hd : DInv c n l its m hs tm0 t a w s) : ∀ (k i : Nat) (it : It), l.length - i ≤ k → its[i]? = some it → ¬ L t i → s ≤ it.hi := by
  intro k
  induction k with
  | zero =>
    intro i it hk hit _
    have := (List.getElem?_eq_some_iff.1 hit).1
    rw [← hp.len] at this
    omega
  | succ k ih =>
    intro i it hk hit hn
    rcases hp.hi i it hit with h | h | ⟨j, o, q, ho, hq, he, h⟩
    · have := hd.sm; omega
    · obtain ⟨h1, h2, h3⟩ := hp.eff i it hit h
      rcases Nat.lt_or_ge (rank its i) s with hlt | hge
      · exact absurd ((hd.st i it hit h).2 hlt) hn
      · omega
    · have hij := hp.up j o ho i he
      have hnj : ¬ L t j := fun hl => hn (hd.closed j o ho hl i he)
      rcases h with ⟨h1, h2⟩ | h1
      · rcases Nat.lt_or_ge (rank its j) s with hlt | hge
        · exact absurd ((hd.st j q hq h1).2 hlt) hnj
        · omega
      · have := ih j q (by omega) hq hnj
        omega

theorem ent_spec : ∀ (l : List Oper) (its : List It) (tm : List (Nat × AV)) (x : Nat), l.length = its.length → (∀ (i j : Nat) (o o' : Oper) (d : Nat), l[i]? = some o → l[j]? = some o' → o.dst = some d → o'.dst = some d → i = j) →
    (∀ (i : Nat) (o : Oper) (it : It), l[i]? = some o → its[i]? = some it → o.dst = some x → ent l its tm x = it.v) ∧ ((∀ (i : Nat) (o : Oper), l[i]? = some o → o.dst ≠ some x) → ent l its tm x = tget tm x) := by
  intro l
  induction l with
  | nil => intro its tm x hl _; exact ⟨fun i o it h => by simp at h, fun _ => by cases its <;> rfl⟩
  | cons o l ih =>
    intro its tm x hl hd
    cases its with
    | nil => simp at hl
    | cons it its =>
      obtain ⟨h1, h2⟩ := ih its tm x (by simpa using hl) (fun i j o o' d a b e f => by have := hd (i + 1) (j + 1) o o' d a b e f; omega)
      simp only [ent]
      refine ⟨fun i o' it' ho hi hdst => ?_, fun hno => ?_⟩
      · cases i with
        | zero =>
          simp only [List.getElem?_cons_zero, Option.some.injEq] at ho hi
          subst ho; subst hi
          rw [if_pos hdst]
        | succ i =>
          have : ¬ o.dst = some x := fun e => by have := hd 0 (i + 1) o o' x rfl ho e hdst; omega
          rw [if_neg this]
          exact h1 i o' it' ho hi hdst
      · rw [if_neg (hno 0 o rfl)]
        exact h2 (fun i o' ho => hno (i + 1) o' ho)

theorem L_set {t : Array Bool} {i j : Nat} (hi : i < t.size) : L (t.setIfInBounds i true) j ↔ i = j ∨ L t j := by
  unfold L
  by_cases e : i = j
  · subst e; simp [hi]
  · rw [getD_set_ne false e]; simp [e]

/-- One step, whatever operation comes up. -/
theorem draw_step (hp : Plan l its m) (hdn : ∀ o ∈ l, ∀ d, o.dst = some d → d < n) {E : List (Nat × AV)} (hE : ∀ x, tget E x = ent l its tm0 x)
    (hob : ∀ (i s : Nat) (it : It), its[i]? = some it → it.lo ≤ s → s ≤ it.hi → s ≤ m → Ob P l its E hs i s)
    {t : Array Bool} {a : Act} {w : World} {s : Nat} (hd : DInv c n l its m hs tm0 t a w s) {i : Nat} {o : Oper} (ho : l[i]? = some o) (hn : ¬ L t i) (hall : ∀ p ∈ edges o, L t p)
    {K : Act → World → Prop} {Qe : Exit → Act → World → Prop} (hK : ∀ a' w' s', DInv c n l its m hs tm0 (t.setIfInBounds i true) a' w' s' → K a' w') : wpOp P l.toArray Qe i K a w := by
  have hil : i < l.length := (List.getElem?_eq_some_iff.1 ho).1
  obtain ⟨it, hit⟩ : ∃ it, its[i]? = some it := ⟨_, List.getElem?_eq_getElem (by rw [← hp.len]; exact hil)⟩
  have hlo := lo_ok hp hd (i + 1) i o it (by omega) ho hit hall
  have hhi := hi_ok hp hd (l.length - i) i it (Nat.le_refl _) hit hn
  obtain ⟨tm, H, X, ρ, S, hHs, hrep, hE1, hE2⟩ := hd.rep
  have hO := hob i s it hit hlo hhi hd.sm o it H X ho hit hHs
  -- what the operation looks at is there
  have hmnr : Rep c n ⟨sel it.ks E, H, X⟩ ρ S a w := by
    refine ⟨hrep.size, hrep.defers, fun x => ?_, hrep.sim, hrep.post, hrep.fresh, hrep.le, hrep.dom⟩
    show VR S w ρ (tget (sel it.ks E) x) _
    rw [tget_sel]
    split
    · rename_i hx
      obtain ⟨g1, g2⟩ := ent_spec l its tm0 x hp.len hp.dist
      have hval : tget tm x = ent l its tm0 x := by
        rcases hp.slots i o it ho hit x hx with ⟨p, hpe, o', ho', hd'⟩ | hno
        · obtain ⟨jt, hjt⟩ : ∃ jt, its[p]? = some jt := ⟨_, List.getElem?_eq_getElem (by rw [← hp.len]; exact (List.getElem?_eq_some_iff.1 ho').1)⟩
          rw [g1 p o' jt ho' hjt hd', hE1 p o' jt x ho' hjt hd' (hall p hpe)]
        · rw [g2 hno, hE2 x (fun j o' ho' hd' => absurd hd' (hno j o' ho'))]
      rw [hE, ← hval]
      exact hrep.tmps x
    · exact .top
  have hset : i < t.size := by rw [hd.size]; exact hil
  -- how things stand behind it
  have next : ∀ (w' : World) (u : Value) (H' : Heap) (X' : Nat) (ρ' : Rho) (S' : Nat → Prop) (s' : Nat), Rep c n ⟨tm, H', X'⟩ ρ' S' a w' → VR S' w' ρ' it.v u → hs[s']? = some (H', X') → s' ≤ m →
      (∀ (j : Nat) (jt : It), its[j]? = some jt → jt.ef = true → (i = j ∨ L t j ↔ rank its j < s')) → DInv c n l its m hs tm0 (t.setIfInBounds i true) (a.put o.dst u) w' s' := by
    intro w' u H' X' ρ' S' s' hr' hv' hh' hs' hst'
    refine ⟨by simp [hd.size], fun j o' ho' hL p hpe => ?_, fun j jt hj he => ?_, hs', ?_⟩
    · rw [L_set hset] at hL ⊢
      rcases hL with rfl | hL
      · rw [ho] at ho'
        obtain rfl := Option.some.inj ho'
        exact .inr (hall p hpe)
      · exact .inr (hd.closed j o' ho' hL p hpe)
    · rw [L_set hset]; exact hst' j jt hj he
    · cases hdst : o.dst with
      | none =>
        refine ⟨tm, H', X', ρ', S', hh', hr', fun j o' jt x hj hjt hx hL => ?_, fun x hx => hE2 x (fun j o' hj hxd hL => hx j o' hj hxd ((L_set hset).2 (.inr hL)))⟩
        rcases (L_set hset).1 hL with rfl | hL
        · rw [ho] at hj; obtain rfl := Option.some.inj hj; rw [hdst] at hx; cases hx
        · exact hE1 j o' jt x hj hjt hx hL
      | some d =>
        refine ⟨(d, it.v) :: tm, H', X', ρ', S', hh', hr'.put d (hdn o (List.mem_of_getElem? ho) d hdst) it.v u hv', fun j o' jt x hj hjt hx hL => ?_, fun x hx => ?_⟩
        · by_cases e : d = x
          · subst e
            have : i = j := hp.dist i j o o' d ho hj hdst hx
            subst this
            rw [hit] at hjt
            obtain rfl := Option.some.inj hjt
            simp [tget]
          · simp only [tget, e, if_false]
            rcases (L_set hset).1 hL with rfl | hL
            · rw [ho] at hj; obtain rfl := Option.some.inj hj; rw [hdst] at hx; exact absurd (Option.some.inj hx) e
            · exact hE1 j o' jt x hj hjt hx hL
        · have e : d ≠ x := fun e => hx i o ho (by rw [hdst, e]) ((L_set hset).2 (.inl rfl))
          simp only [tget, e, if_false]
          exact hE2 x (fun j o' hj hxd hL => hx j o' hj hxd ((L_set hset).2 (.inr hL)))
  have hquiet : ∀ (j : Nat) (jt : It), it.ef = false → its[j]? = some jt → jt.ef = true → (i = j ∨ L t j ↔ rank its j < s) := by
    intro j jt hef hj he
    rw [← hd.st j jt hj he]
    constructor
    · rintro (rfl | h)
      · rw [hit] at hj; obtain rfl := Option.some.inj hj; rw [hef] at he; cases he
      · exact h
    · exact .inr
  have hrun : Run P o.op it.ef it.v (sel it.ks E) s hs H X → o.wp P a w K Qe := by
    intro hR
    unfold Run at hR
    cases hef : it.ef with
    | true =>
      rw [hef] at hR
      simp only [if_true] at hR
      obtain ⟨H', X', hh', hop⟩ := hR
      obtain ⟨k1, k2, k3⟩ := hp.eff i it hit hef
      have hs1 : s = rank its i := by omega
      refine (hop c n ρ S a w hmnr o rfl).wp fun u w' ⟨ρ', S', r3, r4, r5, r6⟩ => ?_
      have hr' : Rep c n ⟨tm, H', X'⟩ ρ' S' a w' := ⟨r3.size, r3.defers, fun x => (hrep.tmps x).mono r6 r5, r3.sim, r3.post, r3.fresh, r3.le, r3.dom⟩
      refine hK _ _ _ (next w' u H' X' ρ' S' (s + 1) hr' r4 hh' (by omega) (fun j jt hj he => ?_))
      rw [hd.st j jt hj he]
      constructor
      · rintro (rfl | h)
        · omega
        · omega
      · intro h
        rcases Nat.lt_or_ge (rank its j) s with h' | h'
        · exact .inr h'
        · exact .inl (rank_inj hit hj hef he (by omega))
    | false =>
      rw [hef] at hR
      simp only [Bool.false_eq_true, if_false] at hR
      refine (hR X c n ρ S a w hmnr o rfl).wp fun u w' ⟨ρ', S', r3, r4, r5, r6⟩ => ?_
      have hr' : Rep c n ⟨tm, H, X⟩ ρ' S' a w' := ⟨r3.size, r3.defers, fun x => (hrep.tmps x).mono r6 r5, r3.sim, r3.post, r3.fresh, r3.le, r3.dom⟩
      exact hK _ _ _ (next w' u H X ρ' S' s hr' r4 hHs hd.sm (fun j jt => hquiet j jt hef))
  unfold wpOp
  rw [show l.toArray[i]? = some o from by rw [List.getElem?_toArray]; exact ho]
  simp only []
  cases hg : o.guard with
  | none =>
    rw [hg] at hO
    rw [if_pos (by simp [Region.wanted, hg])]
    exact .inl (hrun hO)
  | some jb =>
    obtain ⟨j, b⟩ := jb
    rw [hg] at hO
    simp only [] at hO
    obtain ⟨b', ⟨q, hq1, hq2⟩, h1, h2⟩ := hO
    obtain ⟨hje, o', d, ho', hd'⟩ := hp.guard i o j b ho hg
    have hval := hE1 j o' q d ho' hq1 hd' (hall j hje)
    have hy : yielded l.toArray a.tmps j = b' := yielded_gv hrep (d := d) (by rw [List.getElem?_toArray, ho']; exact hd') (hdn o' (List.mem_of_getElem? ho') d hd') (by rw [show (St.mk tm H X).tm = tm from rfl, hval]; exact hq2)
    by_cases e : b' = some b
    · rw [if_pos (by simp [Region.wanted, hg, hy, e])]
      exact .inl (hrun (h1 e))
    · rw [if_neg (by simp [Region.wanted, hg, hy, e])]
      obtain ⟨e1, e2⟩ := h2 e
      exact hK _ _ _ (next w undef H X ρ S s hrep (by rw [e1]; exact .tup #[] rfl (fun i x u hx _ => by simp at hx)) hHs hd.sm (fun j jt => hquiet j jt e2))

theorem countP_less {p q : Nat → Bool} : ∀ {l : List Nat}, (∀ x ∈ l, p x = true → q x = true) → ∀ {y : Nat}, y ∈ l → q y = true → p y = false → l.countP p + 1 ≤ l.countP q := by
  intro l
  induction l with
  | nil => intro _ y hy; cases hy
  | cons a l ih =>
    intro h y hy hq hp
    simp only [List.countP_cons]
    rcases List.mem_cons.1 hy with rfl | hy
    · have := List.countP_mono_left (fun x hx => h x (List.mem_cons_of_mem _ hx)) (l := l)
      simp only [hq, hp, if_true, Bool.false_eq_true, if_false]
      omega
    · have := ih (fun x hx => h x (List.mem_cons_of_mem _ hx)) hy hq hp
      by_cases ha : p a = true
      · simp only [ha, h a List.mem_cons_self ha, if_true]; omega
      · simp only [ha, Bool.false_eq_true, if_false]; omega

def left (n : Nat) (t : Array Bool) : Nat := (List.range n).countP fun i => !t.getD i false

theorem getD_tf {t : Array Bool} {i : Nat} (h : i < t.size) : t.getD i true = t.getD i false := by
  simp [Array.getD_eq_getD_getElem?, h]

theorem ready_mem {t : Array Bool} {i : Nat} (hts : t.size = l.length) : i ∈ Region.ready .any l.toArray t ↔ i < l.length ∧ ¬ L t i ∧ ∃ o, l[i]? = some o ∧ ∀ p ∈ edges o, L t p := by
  unfold Region.ready
  rw [List.mem_filter, List.mem_range, List.size_toArray]
  constructor
  · rintro ⟨h1, h2⟩
    rw [Bool.and_eq_true] at h2
    rw [getD_tf (by omega)] at h2
    refine ⟨h1, by unfold L; have := h2.1; revert this; cases t.getD i false <;> simp, ?_⟩
    have h3 := h2.2
    rw [List.getElem?_toArray] at h3
    cases ho : l[i]? with
    | none => rw [ho] at h3; simp at h3
    | some o =>
      rw [ho] at h3
      refine ⟨o, rfl, fun p hp => ?_⟩
      obtain ⟨e, he, hb, rfl⟩ := mem_edges.1 hp
      simp only [Option.map_some, Option.getD_some, Array.all_eq_true_iff_forall_mem] at h3
      have := h3 e he
      rw [hb] at this
      simpa [L] using this
  · rintro ⟨h1, h2, o, ho, h3⟩
    refine ⟨h1, ?_⟩
    rw [Bool.and_eq_true, getD_tf (by omega)]
    refine ⟨by unfold L at h2; revert h2; cases t.getD i false <;> simp, ?_⟩
    rw [List.getElem?_toArray, ho]
    simp only [Option.map_some, Option.getD_some, Array.all_eq_true_iff_forall_mem]
    intro e he
    cases hb : Region.binds .any e with
    | false => rfl
    | true =>
      have := h3 e.on (mem_edges.2 ⟨e, he, hb, rfl⟩)
      unfold L at this
      rw [this]; rfl

theorem ready_nil (hp : Plan l its m) {t : Array Bool} (hts : t.size = l.length) (h : Region.ready .any l.toArray t = []) : ∀ i, i < l.length → L t i := by
  intro i
  induction i using Nat.strongRecOn with
  | ind i ih =>
    intro hi
    refine Classical.byContradiction fun hn => ?_
    have : i ∈ Region.ready .any l.toArray t := (ready_mem hts).2 ⟨hi, hn, _, List.getElem?_eq_getElem hi, fun p hpe => by
      have := hp.up i _ (List.getElem?_eq_getElem hi) p hpe
      exact ih p this (by omega)⟩
    rw [h] at this
    cases this

theorem draw_any (hp : Plan l its m) (hdn : ∀ o ∈ l, ∀ d, o.dst = some d → d < n) {E : List (Nat × AV)} (hE : ∀ x, tget E x = ent l its tm0 x)
    (hob : ∀ (i s : Nat) (it : It), its[i]? = some it → it.lo ≤ s → s ≤ it.hi → s ≤ m → Ob P l its E hs i s) (hm : rank its its.length = m) {H : Heap} {X : Nat} (hH : hs[m]? = some (H, X)) (hQ : Q .normal ⟨E, H, X⟩) :
    ∀ (fuel : Nat) (t : Array Bool) (a : Act) (w : World) (s : Nat), left l.length t ≤ fuel → DInv c n l its m hs tm0 t a w s → wpAny P .any l.toArray (Lift c n Q) fuel t a w := by
  have fin : ∀ (t : Array Bool) (a : Act) (w : World) (s : Nat), DInv c n l its m hs tm0 t a w s → Region.ready .any l.toArray t = [] → Lift c n Q .normal a w := by
    intro t a w s hd hr
    have hall := ready_nil hp hd.size hr
    obtain ⟨tm, H', X', ρ, S, hHs, hrep, hE1, hE2⟩ := hd.rep
    have hs : s = m := by
      refine Nat.le_antisymm hd.sm ?_
      refine Nat.le_of_not_lt fun hlt => ?_
      -- the effect of that rank is listed
      have find : ∀ (k : Nat), s < rank its k → ∃ i it, its[i]? = some it ∧ it.ef = true ∧ rank its i = s := by
        intro k
        induction k with
        | zero => intro h; simp [rank] at h
        | succ k ih =>
          intro h
          by_cases hk : s < rank its k
          · exact ih hk
          · have e : rank its (k + 1) = rank its k + (match its[k]? with | some it => if it.ef then 1 else 0 | none => 0) := by
              unfold rank
              rw [List.take_add_one, List.countP_append]
              cases hk' : its[k]? with
              | none => simp
              | some it => simp [List.countP_cons]
            cases hk' : its[k]? with
            | none => rw [hk'] at e; simp only [Nat.add_zero] at e; omega
            | some it =>
              rw [hk'] at e
              by_cases hef : it.ef = true
              · simp only [hef, if_true] at e
                exact ⟨k, it, hk', hef, by omega⟩
              · simp only [hef, Bool.false_eq_true, if_false, Nat.add_zero] at e; omega
      obtain ⟨i, it, h1, h2, h3⟩ := find its.length (by omega)
      have hil : i < l.length := by rw [hp.len]; exact (List.getElem?_eq_some_iff.1 h1).1
      have := (hd.st i it h1 h2).1 (hall i hil)
      omega
    rw [hs, hH] at hHs
    obtain ⟨rfl, rfl⟩ := Prod.mk.inj (Option.some.inj hHs)
    refine ⟨⟨E, H, X⟩, ρ, S, hQ, hrep.size, hrep.defers, fun x => ?_, hrep.sim, hrep.post, hrep.fresh, hrep.le, hrep.dom⟩
    show VR S w ρ (tget E x) _
    obtain ⟨g1, g2⟩ := ent_spec l its tm0 x hp.len hp.dist
    have : tget E x = tget tm x := by
      rw [hE]
      by_cases hx : ∃ (i : Nat) (o : Oper), l[i]? = some o ∧ o.dst = some x
      · obtain ⟨i, o, ho, hx⟩ := hx
        have hil : i < l.length := (List.getElem?_eq_some_iff.1 ho).1
        obtain ⟨it, hit⟩ : ∃ it, its[i]? = some it := ⟨_, List.getElem?_eq_getElem (by rw [← hp.len]; exact hil)⟩
        rw [g1 i o it ho hit hx, hE1 i o it x ho hit hx (hall i hil)]
      · rw [g2 (fun i o ho hx' => hx ⟨i, o, ho, hx'⟩), hE2 x (fun i o ho hx' => absurd ⟨i, o, ho, hx'⟩ hx)]
    rw [this]
    exact hrep.tmps x
  intro fuel
  induction fuel with
  | zero =>
    intro t a w s hl hd
    have hr : Region.ready .any l.toArray t = [] := by
      refine List.eq_nil_iff_forall_not_mem.2 fun i hi => ?_
      obtain ⟨h1, h2, _⟩ := (ready_mem hd.size).1 hi
      have : left l.length t = 0 := by omega
      unfold left at this
      rw [List.countP_eq_zero] at this
      have := this i (List.mem_range.2 h1)
      unfold L at h2
      exact this (by revert h2; cases t.getD i false <;> simp)
    exact ⟨hr, fin t a w s hd hr⟩
  | succ fuel ih =>
    intro t a w s hl hd
    refine ⟨fin t a w s hd, fun i hi => ?_⟩
    obtain ⟨h1, h2, o, ho, h3⟩ := (ready_mem hd.size).1 hi
    refine draw_step hp hdn hE hob hd ho h2 h3 fun a' w' s' hd' => ih _ a' w' s' ?_ hd'
    have hts : i < t.size := by rw [hd.size]; exact h1
    have := countP_less (p := fun j => !(t.setIfInBounds i true).getD j false) (q := fun j => !t.getD j false) (l := List.range l.length) (fun x _ hx => ?_) (List.mem_range.2 h1) ?_ ?_
    · unfold left at hl ⊢; omega
    · by_cases e : i = x
      · subst e
        rw [show (t.setIfInBounds i true).getD i false = true from (L_set hts).2 (.inl rfl)] at hx
        cases hx
      · rw [getD_set_ne false e] at hx; exact hx
    · unfold L at h2; revert h2; cases t.getD i false <;> simp
    · show (!(t.setIfInBounds i true).getD i false) = false
      rw [show (t.setIfInBounds i true).getD i false = true from (L_set hts).2 (.inl rfl)]; rfl

end
end Go.Proofs.Ytloddmbbfkejcaa.Abs
