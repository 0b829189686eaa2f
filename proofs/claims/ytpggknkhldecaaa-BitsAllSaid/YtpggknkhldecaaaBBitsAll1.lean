/- Texts of this session, merged: AbsN, AbsO, AbsP, AbsQ, AbsT, AKey, AKeyB, ATxnA, ATxnB, ATxnC, ATxnD, AbsR, AbsS, ATxnF, AbsX, AbsXM. -/
import Derived.Test.YtpggknkhldecaaaBBitsAll0
import Derived.Orders
import Derived.Test.YtpggknkhldecaaaProg
import Derived.RowKit
import Derived.OpenShut
import Derived.Below
import Derived.Deep.Slices
import Derived.ChangeArms
import Derived.ProofKit
import Derived.SizedLaws
import Derived.MapKept
set_option linter.unusedVariables false
set_option linter.unusedSimpArgs false
section
/-
  Regions whose order is open: one walk in the text's order serves every order. It holds of any program.
-/
namespace Go.Proofs.Ytpggknkhldecaaa.Abs

/-- What leaves the abstract heap alone. -/
def OpQ (P : Program) (op : Op) (tm : List (Nat × AV)) (h : Heap) (v : AV) : Prop := ∀ nx, OpOK P op ⟨tm, h, nx⟩ v h nx

theorem OpP.q {P : Program} {op : Op} {tm : List (Nat × AV)} {h : Heap} {v : AV} (hp : OpP P op tm h v) : OpQ P op tm h v := fun _ => hp.ok

theorem Rep.grow {c : Ctx} {n : Nat} {st : St} {ρ : Rho} {S S' : Nat → Prop} {a : Act} {w w' : World} (h : Rep c n st ρ S a w) (h1 : ∀ b, S b → S' b) (h2 : ∀ b, S' b → S b ∨ w.heap.size ≤ b) (h3 : ∀ b, S' b → b < w'.heap.size) (hw : Same w w') : Rep c n st ρ S' a w' := by
  have hr := h.same hw
  have hS : ∀ b, S b → S' b ∧ w'.heap[b]? = w'.heap[b]? := fun b hb => ⟨h1 b hb, rfl⟩
  refine ⟨hr.size, hr.defers, fun i => (hr.tmps i).mono hS (fun _ _ h => h), ⟨fun b B hb => ?_, hr.sim.inj, h3⟩, ⟨hr.post.os, hr.post.tape, hr.post.output, hr.post.size, hr.post.keep, fun b hb => h1 b (hr.post.sIn b hb), fun b hb => ?_, hr.post.own, hr.post.ids⟩, hr.fresh, hr.le, hr.dom⟩
  · rcases hr.sim.blk b B hb with ⟨r, q1, q2, q3, q4⟩ | hv
    · refine .inl ⟨r, q1, q2.mono hS (fun _ _ h => h) rfl, fun hs => ?_, q4⟩
      rcases h2 _ hs with h' | h'
      · exact q3 h'
      · have := (blk_of h hb q1).2.1; omega
    · exact .inr hv
  · rcases h2 b hb with h' | h'
    · exact hr.post.sNew b h'
    · exact .inr (Nat.le_trans h.post.size h')

structure It where
  v : AV
  ef : Bool
  lo : Nat
  hi : Nat
  ks : List Nat

def sel (ks : List Nat) (tm : List (Nat × AV)) : List (Nat × AV) := ks.map fun k => (k, tget tm k)

theorem tget_sel (ks : List Nat) (tm : List (Nat × AV)) (x : Nat) : tget (sel ks tm) x = if x ∈ ks then tget tm x else .top := by
  induction ks with
  | nil => simp [sel, tget]
  | cons k ks ih =>
    simp only [sel, List.map_cons, tget]
    by_cases e : k = x
    · subst e; simp
    · rw [if_neg e]
      unfold sel at ih
      rw [ih]
      simp [Ne.symm e]

def rank (its : List It) (i : Nat) : Nat := (its.take i).countP (fun it => it.ef)

def edges (o : Oper) : List Nat := (o.after.toList.filter fun e => Region.binds .any e).map (·.on)

theorem mem_edges {o : Oper} {p : Nat} : p ∈ edges o ↔ ∃ e ∈ o.after, Region.binds .any e = true ∧ e.on = p := by
  unfold edges
  simp only [List.mem_map, List.mem_filter, Array.mem_toList_iff]
  constructor
  · rintro ⟨e, ⟨h1, h2⟩, h3⟩; exact ⟨e, h1, h2, h3⟩
  · rintro ⟨e, h1, h2, h3⟩; exact ⟨e, ⟨h1, h2⟩, h3⟩

/-- The value that a slot has behind the region's operations. -/
def ent : List Oper → List It → List (Nat × AV) → Nat → AV
  | o :: l, it :: its, tm, x => if o.dst = some x then it.v else ent l its tm x
  | _, _, tm, x => tget tm x

section
variable (l : List Oper) (its : List It) (m : Nat)

/-- What is looked at without the values. -/
structure Plan : Prop where
  len : l.length = its.length
  up : ∀ (i : Nat) (o : Oper), l[i]? = some o → ∀ p ∈ edges o, p < i
  dist : ∀ (i j : Nat) (o o' : Oper) (d : Nat), l[i]? = some o → l[j]? = some o' → o.dst = some d → o'.dst = some d → i = j
  lo : ∀ (i : Nat) (o : Oper) (it : It), l[i]? = some o → its[i]? = some it → it.lo = 0 ∨ ∃ p ∈ edges o, ∃ q, its[p]? = some q ∧ ((q.ef = true ∧ rank its p + 1 = it.lo) ∨ it.lo ≤ q.lo)
  eff : ∀ (i : Nat) (it : It), its[i]? = some it → it.ef = true → it.lo = rank its i ∧ it.hi = rank its i ∧ rank its i < m
  hi : ∀ (i : Nat) (it : It), its[i]? = some it → m ≤ it.hi ∨ it.ef = true ∨ ∃ j o q, l[j]? = some o ∧ its[j]? = some q ∧ i ∈ edges o ∧ ((q.ef = true ∧ rank its j ≤ it.hi) ∨ q.hi ≤ it.hi)
  slots : ∀ (i : Nat) (o : Oper) (it : It), l[i]? = some o → its[i]? = some it → ∀ k ∈ it.ks, (∃ p ∈ edges o, ∃ o', l[p]? = some o' ∧ o'.dst = some k) ∨ ∀ (j : Nat) (o' : Oper), l[j]? = some o' → o'.dst = some k → i ∈ edges o'
  guard : ∀ (i : Nat) (o : Oper) (j : Nat) (b : Bool), l[i]? = some o → o.guard = some (j, b) → j ∈ edges o ∧ ∃ o' d, l[j]? = some o' ∧ o'.dst = some d

end

/-- What an operation does at a stage. -/
def Run (P : Program) (op : Op) (ef : Bool) (v : AV) (tm : List (Nat × AV)) (s : Nat) (hs : List (Heap × Nat)) (H : Heap) (X : Nat) : Prop :=
  if ef then ∃ H' X', hs[s + 1]? = some (H', X') ∧ OpOK P op ⟨tm, H, X⟩ v H' X' else OpQ P op tm H v

def Ob (P : Program) (l : List Oper) (its : List It) (F : Nat → List (Nat × AV)) (hs : List (Heap × Nat)) (i s : Nat) : Prop :=
  ∀ o it H X, l[i]? = some o → its[i]? = some it → hs[s]? = some (H, X) →
    match o.guard with
    | none => Run P o.op it.ef it.v (sel it.ks (F i)) s hs H X
    | some (j, b) => ∃ g, (∃ q, its[j]? = some q ∧ gv q.v = some g) ∧ (g = some b → Run P o.op it.ef it.v (sel it.ks (F i)) s hs H X) ∧ (g ≠ some b → it.v = .tup [] ∧ it.ef = false)

section
variable {P : Program} {c : Ctx} {n : Nat} {Q : Exit → St → Prop} {l : List Oper} {its : List It} {m : Nat} {hs : List (Heap × Nat)} {tm0 : List (Nat × AV)}

def L (t : Array Bool) (i : Nat) : Prop := t.getD i false = true

structure DInv (c : Ctx) (n : Nat) (l : List Oper) (its : List It) (m : Nat) (hs : List (Heap × Nat)) (tm0 : List (Nat × AV)) (t : Array Bool) (a : Act) (w : World) (s : Nat) : Prop where
  size : t.size = l.length
  closed : ∀ (i : Nat) (o : Oper), l[i]? = some o → L t i → ∀ p ∈ edges o, L t p
  st : ∀ (i : Nat) (it : It), its[i]? = some it → it.ef = true → (L t i ↔ rank its i < s)
  sm : s ≤ m
  rep : ∃ tm H X ρ S, hs[s]? = some (H, X) ∧ Rep c n ⟨tm, H, X⟩ ρ S a w ∧ (∀ (i : Nat) (o : Oper) (it : It) (x : Nat), l[i]? = some o → its[i]? = some it → o.dst = some x → L t i → tget tm x = it.v) ∧
    ∀ x, (∀ (i : Nat) (o : Oper), l[i]? = some o → o.dst = some x → ¬ L t i) → tget tm x = tget tm0 x

theorem rank_lt {i j : Nat} {it : It} (hij : i < j) (hi : its[i]? = some it) (he : it.ef = true) : rank its i < rank its j := by
  have hil : i < its.length := (List.getElem?_eq_some_iff.1 hi).1
  unfold rank
  have e : its.take j = its.take i ++ (its.drop i).take (j - i) := by
    rw [← List.take_add, show i + (j - i) = j from by omega]
  rw [e, List.countP_append]
  have e2 : (its.drop i).take (j - i) = it :: ((its.drop (i + 1)).take (j - i - 1)) := by
    rw [List.getElem?_eq_some_iff] at hi
    obtain ⟨_, hi⟩ := hi
    rw [List.drop_eq_getElem_cons hil, hi, show j - i = (j - i - 1) + 1 from by omega, List.take_succ_cons]
    simp
  rw [e2, List.countP_cons, he]
  simp

theorem rank_inj {i j : Nat} {it jt : It} (hi : its[i]? = some it) (hj : its[j]? = some jt) (he : it.ef = true) (he' : jt.ef = true) (h : rank its i = rank its j) : i = j := by
  rcases Nat.lt_trichotomy i j with h1 | h1 | h1
  · have := rank_lt h1 hi he; omega
  · exact h1
  · have := rank_lt h1 hj he'; omega

/-- All effects below a listed operation's bound are listed. -/
theorem lo_ok (hp : Plan l its m) {t : Array Bool} {a : Act} {w : World} {s : Nat} (hd : DInv c n l its m hs tm0 t a w s) : ∀ (k i : Nat) (o : Oper) (it : It), i < k → l[i]? = some o → its[i]? = some it → (∀ p ∈ edges o, L t p) → it.lo ≤ s := by
  intro k
  induction k with
  | zero => intro i o it hi; omega
  | succ k ih =>
    intro i o it hi ho hit hall
    rcases hp.lo i o it ho hit with h | ⟨p, hpe, q, hq, h⟩
    · omega
    · have hpi := hp.up i o ho p hpe
      have hLp := hall p hpe
      obtain ⟨op, hop⟩ : ∃ op, l[p]? = some op := ⟨_, List.getElem?_eq_getElem (by rw [hp.len]; exact (List.getElem?_eq_some_iff.1 hq).1)⟩
      rcases h with ⟨h1, h2⟩ | h1
      · have := (hd.st p q hq h1).1 hLp
        omega
      · have := ih p op q (by omega) hop hq (hd.closed p op hop hLp)
        omega

theorem hi_ok (hp : Plan l its m) {t : Array Bool} {a : Act} {w : World} {s : Nat} (hd : DInv c n l its m hs tm0 t a w s) : ∀ (k i : Nat) (it : It), l.length - i ≤ k → its[i]? = some it → ¬ L t i → s ≤ it.hi := by
  intro k
  induction k with
  | zero =>
    intro i it hk hit _
    have := (List.getElem?_eq_some_iff.1 hit).1
    rw [← hp.len] at this
    omega
  | succ k ih =>
    intro i it hk hit hn
    rcases hp.hi i it hit with h | h | ⟨j, o, q, ho, hq, he, h⟩
    · have := hd.sm; omega
    · obtain ⟨h1, h2, h3⟩ := hp.eff i it hit h
      rcases Nat.lt_or_ge (rank its i) s with hlt | hge
      · exact absurd ((hd.st i it hit h).2 hlt) hn
      · omega
    · have hij := hp.up j o ho i he
      have hnj : ¬ L t j := fun hl => hn (hd.closed j o ho hl i he)
      rcases h with ⟨h1, h2⟩ | h1
      · rcases Nat.lt_or_ge (rank its j) s with hlt | hge
        · exact absurd ((hd.st j q hq h1).2 hlt) hnj
        · omega
      · have := ih j q (by omega) hq hnj
        omega

theorem ent_spec : ∀ (l : List Oper) (its : List It) (tm : List (Nat × AV)) (x : Nat), l.length = its.length → (∀ (i j : Nat) (o o' : Oper) (d : Nat), l[i]? = some o → l[j]? = some o' → o.dst = some d → o'.dst = some d → i = j) →
    (∀ (i : Nat) (o : Oper) (it : It), l[i]? = some o → its[i]? = some it → o.dst = some x → ent l its tm x = it.v) ∧ ((∀ (i : Nat) (o : Oper), l[i]? = some o → o.dst ≠ some x) → ent l its tm x = tget tm x) := by
  intro l
  induction l with
  | nil => intro its tm x hl _; exact ⟨fun i o it h => by simp at h, fun _ => by cases its <;> rfl⟩
  | cons o l ih =>
    intro its tm x hl hd
    cases its with
    | nil => simp at hl
    | cons it its =>
      obtain ⟨h1, h2⟩ := ih its tm x (by simpa using hl) (fun i j o o' d a b e f => by have := hd (i + 1) (j + 1) o o' d a b e f; omega)
      simp only [ent]
      refine ⟨fun i o' it' ho hi hdst => ?_, fun hno => ?_⟩
      · cases i with
        | zero =>
          simp only [List.getElem?_cons_zero, Option.some.injEq] at ho hi
          subst ho; subst hi
          rw [if_pos hdst]
        | succ i =>
          have : ¬ o.dst = some x := fun e => by have := hd 0 (i + 1) o o' x rfl ho e hdst; omega
          rw [if_neg this]
          exact h1 i o' it' ho hi hdst
      · rw [if_neg (hno 0 o rfl)]
        exact h2 (fun i o' ho => hno (i + 1) o' ho)

theorem L_set {t : Array Bool} {i j : Nat} (hi : i < t.size) : L (t.setIfInBounds i true) j ↔ i = j ∨ L t j := by
  unfold L
  by_cases e : i = j
  · subst e; simp [hi]
  · rw [getD_set_ne false e]; simp [e]

/-- One step, whatever operation comes up. -/
theorem draw_step (hp : Plan l its m) (hdn : ∀ o ∈ l, ∀ d, o.dst = some d → d < n) {F : Nat → List (Nat × AV)} (hF : ∀ (i : Nat) (o : Oper) (it : It) (k : Nat), l[i]? = some o → its[i]? = some it → k ∈ it.ks → (∀ (p : Nat) (o' : Oper) (jt : It), p ∈ edges o → l[p]? = some o' → its[p]? = some jt → o'.dst = some k → tget (F i) k = jt.v) ∧
      ((∀ (j : Nat) (o' : Oper), l[j]? = some o' → o'.dst = some k → i ∈ edges o') → tget (F i) k = tget tm0 k))
    (hob : ∀ (i s : Nat) (it : It), its[i]? = some it → it.lo ≤ s → s ≤ it.hi → s ≤ m → Ob P l its F hs i s)
    {t : Array Bool} {a : Act} {w : World} {s : Nat} (hd : DInv c n l its m hs tm0 t a w s) {i : Nat} {o : Oper} (ho : l[i]? = some o) (hn : ¬ L t i) (hall : ∀ p ∈ edges o, L t p)
    {K : Act → World → Prop} {Qe : Exit → Act → World → Prop} (hK : ∀ a' w' s', DInv c n l its m hs tm0 (t.setIfInBounds i true) a' w' s' → K a' w') : wpOp P l.toArray Qe i K a w := by
  have hil : i < l.length := (List.getElem?_eq_some_iff.1 ho).1
  obtain ⟨it, hit⟩ : ∃ it, its[i]? = some it := ⟨_, List.getElem?_eq_getElem (by rw [← hp.len]; exact hil)⟩
  have hlo := lo_ok hp hd (i + 1) i o it (by omega) ho hit hall
  have hhi := hi_ok hp hd (l.length - i) i it (Nat.le_refl _) hit hn
  obtain ⟨tm, H, X, ρ, S, hHs, hrep, hE1, hE2⟩ := hd.rep
  have hO := hob i s it hit hlo hhi hd.sm o it H X ho hit hHs
  -- what the operation looks at is there
  have hmnr : Rep c n ⟨sel it.ks (F i), H, X⟩ ρ S a w := by
    refine ⟨hrep.size, hrep.defers, fun x => ?_, hrep.sim, hrep.post, hrep.fresh, hrep.le, hrep.dom⟩
    show VR S w ρ (tget (sel it.ks (F i)) x) _
    rw [tget_sel]
    split
    · rename_i hx
      obtain ⟨f1, f2⟩ := hF i o it x ho hit hx
      have hval : tget (F i) x = tget tm x := by
        rcases hp.slots i o it ho hit x hx with ⟨p, hpe, o', ho', hd'⟩ | hno
        · obtain ⟨jt, hjt⟩ : ∃ jt, its[p]? = some jt := ⟨_, List.getElem?_eq_getElem (by rw [← hp.len]; exact (List.getElem?_eq_some_iff.1 ho').1)⟩
          rw [f1 p o' jt hpe ho' hjt hd', hE1 p o' jt x ho' hjt hd' (hall p hpe)]
        · rw [f2 hno, hE2 x (fun j o' ho' hd' hL => hn (hd.closed j o' ho' hL i (hno j o' ho' hd')))]
      rw [hval]
      exact hrep.tmps x
    · exact .top
  have hset : i < t.size := by rw [hd.size]; exact hil
  -- how things stand behind it
  have next : ∀ (w' : World) (u : Value) (H' : Heap) (X' : Nat) (ρ' : Rho) (S' : Nat → Prop) (s' : Nat), Rep c n ⟨tm, H', X'⟩ ρ' S' a w' → VR S' w' ρ' it.v u → hs[s']? = some (H', X') → s' ≤ m →
      (∀ (j : Nat) (jt : It), its[j]? = some jt → jt.ef = true → (i = j ∨ L t j ↔ rank its j < s')) → DInv c n l its m hs tm0 (t.setIfInBounds i true) (a.put o.dst u) w' s' := by
    intro w' u H' X' ρ' S' s' hr' hv' hh' hs' hst'
    refine ⟨by simp [hd.size], fun j o' ho' hL p hpe => ?_, fun j jt hj he => ?_, hs', ?_⟩
    · rw [L_set hset] at hL ⊢
      rcases hL with rfl | hL
      · rw [ho] at ho'
        obtain rfl := Option.some.inj ho'
        exact .inr (hall p hpe)
      · exact .inr (hd.closed j o' ho' hL p hpe)
    · rw [L_set hset]; exact hst' j jt hj he
    · cases hdst : o.dst with
      | none =>
        refine ⟨tm, H', X', ρ', S', hh', hr', fun j o' jt x hj hjt hx hL => ?_, fun x hx => hE2 x (fun j o' hj hxd hL => hx j o' hj hxd ((L_set hset).2 (.inr hL)))⟩
        rcases (L_set hset).1 hL with rfl | hL
        · rw [ho] at hj; obtain rfl := Option.some.inj hj; rw [hdst] at hx; cases hx
        · exact hE1 j o' jt x hj hjt hx hL
      | some d =>
        refine ⟨(d, it.v) :: tm, H', X', ρ', S', hh', hr'.put d (hdn o (List.mem_of_getElem? ho) d hdst) it.v u hv', fun j o' jt x hj hjt hx hL => ?_, fun x hx => ?_⟩
        · by_cases e : d = x
          · subst e
            have : i = j := hp.dist i j o o' d ho hj hdst hx
            subst this
            rw [hit] at hjt
            obtain rfl := Option.some.inj hjt
            simp [tget]
          · simp only [tget, e, if_false]
            rcases (L_set hset).1 hL with rfl | hL
            · rw [ho] at hj; obtain rfl := Option.some.inj hj; rw [hdst] at hx; exact absurd (Option.some.inj hx) e
            · exact hE1 j o' jt x hj hjt hx hL
        · have e : d ≠ x := fun e => hx i o ho (by rw [hdst, e]) ((L_set hset).2 (.inl rfl))
          simp only [tget, e, if_false]
          exact hE2 x (fun j o' hj hxd hL => hx j o' hj hxd ((L_set hset).2 (.inr hL)))
  have hquiet : ∀ (j : Nat) (jt : It), it.ef = false → its[j]? = some jt → jt.ef = true → (i = j ∨ L t j ↔ rank its j < s) := by
    intro j jt hef hj he
    rw [← hd.st j jt hj he]
    constructor
    · rintro (rfl | h)
      · rw [hit] at hj; obtain rfl := Option.some.inj hj; rw [hef] at he; cases he
      · exact h
    · exact .inr
  have hrun : Run P o.op it.ef it.v (sel it.ks (F i)) s hs H X → o.wp P a w K Qe := by
    intro hR
    unfold Run at hR
    cases hef : it.ef with
    | true =>
      rw [hef] at hR
      simp only [if_true] at hR
      obtain ⟨H', X', hh', hop⟩ := hR
      obtain ⟨k1, k2, k3⟩ := hp.eff i it hit hef
      have hs1 : s = rank its i := by omega
      refine (hop c n ρ S a w hmnr o rfl).wp fun u w' ⟨ρ', S', r3, r4, r5, r6⟩ => ?_
      have hr' : Rep c n ⟨tm, H', X'⟩ ρ' S' a w' := ⟨r3.size, r3.defers, fun x => (hrep.tmps x).mono r6 r5, r3.sim, r3.post, r3.fresh, r3.le, r3.dom⟩
      refine hK _ _ _ (next w' u H' X' ρ' S' (s + 1) hr' r4 hh' (by omega) (fun j jt hj he => ?_))
      rw [hd.st j jt hj he]
      constructor
      · rintro (rfl | h)
        · omega
        · omega
      · intro h
        rcases Nat.lt_or_ge (rank its j) s with h' | h'
        · exact .inr h'
        · exact .inl (rank_inj hit hj hef he (by omega))
    | false =>
      rw [hef] at hR
      simp only [Bool.false_eq_true, if_false] at hR
      refine (hR X c n ρ S a w hmnr o rfl).wp fun u w' ⟨ρ', S', r3, r4, r5, r6⟩ => ?_
      have hr' : Rep c n ⟨tm, H, X⟩ ρ' S' a w' := ⟨r3.size, r3.defers, fun x => (hrep.tmps x).mono r6 r5, r3.sim, r3.post, r3.fresh, r3.le, r3.dom⟩
      exact hK _ _ _ (next w' u H X ρ' S' s hr' r4 hHs hd.sm (fun j jt => hquiet j jt hef))
  unfold wpOp
  rw [show l.toArray[i]? = some o from by rw [List.getElem?_toArray]; exact ho]
  simp only []
  cases hg : o.guard with
  | none =>
    rw [hg] at hO
    rw [if_pos (by simp [Region.wanted, hg])]
    exact .inl (hrun hO)
  | some jb =>
    obtain ⟨j, b⟩ := jb
    rw [hg] at hO
    simp only [] at hO
    obtain ⟨b', ⟨q, hq1, hq2⟩, h1, h2⟩ := hO
    obtain ⟨hje, o', d, ho', hd'⟩ := hp.guard i o j b ho hg
    have hval := hE1 j o' q d ho' hq1 hd' (hall j hje)
    have hy : yielded l.toArray a.tmps j = b' := yielded_gv hrep (d := d) (by rw [List.getElem?_toArray, ho']; exact hd') (hdn o' (List.mem_of_getElem? ho') d hd') (by rw [show (St.mk tm H X).tm = tm from rfl, hval]; exact hq2)
    by_cases e : b' = some b
    · rw [if_pos (by simp [Region.wanted, hg, hy, e])]
      exact .inl (hrun (h1 e))
    · rw [if_neg (by simp [Region.wanted, hg, hy, e])]
      obtain ⟨e1, e2⟩ := h2 e
      exact hK _ _ _ (next w undef H X ρ S s hrep (by rw [e1]; exact .tup #[] rfl (fun i x u hx _ => by simp at hx)) hHs hd.sm (fun j jt => hquiet j jt e2))

theorem countP_less {p q : Nat → Bool} : ∀ {l : List Nat}, (∀ x ∈ l, p x = true → q x = true) → ∀ {y : Nat}, y ∈ l → q y = true → p y = false → l.countP p + 1 ≤ l.countP q := by
  intro l
  induction l with
  | nil => intro _ y hy; cases hy
  | cons a l ih =>
    intro h y hy hq hp
    simp only [List.countP_cons]
    rcases List.mem_cons.1 hy with rfl | hy
    · have := List.countP_mono_left (fun x hx => h x (List.mem_cons_of_mem _ hx)) (l := l)
      simp only [hq, hp, if_true, Bool.false_eq_true, if_false]
      omega
    · have := ih (fun x hx => h x (List.mem_cons_of_mem _ hx)) hy hq hp
      by_cases ha : p a = true
      · simp only [ha, h a List.mem_cons_self ha, if_true]; omega
      · simp only [ha, Bool.false_eq_true, if_false]; omega

def left (n : Nat) (t : Array Bool) : Nat := (List.range n).countP fun i => !t.getD i false

theorem getD_tf {t : Array Bool} {i : Nat} (h : i < t.size) : t.getD i true = t.getD i false := by
  simp [Array.getD_eq_getD_getElem?, h]

theorem ready_mem {t : Array Bool} {i : Nat} (hts : t.size = l.length) : i ∈ Region.ready .any l.toArray t ↔ i < l.length ∧ ¬ L t i ∧ ∃ o, l[i]? = some o ∧ ∀ p ∈ edges o, L t p := by
  unfold Region.ready
  rw [List.mem_filter, List.mem_range, List.size_toArray]
  constructor
  · rintro ⟨h1, h2⟩
    rw [Bool.and_eq_true] at h2
    rw [getD_tf (by omega)] at h2
    refine ⟨h1, by unfold L; have := h2.1; revert this; cases t.getD i false <;> simp, ?_⟩
    have h3 := h2.2
    rw [List.getElem?_toArray] at h3
    cases ho : l[i]? with
    | none => rw [ho] at h3; simp at h3
    | some o =>
      rw [ho] at h3
      refine ⟨o, rfl, fun p hp => ?_⟩
      obtain ⟨e, he, hb, rfl⟩ := mem_edges.1 hp
      simp only [Option.map_some, Option.getD_some, Array.all_eq_true_iff_forall_mem] at h3
      have := h3 e he
      rw [hb] at this
      simpa [L] using this
  · rintro ⟨h1, h2, o, ho, h3⟩
    refine ⟨h1, ?_⟩
    rw [Bool.and_eq_true, getD_tf (by omega)]
    refine ⟨by unfold L at h2; revert h2; cases t.getD i false <;> simp, ?_⟩
    rw [List.getElem?_toArray, ho]
    simp only [Option.map_some, Option.getD_some, Array.all_eq_true_iff_forall_mem]
    intro e he
    cases hb : Region.binds .any e with
    | false => rfl
    | true =>
      have := h3 e.on (mem_edges.2 ⟨e, he, hb, rfl⟩)
      unfold L at this
      rw [this]; rfl

theorem ready_nil (hp : Plan l its m) {t : Array Bool} (hts : t.size = l.length) (h : Region.ready .any l.toArray t = []) : ∀ i, i < l.length → L t i := by
  intro i
  induction i using Nat.strongRecOn with
  | ind i ih =>
    intro hi
    refine Classical.byContradiction fun hn => ?_
    have : i ∈ Region.ready .any l.toArray t := (ready_mem hts).2 ⟨hi, hn, _, List.getElem?_eq_getElem hi, fun p hpe => by
      have := hp.up i _ (List.getElem?_eq_getElem hi) p hpe
      exact ih p this (by omega)⟩
    rw [h] at this
    cases this

theorem draw_any (hp : Plan l its m) (hdn : ∀ o ∈ l, ∀ d, o.dst = some d → d < n) {F : Nat → List (Nat × AV)} (hF : ∀ (i : Nat) (o : Oper) (it : It) (k : Nat), l[i]? = some o → its[i]? = some it → k ∈ it.ks → (∀ (p : Nat) (o' : Oper) (jt : It), p ∈ edges o → l[p]? = some o' → its[p]? = some jt → o'.dst = some k → tget (F i) k = jt.v) ∧
      ((∀ (j : Nat) (o' : Oper), l[j]? = some o' → o'.dst = some k → i ∈ edges o') → tget (F i) k = tget tm0 k)) {E : List (Nat × AV)} (hE : ∀ x, tget E x = ent l its tm0 x)
    (hob : ∀ (i s : Nat) (it : It), its[i]? = some it → it.lo ≤ s → s ≤ it.hi → s ≤ m → Ob P l its F hs i s) (hm : rank its its.length = m) {H : Heap} {X : Nat} (hH : hs[m]? = some (H, X)) (hQ : Q .normal ⟨E, H, X⟩) :
    ∀ (fuel : Nat) (t : Array Bool) (a : Act) (w : World) (s : Nat), left l.length t ≤ fuel → DInv c n l its m hs tm0 t a w s → wpAny P .any l.toArray (Lift c n Q) fuel t a w := by
  have fin : ∀ (t : Array Bool) (a : Act) (w : World) (s : Nat), DInv c n l its m hs tm0 t a w s → Region.ready .any l.toArray t = [] → Lift c n Q .normal a w := by
    intro t a w s hd hr
    have hall := ready_nil hp hd.size hr
    obtain ⟨tm, H', X', ρ, S, hHs, hrep, hE1, hE2⟩ := hd.rep
    have hs : s = m := by
      refine Nat.le_antisymm hd.sm ?_
      refine Nat.le_of_not_lt fun hlt => ?_
      -- the effect of that rank is listed
      have find : ∀ (k : Nat), s < rank its k → ∃ i it, its[i]? = some it ∧ it.ef = true ∧ rank its i = s := by
        intro k
        induction k with
        | zero => intro h; simp [rank] at h
        | succ k ih =>
          intro h
          by_cases hk : s < rank its k
          · exact ih hk
          · have e : rank its (k + 1) = rank its k + (match its[k]? with | some it => if it.ef then 1 else 0 | none => 0) := by
              unfold rank
              rw [List.take_add_one, List.countP_append]
              cases hk' : its[k]? with
              | none => simp
              | some it => simp [List.countP_cons]
            cases hk' : its[k]? with
            | none => rw [hk'] at e; simp only [Nat.add_zero] at e; omega
            | some it =>
              rw [hk'] at e
              by_cases hef : it.ef = true
              · simp only [hef, if_true] at e
                exact ⟨k, it, hk', hef, by omega⟩
              · simp only [hef, Bool.false_eq_true, if_false, Nat.add_zero] at e; omega
      obtain ⟨i, it, h1, h2, h3⟩ := find its.length (by omega)
      have hil : i < l.length := by rw [hp.len]; exact (List.getElem?_eq_some_iff.1 h1).1
      have := (hd.st i it h1 h2).1 (hall i hil)
      omega
    rw [hs, hH] at hHs
    obtain ⟨rfl, rfl⟩ := Prod.mk.inj (Option.some.inj hHs)
    refine ⟨⟨E, H, X⟩, ρ, S, hQ, hrep.size, hrep.defers, fun x => ?_, hrep.sim, hrep.post, hrep.fresh, hrep.le, hrep.dom⟩
    show VR S w ρ (tget E x) _
    obtain ⟨g1, g2⟩ := ent_spec l its tm0 x hp.len hp.dist
    have : tget E x = tget tm x := by
      rw [hE]
      by_cases hx : ∃ (i : Nat) (o : Oper), l[i]? = some o ∧ o.dst = some x
      · obtain ⟨i, o, ho, hx⟩ := hx
        have hil : i < l.length := (List.getElem?_eq_some_iff.1 ho).1
        obtain ⟨it, hit⟩ : ∃ it, its[i]? = some it := ⟨_, List.getElem?_eq_getElem (by rw [← hp.len]; exact hil)⟩
        rw [g1 i o it ho hit hx, hE1 i o it x ho hit hx (hall i hil)]
      · rw [g2 (fun i o ho hx' => hx ⟨i, o, ho, hx'⟩), hE2 x (fun i o ho hx' => absurd ⟨i, o, ho, hx'⟩ hx)]
    rw [this]
    exact hrep.tmps x
  intro fuel
  induction fuel with
  | zero =>
    intro t a w s hl hd
    have hr : Region.ready .any l.toArray t = [] := by
      refine List.eq_nil_iff_forall_not_mem.2 fun i hi => ?_
      obtain ⟨h1, h2, _⟩ := (ready_mem hd.size).1 hi
      have : left l.length t = 0 := by omega
      unfold left at this
      rw [List.countP_eq_zero] at this
      have := this i (List.mem_range.2 h1)
      unfold L at h2
      exact this (by revert h2; cases t.getD i false <;> simp)
    exact ⟨hr, fin t a w s hd hr⟩
  | succ fuel ih =>
    intro t a w s hl hd
    refine ⟨fin t a w s hd, fun i hi => ?_⟩
    obtain ⟨h1, h2, o, ho, h3⟩ := (ready_mem hd.size).1 hi
    refine draw_step hp hdn hF hob hd ho h2 h3 fun a' w' s' hd' => ih _ a' w' s' ?_ hd'
    have hts : i < t.size := by rw [hd.size]; exact h1
    have := countP_less (p := fun j => !(t.setIfInBounds i true).getD j false) (q := fun j => !t.getD j false) (l := List.range l.length) (fun x _ hx => ?_) (List.mem_range.2 h1) ?_ ?_
    · unfold left at hl ⊢; omega
    · by_cases e : i = x
      · subst e
        rw [show (t.setIfInBounds i true).getD i false = true from (L_set hts).2 (.inl rfl)] at hx
        cases hx
      · rw [getD_set_ne false e] at hx; exact hx
    · unfold L at h2; revert h2; cases t.getD i false <;> simp
    · show (!(t.setIfInBounds i true).getD i false) = false
      rw [show (t.setIfInBounds i true).getD i false = true from (L_set hts).2 (.inl rfl)]; rfl

end
end Go.Proofs.Ytpggknkhldecaaa.Abs
end
section
/-
  Regions whose order is open: the walk in the text's order, and what is looked at behind it. It holds of any program.
-/
namespace Go.Proofs.Ytpggknkhldecaaa.Abs

/-- Does the guard let it run? -/
def Gd (its : List It) (g : Option (Nat × Bool)) (r : Bool) : Prop :=
  match g with
  | none => r = true
  | some (j, b) => ∃ q g, its[j]? = some q ∧ gv q.v = some g ∧ r = (g == some b)

inductive Col (P : Program) (st0 : St) : List Oper → List It → List (Heap × Nat) → List Nat → St → Prop
  | nil : Col P st0 [] [] [(st0.h, st0.nx)] [] st0
  | q {l its hs fr st o it} (k : Col P st0 l its hs fr st) (hg : Gd its o.guard true) (he : it.ef = false) (h : OpQ P o.op (sel it.ks st.tm) st.h it.v) : Col P st0 (l ++ [o]) (its ++ [it]) hs fr (putA o.dst it.v st)
  | f {l its hs fr st o it} (k : Col P st0 l its hs fr st) (hg : Gd its o.guard true) (he : it.ef = false) (h : ∀ H, OpQ P o.op (sel it.ks st.tm) H it.v) : Col P st0 (l ++ [o]) (its ++ [it]) hs (its.length :: fr) (putA o.dst it.v st)
  | e {l its hs fr st o it h' nx'} (k : Col P st0 l its hs fr st) (hg : Gd its o.guard true) (he : it.ef = true) (h : OpOK P o.op ⟨sel it.ks st.tm, st.h, st.nx⟩ it.v h' nx') : Col P st0 (l ++ [o]) (its ++ [it]) (hs ++ [(h', nx')]) fr (putA o.dst it.v ⟨st.tm, h', nx'⟩)
  | s {l its hs fr st o it} (k : Col P st0 l its hs fr st) (hg : Gd its o.guard false) (he : it.ef = false) (hv : it.v = .tup []) : Col P st0 (l ++ [o]) (its ++ [it]) hs (its.length :: fr) (putA o.dst (.tup []) st)

theorem Gd.more {its : List It} {g : Option (Nat × Bool)} {r : Bool} (h : Gd its g r) (it : It) : Gd (its ++ [it]) g r := by
  unfold Gd at *
  split
  · exact h
  · obtain ⟨q, b', h1, h2, h3⟩ := h
    exact ⟨q, b', by rw [List.getElem?_append_left (List.getElem?_eq_some_iff.1 h1).1]; exact h1, h2, h3⟩

theorem rank_more (its : List It) (it : It) {i : Nat} (h : i ≤ its.length) : rank (its ++ [it]) i = rank its i := by
  unfold rank
  rw [List.take_append_of_le_length h]

theorem rank_snoc (its : List It) (it : It) : rank (its ++ [it]) (its.length + 1) = rank its its.length + (if it.ef then 1 else 0) := by
  unfold rank
  rw [List.take_of_length_le (by simp), List.take_of_length_le (by simp), List.countP_append, List.countP_cons]
  simp

/-- What is known of operation i. -/
def Known (P : Program) (its : List It) (hs : List (Heap × Nat)) (free : Bool) (i : Nat) (o : Oper) (it : It) (tm : List (Nat × AV)) : Prop :=
  ∃ r, Gd its o.guard r ∧ (r = true → (∃ H X, hs[rank its i]? = some (H, X) ∧ Run P o.op it.ef it.v (sel it.ks tm) (rank its i) hs H X) ∧ (free = true → it.ef = false ∧ ∀ H, OpQ P o.op (sel it.ks tm) H it.v)) ∧ (r = false → it.v = .tup [] ∧ it.ef = false)

structure Facts (P : Program) (st0 : St) (l : List Oper) (its : List It) (hs : List (Heap × Nat)) (fr : List Nat) (st : St) : Prop where
  len : l.length = its.length
  hlen : hs.length = rank its its.length + 1
  last : hs[rank its its.length]? = some (st.h, st.nx)
  zero : hs[0]? = some (st0.h, st0.nx)
  known : ∀ (i : Nat) (o : Oper) (it : It), l[i]? = some o → its[i]? = some it → ∃ tm, Known P its hs (fr.contains i) i o it tm ∧ (∀ k, (∀ (j : Nat) (o' : Oper), i ≤ j → l[j]? = some o' → o'.dst ≠ some k) → tget st.tm k = tget tm k) ∧
    (∀ (j : Nat) (o' : Oper) (jt : It) (x : Nat), j < i → l[j]? = some o' → its[j]? = some jt → o'.dst = some x → (∀ (k : Nat) (o'' : Oper), j < k → k < i → l[k]? = some o'' → o''.dst ≠ some x) → tget tm x = jt.v) ∧
    ∀ x, (∀ (j : Nat) (o' : Oper), j < i → l[j]? = some o' → o'.dst ≠ some x) → tget tm x = tget st0.tm x
  val : ∀ (i : Nat) (o : Oper) (it : It) (x : Nat), l[i]? = some o → its[i]? = some it → o.dst = some x → (∀ (j : Nat) (o' : Oper), i < j → l[j]? = some o' → o'.dst ≠ some x) → tget st.tm x = it.v
  old : ∀ x, (∀ (i : Nat) (o : Oper), l[i]? = some o → o.dst ≠ some x) → tget st.tm x = tget st0.tm x
  frs : ∀ i ∈ fr, i < its.length

theorem tget_putA (d : Option Nat) (v : AV) (st : St) (x : Nat) : tget (putA d v st).tm x = if d = some x then v else tget st.tm x := by
  cases d with
  | none => simp [putA]
  | some d =>
    simp only [putA, tget, Option.some.injEq]

theorem putA_h (d : Option Nat) (v : AV) (st : St) : (putA d v st).h = st.h := by cases d <;> rfl
theorem putA_nx (d : Option Nat) (v : AV) (st : St) : (putA d v st).nx = st.nx := by cases d <;> rfl

theorem snoc_get {α : Type} {l : List α} {o x : α} {i : Nat} (h : (l ++ [o])[i]? = some x) : (i < l.length ∧ l[i]? = some x) ∨ (i = l.length ∧ x = o) := by
  rcases Nat.lt_trichotomy i l.length with h1 | h1 | h1
  · rw [List.getElem?_append_left h1] at h; exact .inl ⟨h1, h⟩
  · subst h1; simp at h; exact .inr ⟨rfl, h.symm⟩
  · rw [List.getElem?_eq_none (by simp; omega)] at h; cases h

theorem Run.more {P : Program} {op : Op} {ef : Bool} {v : AV} {tm : List (Nat × AV)} {s : Nat} {hs : List (Heap × Nat)} {H : Heap} {X : Nat} (h : Run P op ef v tm s hs H X) (hs' : List (Heap × Nat)) : Run P op ef v tm s (hs ++ hs') H X := by
  unfold Run at *
  split
  · rename_i he
    rw [if_pos he] at h
    obtain ⟨H', X', h1, h2⟩ := h
    exact ⟨H', X', by rw [List.getElem?_append_left (List.getElem?_eq_some_iff.1 h1).1]; exact h1, h2⟩
  · rename_i he
    rw [if_neg he] at h
    exact h

theorem Known.more {P : Program} {its : List It} {hs : List (Heap × Nat)} {free : Bool} {i : Nat} {o : Oper} {it : It} {tm : List (Nat × AV)} (h : Known P its hs free i o it tm) (jt : It) (hs' : List (Heap × Nat)) (hi : i ≤ its.length) : Known P (its ++ [jt]) (hs ++ hs') free i o it tm := by
  obtain ⟨r, h1, h2, h3⟩ := h
  refine ⟨r, h1.more jt, fun hr => ?_, h3⟩
  obtain ⟨⟨H, X, h4, h5⟩, h6⟩ := h2 hr
  rw [rank_more its jt hi]
  exact ⟨⟨H, X, by rw [List.getElem?_append_left (List.getElem?_eq_some_iff.1 h4).1]; exact h4, h5.more hs'⟩, h6⟩

theorem Facts.snoc {P : Program} {st0 : St} {l : List Oper} {its : List It} {hs hs' : List (Heap × Nat)} {fr fr' : List Nat} {st st' : St} (h : Facts P st0 l its hs fr st) (o : Oper) (it : It) (htm : st'.tm = (putA o.dst it.v st).tm)
    (hlen : hs'.length = if it.ef then 1 else 0) (hlast : (hs ++ hs')[rank its its.length + (if it.ef then 1 else 0)]? = some (st'.h, st'.nx)) (hfr : ∀ i, i < its.length → fr'.contains i = fr.contains i) (hfl : ∀ i ∈ fr', i < its.length + 1)
    (hk : Known P (its ++ [it]) (hs ++ hs') (fr'.contains its.length) its.length o it st.tm) : Facts P st0 (l ++ [o]) (its ++ [it]) (hs ++ hs') fr' st' := by
  have hl := h.len
  refine ⟨by simp [hl], by simp only [List.length_append, List.length_cons, List.length_nil, Nat.zero_add]; rw [rank_snoc, h.hlen, hlen]; omega, by simp only [List.length_append, List.length_cons, List.length_nil, Nat.zero_add]; rw [rank_snoc]; exact hlast, ?_, ?_, ?_, ?_, fun i hi => by simpa using hfl i hi⟩
  · rw [List.getElem?_append_left (by rw [h.hlen]; omega)]; exact h.zero
  · intro i o' it' ho hit
    rcases snoc_get ho with ⟨h1, h2⟩ | ⟨h1, h2⟩
    · rcases snoc_get hit with ⟨h3, h4⟩ | ⟨h3, h4⟩
      · obtain ⟨tm, k1, k2, k3, k4⟩ := h.known i o' it' h2 h4
        refine ⟨tm, by rw [hfr i h3]; exact k1.more it hs' (by omega), fun k hk => ?_, fun j o'' jt x hj ho'' hjt hd hno => ?_, fun x hno => k4 x fun j o'' hj ho'' => hno j o'' hj (by rw [List.getElem?_append_left (List.getElem?_eq_some_iff.1 ho'').1]; exact ho'')⟩
        · rw [htm, tget_putA, if_neg (hk l.length o (by omega) (by simp))]
          exact k2 k (fun j o'' hij hj => hk j o'' hij (by rw [List.getElem?_append_left (List.getElem?_eq_some_iff.1 hj).1]; exact hj))
        · rw [List.getElem?_append_left (by omega)] at ho'' hjt
          exact k3 j o'' jt x hj ho'' hjt hd (fun k o3 e1 e2 e3 => hno k o3 e1 e2 (by rw [List.getElem?_append_left (List.getElem?_eq_some_iff.1 e3).1]; exact e3))
      · omega
    · rcases snoc_get hit with ⟨h3, h4⟩ | ⟨h3, h4⟩
      · omega
      · subst h2; subst h4; subst h3
        refine ⟨st.tm, hk, fun k hk => ?_, fun j o'' jt x hj ho'' hjt hd hno => ?_, fun x hno => ?_⟩
        · rw [htm, tget_putA, if_neg (hk l.length o' (by omega) (by simp))]
        · rw [List.getElem?_append_left (by omega)] at ho'' hjt
          exact h.val j o'' jt x ho'' hjt hd (fun k o3 e1 e3 => hno k o3 e1 (by have := (List.getElem?_eq_some_iff.1 e3).1; omega) (by rw [List.getElem?_append_left (List.getElem?_eq_some_iff.1 e3).1]; exact e3))
        · exact h.old x (fun j o3 e3 => hno j o3 (by have := (List.getElem?_eq_some_iff.1 e3).1; omega) (by rw [List.getElem?_append_left (List.getElem?_eq_some_iff.1 e3).1]; exact e3))
  · intro i o' it' x ho hit hx hno
    rw [htm, tget_putA]
    rcases snoc_get ho with ⟨h1, h2⟩ | ⟨h1, h2⟩
    · rcases snoc_get hit with ⟨h3, h4⟩ | ⟨h3, h4⟩
      · rw [if_neg (hno l.length o h1 (by simp))]
        exact h.val i o' it' x h2 h4 hx (fun j o'' hij hj => hno j o'' hij (by rw [List.getElem?_append_left (List.getElem?_eq_some_iff.1 hj).1]; exact hj))
      · omega
    · rcases snoc_get hit with ⟨h3, h4⟩ | ⟨h3, h4⟩
      · omega
      · subst h2; subst h4
        rw [if_pos hx]
  · intro x hno
    rw [htm, tget_putA, if_neg (hno l.length o (by simp))]
    exact h.old x (fun i o' hi => hno i o' (by rw [List.getElem?_append_left (List.getElem?_eq_some_iff.1 hi).1]; exact hi))

theorem Col.facts {P : Program} {st0 : St} {l : List Oper} {its : List It} {hs : List (Heap × Nat)} {fr : List Nat} {st : St} (h : Col P st0 l its hs fr st) : Facts P st0 l its hs fr st := by
  have cons_c : ∀ (fr : List Nat) (n i : Nat), i < n → (n :: fr).contains i = fr.contains i := fun fr n i hi => by
    rw [List.contains_cons]
    have : (i == n) = false := by simp; omega
    rw [this]; rfl
  induction h with
  | nil => exact ⟨rfl, rfl, rfl, rfl, fun i o it h => by simp at h, fun i o it x h => by simp at h, fun _ _ => rfl, fun i hi => by cases hi⟩
  | @q l its hs fr st o it k hg he h ih =>
    have := ih.snoc o it (st' := putA o.dst it.v st) (hs' := []) (fr' := fr) rfl (by rw [he]; rfl) (by rw [he, putA_h, putA_nx]; simpa using ih.last) (fun _ _ => rfl) (fun i hi => Nat.lt_succ_of_lt (ih.frs i hi)) ⟨true, hg.more it, fun _ => ⟨⟨st.h, st.nx, by
      rw [rank_more its it (Nat.le_refl _), List.append_nil]; exact ih.last, by unfold Run; rw [he]; exact h⟩, fun hc => by
        have := ih.frs its.length (by simpa using hc)
        omega⟩, fun e => by cases e⟩
    rwa [List.append_nil] at this
  | @f l its hs fr st o it k hg he h ih =>
    have := ih.snoc o it (st' := putA o.dst it.v st) (hs' := []) (fr' := its.length :: fr) rfl (by rw [he]; rfl) (by rw [he, putA_h, putA_nx]; simpa using ih.last) (fun i hi => cons_c fr _ i hi) (fun i hi => by
      rcases List.mem_cons.1 hi with rfl | hi
      · omega
      · have := ih.frs i hi; omega) ⟨true, hg.more it, fun _ => ⟨⟨st.h, st.nx, by
      rw [rank_more its it (Nat.le_refl _), List.append_nil]; exact ih.last, by unfold Run; rw [he]; exact h _⟩, fun _ => ⟨he, h⟩⟩, fun e => by cases e⟩
    rwa [List.append_nil] at this
  | @e l its hs fr st o it h' nx' k hg he h ih =>
    exact ih.snoc o it (st' := putA o.dst it.v ⟨st.tm, h', nx'⟩) (hs' := [(h', nx')]) (fr' := fr) (by cases o.dst <;> rfl) (by rw [he]; rfl) (by rw [he, putA_h, putA_nx, List.getElem?_append_right (by rw [ih.hlen]; exact Nat.le_refl _), ih.hlen]; simp) (fun _ _ => rfl) (fun i hi => Nat.lt_succ_of_lt (ih.frs i hi))
      ⟨true, hg.more it, fun _ => ⟨⟨st.h, st.nx, by
        rw [rank_more its it (Nat.le_refl _), List.getElem?_append_left (by rw [ih.hlen]; omega)]; exact ih.last, by
          unfold Run
          rw [he, rank_more its it (Nat.le_refl _)]
          exact ⟨h', nx', by rw [List.getElem?_append_right (by rw [ih.hlen]; exact Nat.le_refl _), ih.hlen]; simp, h⟩⟩, fun hc => by
        have := ih.frs its.length (by simpa using hc)
        omega⟩, fun e => by cases e⟩
  | @s l its hs fr st o it k hg he hv ih =>
    have := ih.snoc o it (st' := putA o.dst (.tup []) st) (hs' := []) (fr' := its.length :: fr) (by rw [hv]) (by rw [he]; rfl) (by rw [he, putA_h, putA_nx]; simpa using ih.last) (fun i hi => cons_c fr _ i hi) (fun i hi => by
      rcases List.mem_cons.1 hi with rfl | hi
      · omega
      · have := ih.frs i hi; omega) ⟨false, hg.more it, (fun e => by cases e), fun _ => ⟨hv, he⟩⟩
    rwa [List.append_nil] at this

def dstIs (o : Oper) (k : Nat) : Bool := match o.dst with | some d => Nat.beq d k | none => false
theorem dstIs_iff {o : Oper} {k : Nat} : dstIs o k = true ↔ o.dst = some k := by
  unfold dstIs
  cases o.dst with
  | none => simp
  | some d => simp

def chk1 (l : List Oper) (its : List It) (m i : Nat) (o : Oper) (it : It) : Bool :=
  (edges o).all (fun p => Nat.blt p i) &&
  (match o.dst with | none => true | some d => (l.take i).all fun o' => !dstIs o' d) &&
  (Nat.beq it.lo 0 || (edges o).any fun p => match its[p]? with | some q => (q.ef && Nat.beq (rank its p + 1) it.lo) || Nat.ble it.lo q.lo | none => false) &&
  (if it.ef then Nat.beq it.lo (rank its i) && Nat.beq it.hi (rank its i) && Nat.blt (rank its i) m else Nat.ble m it.hi || (List.range l.length).any fun j => match l[j]?, its[j]? with
    | some o', some q => (edges o').contains i && ((q.ef && Nat.ble (rank its j) it.hi) || Nat.ble q.hi it.hi)
    | _, _ => false) &&
  (it.ks.all fun k => ((edges o).any fun p => match l[p]? with | some o' => dstIs o' k | none => false) || l.all fun o' => !dstIs o' k || (edges o').contains i) &&
  (match o.guard with | none => true | some (j, _) => (edges o).contains j && match l[j]? with | some o' => o'.dst.isSome | none => false)

def chk (l : List Oper) (its : List It) (m : Nat) : Bool :=
  Nat.beq l.length its.length && (List.range l.length).all fun i => match l[i]?, its[i]? with
    | some o, some it => chk1 l its m i o it
    | _, _ => true

theorem chk_plan {l : List Oper} {its : List It} {m : Nat} (h : chk l its m = true) : Plan l its m := by
  unfold chk at h
  rw [Bool.and_eq_true] at h
  obtain ⟨h0, h⟩ := h
  have hlen : l.length = its.length := Nat.eq_of_beq_eq_true h0
  rw [List.all_eq_true] at h
  have one : ∀ (i : Nat) (o : Oper) (it : It), l[i]? = some o → its[i]? = some it → chk1 l its m i o it = true := fun i o it ho hi => by
    have := h i (List.mem_range.2 (List.getElem?_eq_some_iff.1 ho).1)
    rw [ho, hi] at this
    exact this
  have it_of : ∀ (i : Nat) (o : Oper), l[i]? = some o → ∃ it, its[i]? = some it := fun i o ho => ⟨_, List.getElem?_eq_getElem (by rw [← hlen]; exact (List.getElem?_eq_some_iff.1 ho).1)⟩
  have o_of : ∀ (i : Nat) (it : It), its[i]? = some it → ∃ o, l[i]? = some o := fun i it ho => ⟨_, List.getElem?_eq_getElem (by rw [hlen]; exact (List.getElem?_eq_some_iff.1 ho).1)⟩
  have parts : ∀ (i : Nat) (o : Oper) (it : It), l[i]? = some o → its[i]? = some it → _ := fun i o it ho hi => by
    have := one i o it ho hi
    unfold chk1 at this
    simp only [Bool.and_eq_true] at this
    exact this
  have dist : ∀ (i j : Nat) (o o' : Oper) (d : Nat), j < i → l[i]? = some o → l[j]? = some o' → o.dst = some d → o'.dst = some d → False := fun i j o o' d hij ho ho' hd hd' => by
    obtain ⟨it, hit⟩ := it_of i o ho
    obtain ⟨⟨⟨⟨⟨_, h2⟩, _⟩, _⟩, _⟩, _⟩ := parts i o it ho hit
    rw [hd] at h2
    simp only [] at h2
    rw [List.all_eq_true] at h2
    have hm : o' ∈ l.take i := List.mem_of_getElem? (i := j) (by rw [List.getElem?_take_of_lt hij]; exact ho')
    have := h2 o' hm
    rw [dstIs_iff.2 hd'] at this
    cases this
  refine ⟨hlen, fun i o ho p hp => ?_, fun i j o o' d ho ho' hd hd' => ?_, fun i o it ho hit => ?_, fun i it hit he => ?_, fun i it hit => ?_, fun i o it ho hit k hk => ?_, fun i o j b ho hg => ?_⟩
  · obtain ⟨it, hit⟩ := it_of i o ho
    obtain ⟨⟨⟨⟨⟨h1, _⟩, _⟩, _⟩, _⟩, _⟩ := parts i o it ho hit
    rw [List.all_eq_true] at h1
    have := h1 p hp
    simpa using this
  · rcases Nat.lt_trichotomy i j with h1 | h1 | h1
    · exact (dist j i o' o d h1 ho' ho hd' hd).elim
    · exact h1
    · exact (dist i j o o' d h1 ho ho' hd hd').elim
  · obtain ⟨⟨⟨⟨⟨_, _⟩, h3⟩, _⟩, _⟩, _⟩ := parts i o it ho hit
    rw [Bool.or_eq_true] at h3
    rcases h3 with h3 | h3
    · exact .inl (Nat.eq_of_beq_eq_true h3)
    · rw [List.any_eq_true] at h3
      obtain ⟨p, hp, h3⟩ := h3
      refine .inr ⟨p, hp, ?_⟩
      cases hq : its[p]? with
      | none => rw [hq] at h3; cases h3
      | some q =>
        rw [hq] at h3
        simp only [Bool.or_eq_true, Bool.and_eq_true] at h3
        exact ⟨q, rfl, h3.imp (fun h => ⟨h.1, Nat.eq_of_beq_eq_true h.2⟩) Nat.le_of_ble_eq_true⟩
  · obtain ⟨o, ho⟩ := o_of i it hit
    obtain ⟨⟨⟨⟨⟨_, _⟩, _⟩, h4⟩, _⟩, _⟩ := parts i o it ho hit
    rw [if_pos he] at h4
    simp only [Bool.and_eq_true] at h4
    exact ⟨Nat.eq_of_beq_eq_true h4.1.1, Nat.eq_of_beq_eq_true h4.1.2, by simpa using h4.2⟩
  · obtain ⟨o, ho⟩ := o_of i it hit
    obtain ⟨⟨⟨⟨⟨_, _⟩, _⟩, h4⟩, _⟩, _⟩ := parts i o it ho hit
    by_cases he : it.ef = true
    · exact .inr (.inl he)
    · rw [if_neg he] at h4
      rw [Bool.or_eq_true] at h4
      rcases h4 with h4 | h4
      · exact .inl (Nat.le_of_ble_eq_true h4)
      · rw [List.any_eq_true] at h4
        obtain ⟨j, hj, h4⟩ := h4
        refine .inr (.inr ?_)
        cases ho' : l[j]? with
        | none => rw [ho'] at h4; cases h4
        | some o' =>
          obtain ⟨q, hq⟩ := it_of j o' ho'
          rw [ho', hq] at h4
          simp only [Bool.and_eq_true, Bool.or_eq_true] at h4
          exact ⟨j, o', q, ho', hq, by simpa using h4.1, h4.2.imp (fun h => ⟨h.1, Nat.le_of_ble_eq_true h.2⟩) Nat.le_of_ble_eq_true⟩
  · obtain ⟨⟨⟨⟨⟨_, _⟩, _⟩, _⟩, h5⟩, _⟩ := parts i o it ho hit
    rw [List.all_eq_true] at h5
    have h5 := h5 k hk
    rw [Bool.or_eq_true] at h5
    rcases h5 with h5 | h5
    · rw [List.any_eq_true] at h5
      obtain ⟨p, hp, h5⟩ := h5
      cases ho' : l[p]? with
      | none => rw [ho'] at h5; cases h5
      | some o' => rw [ho'] at h5; exact .inl ⟨p, hp, o', ho', dstIs_iff.1 h5⟩
    · rw [List.all_eq_true] at h5
      refine .inr fun j o' hj hd => ?_
      have := h5 o' (List.mem_of_getElem? hj)
      rw [dstIs_iff.2 hd] at this
      simpa using this
  · obtain ⟨it, hit⟩ := it_of i o ho
    obtain ⟨_, h6⟩ := parts i o it ho hit
    rw [hg] at h6
    simp only [Bool.and_eq_true] at h6
    refine ⟨by simpa using h6.1, ?_⟩
    cases ho' : l[j]? with
    | none => rw [ho'] at h6; cases h6.2
    | some o' =>
      rw [ho'] at h6
      obtain ⟨d, hd⟩ := Option.isSome_iff_exists.1 h6.2
      exact ⟨o', d, rfl, hd⟩

/-- Where each operation may stand that is not free: there it is told what it does. -/
def more (l : List Oper) (its : List It) (fr : List Nat) (ps : List (Nat × Nat)) (m : Nat) : Bool :=
  (List.range its.length).all fun i => match its[i]? with
    | some it => it.ef || fr.contains i || (List.range (m + 1)).all fun s => Nat.blt s it.lo || Nat.blt it.hi s || Nat.beq s (rank its i) || ((it.ks.all fun k => (l.drop i).all fun o' => !dstIs o' k) && ps.any fun p => Nat.beq p.1 i && Nat.beq p.2 s)
    | none => true

def At (P : Program) (l : List Oper) (its : List It) (hs : List (Heap × Nat)) (E : List (Nat × AV)) (i s : Nat) : Prop :=
  match l[i]?, its[i]?, hs[s]? with
  | some o, some it, some (H, _) => ∃ tm1, selS E it.ks = some tm1 ∧ OpQ P o.op tm1 H it.v
  | _, _, _ => True

def Ats (P : Program) (l : List Oper) (its : List It) (hs : List (Heap × Nat)) (E : List (Nat × AV)) : List (Nat × Nat) → Prop
  | [] => True
  | p :: ps => At P l its hs E p.1 p.2 ∧ Ats P l its hs E ps

theorem Ats.get {P : Program} {l : List Oper} {its : List It} {hs : List (Heap × Nat)} {E : List (Nat × AV)} : ∀ {ps : List (Nat × Nat)}, Ats P l its hs E ps → ∀ p ∈ ps, At P l its hs E p.1 p.2 := by
  intro ps
  induction ps with
  | nil => intro _ p hp; cases hp
  | cons q ps ih =>
    intro h p hp
    rcases List.mem_cons.1 hp with rfl | hp
    · exact h.1
    · exact ih h.2 p hp

theorem selS_spec {tm : List (Nat × AV)} : ∀ (ks : List Nat) (tm1 : List (Nat × AV)), selS tm ks = some tm1 → tm1 = sel ks tm := by
  intro ks
  induction ks with
  | nil => intro tm1 h; exact (Option.some.inj h).symm
  | cons k ks ih =>
    intro tm1 h
    simp only [selS] at h
    split at h
    · rename_i v r h1 h2
      rw [← Option.some.inj h, ih r h2]
      simp only [sel, List.map_cons, tgetS_spec _ _ _ h1]
    · cases h

theorem sel_congr {ks : List Nat} {tm tm' : List (Nat × AV)} (h : ∀ k ∈ ks, tget tm k = tget tm' k) : sel ks tm = sel ks tm' := by
  unfold sel
  exact List.map_congr_left fun k hk => by rw [h k hk]

section
variable {P : Program} {c : Ctx} {n : Nat} {Q : Exit → St → Prop} {id : Nat}

theorem draw_end {l : List Oper} {its : List It} {hs : List (Heap × Nat)} {fr : List Nat} {st0 st : St} (ps : List (Nat × Nat)) (hm : P.follows .mixedOrders = true) (hcol : Col P st0 l its hs fr st) (hchk : chk l its (rank its its.length) = true)
    (hdn : (l.all fun o => match o.dst with | some d => Nat.blt d n | none => true) = true) (hmore : more l its fr ps (rank its its.length) = true) (hx : Ats P l its hs st.tm ps) (hQ : Q .normal st) : AW P c n (.region id l.toArray true) Q st0 := by
  intro ρ S a w hr
  have hp := chk_plan hchk
  have hf := hcol.facts
  have hE : ∀ x, tget st.tm x = ent l its st0.tm x := fun x => by
    obtain ⟨g1, g2⟩ := ent_spec l its st0.tm x hp.len hp.dist
    by_cases hx : ∃ (i : Nat) (o : Oper), l[i]? = some o ∧ o.dst = some x
    · obtain ⟨i, o, ho, hx⟩ := hx
      obtain ⟨it, hit⟩ : ∃ it, its[i]? = some it := ⟨_, List.getElem?_eq_getElem (by rw [← hp.len]; exact (List.getElem?_eq_some_iff.1 ho).1)⟩
      rw [g1 i o it ho hit hx]
      exact hf.val i o it x ho hit hx (fun j o' hij hj hd => by have := hp.dist i j o o' x ho hj hx hd; omega)
    · rw [g2 (fun i o ho hx' => hx ⟨i, o, ho, hx'⟩)]
      exact hf.old x (fun i o ho hx' => hx ⟨i, o, ho, hx'⟩)
  -- what each operation saw
  obtain ⟨F, hFF⟩ : ∃ F : Nat → List (Nat × AV), ∀ (i : Nat) (o : Oper) (it : It), l[i]? = some o → its[i]? = some it → Known P its hs (fr.contains i) i o it (F i) ∧ (∀ k, (∀ (j : Nat) (o' : Oper), i ≤ j → l[j]? = some o' → o'.dst ≠ some k) → tget st.tm k = tget (F i) k) ∧
      (∀ (j : Nat) (o' : Oper) (jt : It) (x : Nat), j < i → l[j]? = some o' → its[j]? = some jt → o'.dst = some x → (∀ (k : Nat) (o'' : Oper), j < k → k < i → l[k]? = some o'' → o''.dst ≠ some x) → tget (F i) x = jt.v) ∧
      ∀ x, (∀ (j : Nat) (o' : Oper), j < i → l[j]? = some o' → o'.dst ≠ some x) → tget (F i) x = tget st0.tm x := by
    refine Classical.axiomOfChoice (r := fun i tm => ∀ (o : Oper) (it : It), l[i]? = some o → its[i]? = some it → Known P its hs (fr.contains i) i o it tm ∧ (∀ k, (∀ (j : Nat) (o' : Oper), i ≤ j → l[j]? = some o' → o'.dst ≠ some k) → tget st.tm k = tget tm k) ∧
      (∀ (j : Nat) (o' : Oper) (jt : It) (x : Nat), j < i → l[j]? = some o' → its[j]? = some jt → o'.dst = some x → (∀ (k : Nat) (o'' : Oper), j < k → k < i → l[k]? = some o'' → o''.dst ≠ some x) → tget tm x = jt.v) ∧
      ∀ x, (∀ (j : Nat) (o' : Oper), j < i → l[j]? = some o' → o'.dst ≠ some x) → tget tm x = tget st0.tm x) fun i => ?_
    by_cases hi : ∃ o it, l[i]? = some o ∧ its[i]? = some it
    · obtain ⟨o, it, ho, hit⟩ := hi
      obtain ⟨tm, k⟩ := hf.known i o it ho hit
      refine ⟨tm, fun o' it' ho' hit' => ?_⟩
      rw [ho] at ho'; rw [hit] at hit'
      obtain rfl := Option.some.inj ho'
      obtain rfl := Option.some.inj hit'
      exact k
    · exact ⟨[], fun o it ho hit => (hi ⟨o, it, ho, hit⟩).elim⟩
  have hF : ∀ (i : Nat) (o : Oper) (it : It) (k : Nat), l[i]? = some o → its[i]? = some it → k ∈ it.ks → (∀ (p : Nat) (o' : Oper) (jt : It), p ∈ edges o → l[p]? = some o' → its[p]? = some jt → o'.dst = some k → tget (F i) k = jt.v) ∧
      ((∀ (j : Nat) (o' : Oper), l[j]? = some o' → o'.dst = some k → i ∈ edges o') → tget (F i) k = tget st0.tm k) := fun i o it k ho hit _ => by
    obtain ⟨_, _, k3, k4⟩ := hFF i o it ho hit
    refine ⟨fun p o' jt hp' ho' hjt hd => k3 p o' jt k (hp.up i o ho p hp') ho' hjt hd fun q o'' h1 h2 h3 h4 => ?_, fun hj => k4 k fun j o' hlt ho' hd => ?_⟩
    · have := hp.dist p q o' o'' k ho' h3 hd h4; omega
    · have := hp.up j o' ho' i (hj j o' ho' hd); omega
  have hob : ∀ (i s : Nat) (it : It), its[i]? = some it → it.lo ≤ s → s ≤ it.hi → s ≤ rank its its.length → Ob P l its F hs i s := by
    intro i s it0 hit0 hlo hhi hs' o it H X ho hit hH
    rw [hit0] at hit
    obtain rfl := Option.some.inj hit
    obtain ⟨⟨r, k1, k2, k3⟩, k4, _, _⟩ := hFF i o it0 ho hit0
    have hrun : r = true → Run P o.op it0.ef it0.v (sel it0.ks (F i)) s hs H X := fun hr => by
      obtain ⟨⟨H', X', h1, h2⟩, h3⟩ := k2 hr
      by_cases hnat : s = rank its i
      · subst hnat
        rw [h1] at hH
        obtain ⟨rfl, rfl⟩ := Prod.mk.inj (Option.some.inj hH)
        exact h2
      · have he : it0.ef = false := by
          cases he : it0.ef with
          | false => rfl
          | true =>
            obtain ⟨e1, e2, _⟩ := hp.eff i it0 hit0 he
            omega
        unfold Run
        rw [he]
        simp only [Bool.false_eq_true, if_false]
        unfold more at hmore
        rw [List.all_eq_true] at hmore
        have hm' := hmore i (List.mem_range.2 (List.getElem?_eq_some_iff.1 hit0).1)
        rw [hit0] at hm'
        simp only [he, Bool.false_or, Bool.or_eq_true] at hm'
        rcases hm' with hm' | hm'
        · exact (h3 hm').2 H
        · rw [List.all_eq_true] at hm'
          have := hm' s (List.mem_range.2 (by omega))
          simp only [Bool.or_eq_true] at this
          rcases this with ((h' | h') | h') | h'
          · have := Nat.le_of_ble_eq_true h'; omega
          · have := Nat.le_of_ble_eq_true h'; omega
          · exact absurd (Nat.eq_of_beq_eq_true h') hnat
          · rw [Bool.and_eq_true, List.any_eq_true] at h'
            obtain ⟨hks, p, hp1, hp2⟩ := h'
            have hsel : sel it0.ks st.tm = sel it0.ks (F i) := sel_congr fun k hk => k4 k fun j o' hij hj hd => by
              have h8 := List.all_eq_true.1 hks k hk
              have h9 := List.all_eq_true.1 h8 o' (List.mem_of_getElem? (i := j - i) (by rw [List.getElem?_drop, Nat.add_sub_cancel' hij]; exact hj))
              rw [dstIs_iff.2 hd] at h9
              cases h9
            rw [Bool.and_eq_true] at hp2
            have e1 := Nat.eq_of_beq_eq_true hp2.1
            have e2 := Nat.eq_of_beq_eq_true hp2.2
            have := hx.get p hp1
            unfold At at this
            rw [e1, e2, ho, hit0, hH] at this
            obtain ⟨tm1, k1, k2⟩ := this
            rw [selS_spec _ _ k1, hsel] at k2
            exact k2
    cases hg : o.guard with
    | none =>
      rw [hg] at k1
      exact hrun k1
    | some jb =>
      obtain ⟨j, b⟩ := jb
      rw [hg] at k1
      obtain ⟨q, b', q1, q2, q3⟩ := k1
      refine ⟨b', ⟨q, q1, q2⟩, fun e => hrun (by rw [q3, e]; simp), fun e => k3 (by rw [q3]; simpa using e)⟩
  have hno : ∀ i, ¬ L (Array.replicate l.length false) i := fun i h => by
    unfold L at h
    rw [Array.getD_eq_getD_getElem?, Array.getElem?_replicate] at h
    split at h <;> simp at h
  have hinit : DInv c n l its (rank its its.length) hs st0.tm (Array.replicate l.length false) a w.drew 0 :=
    ⟨by simp, fun i o _ h => (hno i h).elim, fun i it hit he => ⟨fun h => (hno i h).elim, fun h => absurd h (Nat.not_lt_zero _)⟩, Nat.zero_le _,
      ⟨st0.tm, st0.h, st0.nx, ρ, S, hf.zero, hr.same (Same.drew w), fun i o it x _ _ _ h => (hno i h).elim, fun _ _ => rfl⟩⟩
  refine wp_region_any hm ?_
  have key := draw_any (Q := Q) hp (fun o ho d hd => by
    rw [List.all_eq_true] at hdn
    have := hdn o ho
    rw [hd] at this
    simpa using this) hF hE hob rfl hf.last hQ l.length _ a w.drew 0 (by
      unfold left
      exact Nat.le_trans List.countP_le_length (by simp)) hinit
  simpa using key

def DR (P : Program) (c : Ctx) (n id : Nat) (Q : Exit → St → Prop) (l : List Oper) (st0 : St) (done : List Oper) (its : List It) (hs : List (Heap × Nat)) (fr : List Nat) (st : St) (rest : List Oper) : Prop :=
  l = done.reverse ++ rest → Col P st0 done.reverse its.reverse hs.reverse fr st → AW P c n (.region id l.toArray true) Q st0

theorem dr_go {l : List Oper} {st0 : St} (k : DR P c n id Q l st0 [] [] [(st0.h, st0.nx)] [] st0 l) : AW P c n (.region id l.toArray true) Q st0 := k rfl .nil

variable {l done rest : List Oper} {st0 : St} {its : List It} {hs : List (Heap × Nat)} {fr : List Nat} {tm tm1 : List (Nat × AV)} {h : Heap} {nx : Nat} {op : Op} {ty : TypeId} {pos : String} {aft : Array Edge} {v : AV} {d : Nat}

/-- What a guard says that looks q places back. -/
theorem gd_back {j q : Nat} {b : Bool} {g : Option Bool} {r : Bool} (hq : Nat.beq (q + j + 1) its.length = true) (hg : (its[q]?).bind (fun x => gv x.v) = some g) (hr : r = (g == some b)) : Gd its.reverse (some (j, b)) r := by
  have hq := Nat.eq_of_beq_eq_true hq
  obtain ⟨x, h1, h2⟩ := Option.bind_eq_some_iff.1 hg
  refine ⟨x, g, ?_, h2, hr⟩
  rw [List.getElem?_reverse (by omega), show its.length - 1 - j = q from by omega]
  exact h1

/-- Free: at any heap. -/
theorem dr_f (lo hi : Nat) (ks : List Nat) (hs1 : selS tm ks = some tm1) (hv : ∀ H, OpP P op tm1 H v)
    (k : DR P c n id Q l st0 (⟨some d, op, ty, pos, aft, none⟩ :: done) (⟨v, false, lo, hi, ks⟩ :: its) hs (its.length :: fr) ⟨(d, v) :: tm, h, nx⟩ rest) :
    DR P c n id Q l st0 done its hs fr ⟨tm, h, nx⟩ (⟨some d, op, ty, pos, aft, none⟩ :: rest) := fun hl hc => by
  have hs1' := selS_spec _ _ hs1
  subst hs1'
  refine k (by rw [hl, List.reverse_cons, List.append_assoc]; rfl) ?_
  have := Col.f (o := ⟨some d, op, ty, pos, aft, none⟩) (it := ⟨v, false, lo, hi, ks⟩) hc rfl rfl (fun H => (hv H).q)
  rw [List.length_reverse] at this
  rw [List.reverse_cons, List.reverse_cons]
  exact this

theorem dr_fq (lo hi : Nat) (ks : List Nat) (hs1 : selS tm ks = some tm1) (hv : ∀ H, OpQ P op tm1 H v)
    (k : DR P c n id Q l st0 (⟨some d, op, ty, pos, aft, none⟩ :: done) (⟨v, false, lo, hi, ks⟩ :: its) hs (its.length :: fr) ⟨(d, v) :: tm, h, nx⟩ rest) :
    DR P c n id Q l st0 done its hs fr ⟨tm, h, nx⟩ (⟨some d, op, ty, pos, aft, none⟩ :: rest) := fun hl hc => by
  have hs1' := selS_spec _ _ hs1
  subst hs1'
  refine k (by rw [hl, List.reverse_cons, List.append_assoc]; rfl) ?_
  have := Col.f (o := ⟨some d, op, ty, pos, aft, none⟩) (it := ⟨v, false, lo, hi, ks⟩) hc rfl rfl hv
  rw [List.length_reverse] at this
  rw [List.reverse_cons, List.reverse_cons]
  exact this

/-- At this stage; lo, hi: the stages at which it may come up. -/
theorem dr_q (lo hi : Nat) (ks : List Nat) (hs1 : selS tm ks = some tm1) (hv : OpP P op tm1 h v)
    (k : DR P c n id Q l st0 (⟨some d, op, ty, pos, aft, none⟩ :: done) (⟨v, false, lo, hi, ks⟩ :: its) hs fr ⟨(d, v) :: tm, h, nx⟩ rest) :
    DR P c n id Q l st0 done its hs fr ⟨tm, h, nx⟩ (⟨some d, op, ty, pos, aft, none⟩ :: rest) := fun hl hc => by
  have hs1' := selS_spec _ _ hs1
  subst hs1'
  refine k (by rw [hl, List.reverse_cons, List.append_assoc]; rfl) ?_
  have := Col.q (o := ⟨some d, op, ty, pos, aft, none⟩) (it := ⟨v, false, lo, hi, ks⟩) hc rfl rfl hv.q
  rw [List.reverse_cons, List.reverse_cons]
  exact this

/-- One that turns the heap; s: which of them it is. -/
theorem dr_e {h' : Heap} {nx' : Nat} (s : Nat) (ks : List Nat) (hs1 : selS tm ks = some tm1) (hv : OpOK P op ⟨tm1, h, nx⟩ v h' nx')
    (k : DR P c n id Q l st0 (⟨some d, op, ty, pos, aft, none⟩ :: done) (⟨v, true, s, s, ks⟩ :: its) ((h', nx') :: hs) fr ⟨(d, v) :: tm, h', nx'⟩ rest) :
    DR P c n id Q l st0 done its hs fr ⟨tm, h, nx⟩ (⟨some d, op, ty, pos, aft, none⟩ :: rest) := fun hl hc => by
  have hs1' := selS_spec _ _ hs1
  subst hs1'
  refine k (by rw [hl, List.reverse_cons, List.append_assoc]; rfl) ?_
  have := Col.e (o := ⟨some d, op, ty, pos, aft, none⟩) (it := ⟨v, true, s, s, ks⟩) hc rfl rfl hv
  rw [List.reverse_cons, List.reverse_cons, List.reverse_cons]
  exact this

theorem dr_gf {j : Nat} {b : Bool} (lo hi : Nat) (ks : List Nat) (hs1 : selS tm ks = some tm1) (hv : ∀ H, OpP P op tm1 H v) (q : Nat) (hq : Nat.beq (q + j + 1) its.length = true) (hg : (its[q]?).bind (fun x => gv x.v) = some (some b))
    (k : DR P c n id Q l st0 (⟨some d, op, ty, pos, aft, some (j, b)⟩ :: done) (⟨v, false, lo, hi, ks⟩ :: its) hs (its.length :: fr) ⟨(d, v) :: tm, h, nx⟩ rest) :
    DR P c n id Q l st0 done its hs fr ⟨tm, h, nx⟩ (⟨some d, op, ty, pos, aft, some (j, b)⟩ :: rest) := fun hl hc => by
  have hs1' := selS_spec _ _ hs1
  subst hs1'
  refine k (by rw [hl, List.reverse_cons, List.append_assoc]; rfl) ?_
  have := Col.f (o := ⟨some d, op, ty, pos, aft, some (j, b)⟩) (it := ⟨v, false, lo, hi, ks⟩) hc (gd_back hq hg (by simp)) rfl (fun H => (hv H).q)
  rw [List.length_reverse] at this
  rw [List.reverse_cons, List.reverse_cons]
  exact this

theorem dr_gfq {j : Nat} {b : Bool} (lo hi : Nat) (ks : List Nat) (hs1 : selS tm ks = some tm1) (hv : ∀ H, OpQ P op tm1 H v) (q : Nat) (hq : Nat.beq (q + j + 1) its.length = true) (hg : (its[q]?).bind (fun x => gv x.v) = some (some b))
    (k : DR P c n id Q l st0 (⟨some d, op, ty, pos, aft, some (j, b)⟩ :: done) (⟨v, false, lo, hi, ks⟩ :: its) hs (its.length :: fr) ⟨(d, v) :: tm, h, nx⟩ rest) :
    DR P c n id Q l st0 done its hs fr ⟨tm, h, nx⟩ (⟨some d, op, ty, pos, aft, some (j, b)⟩ :: rest) := fun hl hc => by
  have hs1' := selS_spec _ _ hs1
  subst hs1'
  refine k (by rw [hl, List.reverse_cons, List.append_assoc]; rfl) ?_
  have := Col.f (o := ⟨some d, op, ty, pos, aft, some (j, b)⟩) (it := ⟨v, false, lo, hi, ks⟩) hc (gd_back hq hg (by simp)) rfl hv
  rw [List.length_reverse] at this
  rw [List.reverse_cons, List.reverse_cons]
  exact this

theorem dr_gq {j : Nat} {b : Bool} (lo hi : Nat) (ks : List Nat) (hs1 : selS tm ks = some tm1) (hv : OpP P op tm1 h v) (q : Nat) (hq : Nat.beq (q + j + 1) its.length = true) (hg : (its[q]?).bind (fun x => gv x.v) = some (some b))
    (k : DR P c n id Q l st0 (⟨some d, op, ty, pos, aft, some (j, b)⟩ :: done) (⟨v, false, lo, hi, ks⟩ :: its) hs fr ⟨(d, v) :: tm, h, nx⟩ rest) :
    DR P c n id Q l st0 done its hs fr ⟨tm, h, nx⟩ (⟨some d, op, ty, pos, aft, some (j, b)⟩ :: rest) := fun hl hc => by
  have hs1' := selS_spec _ _ hs1
  subst hs1'
  refine k (by rw [hl, List.reverse_cons, List.append_assoc]; rfl) ?_
  have := Col.q (o := ⟨some d, op, ty, pos, aft, some (j, b)⟩) (it := ⟨v, false, lo, hi, ks⟩) hc (gd_back hq hg (by simp)) rfl hv.q
  rw [List.reverse_cons, List.reverse_cons]
  exact this

theorem dr_n {h' : Heap} {nx' : Nat} (s : Nat) (ks : List Nat) (hs1 : selS tm ks = some tm1) (hv : OpOK P op ⟨tm1, h, nx⟩ v h' nx')
    (k : DR P c n id Q l st0 (⟨none, op, ty, pos, aft, none⟩ :: done) (⟨v, true, s, s, ks⟩ :: its) ((h', nx') :: hs) fr ⟨tm, h', nx'⟩ rest) :
    DR P c n id Q l st0 done its hs fr ⟨tm, h, nx⟩ (⟨none, op, ty, pos, aft, none⟩ :: rest) := fun hl hc => by
  have hs1' := selS_spec _ _ hs1
  subst hs1'
  refine k (by rw [hl, List.reverse_cons, List.append_assoc]; rfl) ?_
  have := Col.e (o := ⟨none, op, ty, pos, aft, none⟩) (it := ⟨v, true, s, s, ks⟩) hc rfl rfl hv
  rw [List.reverse_cons, List.reverse_cons, List.reverse_cons]
  exact this

/-- Under a guard that does not let it run. -/
theorem dr_s {j : Nat} {b : Bool} {g : Option Bool} (lo hi q : Nat) (hq : Nat.beq (q + j + 1) its.length = true) (hg : (its[q]?).bind (fun x => gv x.v) = some g) (hne : (g == some b) = false)
    (k : DR P c n id Q l st0 (⟨some d, op, ty, pos, aft, some (j, b)⟩ :: done) (⟨.tup [], false, lo, hi, []⟩ :: its) hs (its.length :: fr) ⟨(d, .tup []) :: tm, h, nx⟩ rest) :
    DR P c n id Q l st0 done its hs fr ⟨tm, h, nx⟩ (⟨some d, op, ty, pos, aft, some (j, b)⟩ :: rest) := fun hl hc => by
  refine k (by rw [hl, List.reverse_cons, List.append_assoc]; rfl) ?_
  have := Col.s (o := ⟨some d, op, ty, pos, aft, some (j, b)⟩) (it := ⟨.tup [], false, lo, hi, []⟩) hc (gd_back hq hg hne.symm) rfl rfl
  rw [List.length_reverse] at this
  rw [List.reverse_cons, List.reverse_cons]
  exact this

theorem dr_end (ps : List (Nat × Nat)) (hm : P.follows .mixedOrders = true) (hchk : chk done.reverse its.reverse (rank its.reverse its.length) = true) (hdn : (done.all fun o => match o.dst with | some d => Nat.blt d n | none => true) = true)
    (hmore : more done.reverse its.reverse fr ps (rank its.reverse its.length) = true) (hx : Ats P done.reverse its.reverse hs.reverse tm ps) (hQ : Q .normal ⟨tm, h, nx⟩) : DR P c n id Q l st0 done its hs fr ⟨tm, h, nx⟩ [] := fun hl hc => by
  rw [List.append_nil] at hl
  subst hl
  rw [← @List.length_reverse _ its] at hchk hmore
  exact draw_end ps hm hc hchk (by rw [List.all_reverse]; exact hdn) hmore hx hQ

end
end Go.Proofs.Ytpggknkhldecaaa.Abs
end
section
/-
  Rows of one's own that are written no more; calls as operations. It holds of any program.
-/
namespace Go.Proofs.Ytpggknkhldecaaa.Abs

theorem OpQ.ok {P : Program} {op : Op} {tm : List (Nat × AV)} {h : Heap} {nx : Nat} {v : AV} (k : OpQ P op tm h v) : OpOK P op ⟨tm, h, nx⟩ v h nx := k nx

/-! ### A row of one's own is from here on read alone -/

mutual
def AV.frz (b sz : Nat) (xs : List AV) : AV → AV
  | .own b' st len => if b' = b then (if st + len ≤ xs.length then .sl sz ((xs.drop st).take len) else .top) else .own b' st len
  | .ptr b' i o => if b' = b then .top else .ptr b' i o
  | .omap b' => if b' = b then .top else .omap b'
  | .fn f ys zs => .fn f (frzs b sz xs ys) (frzs b sz xs zs)
  | .ifc t x => .ifc t (x.frz b sz xs)
  | .agg ys => .agg (frzs b sz xs ys)
  | .tup ys => .tup (frzs b sz xs ys)
  | .top => .top
  | .bool q => .bool q
  | .int k q => .int k q
  | .str s => .str s
  | .nilp => .nilp
  | .lp cs => .lp cs
  | .nils => .nils
  | .sl sz' ys => .sl sz' ys
  | .nilm => .nilm
  | .nilf => .nilf
  | .nili => .nili
def frzs (b sz : Nat) (xs : List AV) : List AV → List AV
  | [] => []
  | y :: ys => y.frz b sz xs :: frzs b sz xs ys
end

theorem frzs_map (b sz : Nat) (xs : List AV) : ∀ ys, frzs b sz xs ys = ys.map (AV.frz b sz xs)
  | [] => rfl
  | y :: ys => by rw [frzs, frzs_map b sz xs ys]; rfl

theorem get_frzs {b sz : Nat} {xs ys : List AV} {i : Nat} {y : AV} (h : (frzs b sz xs ys)[i]? = some y) : ∃ z, ys[i]? = some z ∧ y = z.frz b sz xs := by
  rw [frzs_map, List.getElem?_map] at h
  obtain ⟨z, h1, h2⟩ := Option.map_eq_some_iff.1 h
  exact ⟨z, h1, h2.symm⟩

theorem frz_cells (b sz : Nat) (xs : List AV) (x : AV) : (x.frz b sz xs).cells = x.cells.map (AV.frz b sz xs) := by
  cases x
  case own b' st len =>
    show (if b' = b then (if st + len ≤ xs.length then AV.sl sz ((xs.drop st).take len) else .top) else .own b' st len).cells = [if b' = b then (if st + len ≤ xs.length then AV.sl sz ((xs.drop st).take len) else .top) else .own b' st len]
    by_cases h1 : b' = b
    · by_cases h2 : st + len ≤ xs.length
      · simp [h1, h2, AV.cells]
      · simp [h1, h2, AV.cells]
    · simp [h1, AV.cells]
  case ptr b' i o =>
    show (if b' = b then AV.top else .ptr b' i o).cells = [if b' = b then AV.top else .ptr b' i o]
    by_cases h1 : b' = b <;> simp [h1, AV.cells]
  case omap b' =>
    show (if b' = b then AV.top else .omap b').cells = [if b' = b then AV.top else .omap b']
    by_cases h1 : b' = b <;> simp [h1, AV.cells]
  case agg ys => exact frzs_map b sz xs ys
  all_goals rfl

theorem flat_frz (b sz : Nat) (xs ys : List AV) : flat (ys.map (AV.frz b sz xs)) = (flat ys).map (AV.frz b sz xs) := by
  unfold flat
  induction ys with
  | nil => rfl
  | cons y ys ih => simp only [List.map_cons, List.flatMap_cons, List.map_append, ih, frz_cells]

def Blk.frz (b sz : Nat) (xs : List AV) : Blk → Blk
  | .cells sz' ys => .cells sz' (ys.map (AV.frz b sz xs))
  | .map es => .map (es.map fun p => (p.1.frz b sz xs, p.2.frz b sz xs))

theorem VR.frz {S S' : Nat → Prop} {w : World} {ρ : Rho} {b sz : Nat} {xs : List AV} (hS : ∀ b, S b → S' b) (hpl : xs.all AV.plain = true) {x : AV} {v : Value} (h : VR S w ρ x v) :
    ((∃ r, ρ b = some r ∧ BR S w ρ r (.cells sz xs) ∧ S' r.blk) ∨ (ρ b = none ∧ xs = [])) → VR S' w ρ (x.frz b sz xs) v := by
  induction h with
  | top => intro _; exact .top
  | bool => intro _; exact .bool
  | int => intro _; exact .int
  | str => intro _; exact .str
  | nilp => intro _; exact .nilp
  | @ptr ρ b' i o r h =>
    intro _
    show VR S' w ρ (if b' = b then .top else .ptr b' i o) _
    split
    · exact .top
    · exact .ptr h
  | lp vs h hl hcell hv ih => intro _; exact (VR.lp vs h hl hcell hv).mono (fun b hb => ⟨hS b hb, rfl⟩) (fun _ _ h => h)
  | nils => intro _; exact .nils
  | sl0 => intro _; exact .sl0
  | sl vs h hl hsz hc hcell hv ih => intro _; exact (VR.sl vs h hl hsz hc hcell hv).mono (fun b hb => ⟨hS b hb, rfl⟩) (fun _ _ h => h)
  | @own ρ b' st len r c h h1 h2 =>
    intro hb
    show VR S' w ρ (if b' = b then (if st + len ≤ xs.length then .sl sz ((xs.drop st).take len) else .top) else .own b' st len) _
    split
    · rename_i e
      subst e
      split
      · rename_i hlen
        rcases hb with ⟨q, e1, e2, e3⟩ | ⟨e1, e2⟩
        · obtain rfl := Option.some.inj (h.symm.trans e1)
          exact (VR.own h h1 h2).lent h e2 hlen hpl hS e3 _
        · rw [e1] at h; cases h
      · exact .top
    · exact .own h h1 h2
  | @own0 ρ b' st a =>
    intro _
    show VR S' w ρ (if b' = b then (if st + 0 ≤ xs.length then .sl sz ((xs.drop st).take 0) else .top) else .own b' st 0) _
    split
    · split
      · rw [List.take_zero]; exact .sl0
      · exact .top
    · exact .own0
  | nilm => intro _; exact .nilm
  | @omap ρ b' r h =>
    intro _
    show VR S' w ρ (if b' = b then .top else .omap b') _
    split
    · exact .top
    · exact .omap h
  | fn us vs h1 h2 h3 h4 ih1 ih2 =>
    intro hb
    exact .fn us vs (by rw [frzs_map, List.length_map]; exact h1) (by rw [frzs_map, List.length_map]; exact h2)
      (fun i x u hx hu => by obtain ⟨z, hz, rfl⟩ := get_frzs hx; exact ih1 i z u hz hu hb) (fun i x u hx hu => by obtain ⟨z, hz, rfl⟩ := get_frzs hx; exact ih2 i z u hz hu hb)
  | nilf => intro _; exact .nilf
  | ifc h ih => intro hb; exact .ifc (ih hb)
  | nili => intro _; exact .nili
  | agg vs h1 h2 ih => intro hb; exact .agg vs (by rw [frzs_map, List.length_map]; exact h1) (fun i x u hx hu => by obtain ⟨z, hz, rfl⟩ := get_frzs hx; exact ih i z u hz hu hb)
  | tup vs h1 h2 ih => intro hb; exact .tup vs (by rw [frzs_map, List.length_map]; exact h1) (fun i x u hx hu => by obtain ⟨z, hz, rfl⟩ := get_frzs hx; exact ih i z u hz hu hb)

theorem BR.frz {S S' : Nat → Prop} {w : World} {ρ : Rho} {b sz : Nat} {xs : List AV} (hS : ∀ b, S b → S' b) (hpl : xs.all AV.plain = true) (hb : (∃ r, ρ b = some r ∧ BR S w ρ r (.cells sz xs) ∧ S' r.blk) ∨ (ρ b = none ∧ xs = [])) {r : R} {B : Blk} (h : BR S w ρ r B) : BR S' w ρ r (B.frz b sz xs) := by
  cases B with
  | cells sz' ys =>
    obtain ⟨h1, h2, h3, h4, cur, e, h5, h6, h7, h8⟩ := h
    refine ⟨h1, fun x hx => ?_, by rw [List.length_map]; exact h3, h4, cur, e, h5, h6, h7, fun i x u hx hu => ?_⟩
    · obtain ⟨y, hy, rfl⟩ := List.mem_map.1 hx
      rw [frz_cells, List.length_map]; exact h2 y hy
    · rw [flat_frz, List.getElem?_map] at hx
      obtain ⟨y, hy, rfl⟩ := Option.map_eq_some_iff.1 hx
      exact (h8 i y u hy hu).frz hS hpl hb
  | map es =>
    obtain ⟨ents, clock, h1, h2, hst, h3⟩ := h
    refine ⟨ents, clock, h1, by rw [List.length_map]; exact h2, hst, fun i p e hp he => ?_⟩
    rw [List.getElem?_map] at hp
    obtain ⟨q, hq, rfl⟩ := Option.map_eq_some_iff.1 hp
    exact ⟨(h3 i q e hq he).1.frz hS hpl hb, (h3 i q e hq he).2.frz hS hpl hb⟩

theorem hget_map (h : Heap) (f : Blk → Blk) (k : Nat) : hget (h.map fun p => (p.1, f p.2)) k = (hget h k).map f := by
  induction h with
  | nil => rfl
  | cons p t ih =>
    obtain ⟨i, B⟩ := p
    simp only [List.map_cons, hget]
    split
    · rfl
    · exact ih

theorem tget_map (tm : List (Nat × AV)) (f : AV → AV) (hf : f .top = .top) (k : Nat) : tget (tm.map fun p => (p.1, f p.2)) k = f (tget tm k) := by
  induction tm with
  | nil => exact hf.symm
  | cons p t ih =>
    obtain ⟨i, v⟩ := p
    simp only [List.map_cons, tget]
    split
    · rfl
    · exact ih

/-- The state in which block b is read alone. -/
def frzS (b sz : Nat) (xs : List AV) (st : St) : St := ⟨st.tm.map fun p => (p.1, p.2.frz b sz xs), (hdel st.h b).map fun p => (p.1, p.2.frz b sz xs), st.nx⟩

theorem Rep.frz {c : Ctx} {n : Nat} {st : St} {ρ : Rho} {S : Nat → Prop} {a : Act} {w : World} (h : Rep c n st ρ S a w) {b sz : Nat} {xs : List AV} (hb : hget st.h b = some (.cells sz xs)) (hpl : xs.all AV.plain = true)
    (hnew : ∀ r, ρ b = some r → c.S0 r.blk ∨ c.w0.heap.size ≤ r.blk) :
    ∃ S', Rep c n (frzS b sz xs st) ρ S' a w ∧ (∀ k, S k → S' k) ∧ (∀ k, S' k → S k ∨ ∃ r, ρ b = some r ∧ r.blk = k) ∧ ∀ {x : AV} {v : Value}, VR S w ρ x v → VR S' w ρ (x.frz b sz xs) v := by
  let S' : Nat → Prop := fun k => S k ∨ ∃ r, ρ b = some r ∧ r.blk = k
  have hS : ∀ k, S k → S' k := fun k hk => .inl hk
  have hbb : (∃ r, ρ b = some r ∧ BR S w ρ r (.cells sz xs) ∧ S' r.blk) ∨ (ρ b = none ∧ xs = []) := by
    rcases h.sim.blk b _ hb with ⟨r, h1, h2, _, _⟩ | ⟨h1, sz', h2⟩
    · exact .inl ⟨r, h1, h2, .inr ⟨r, h1, rfl⟩⟩
    · simp only [Blk.cells.injEq] at h2; exact .inr ⟨h1, h2.2⟩
  have hh : ∀ k B, hget (frzS b sz xs st).h k = some B → ∃ X, k ≠ b ∧ hget st.h k = some X ∧ B = X.frz b sz xs := fun k B hk => by
    have hk : hget ((hdel st.h b).map fun p => (p.1, p.2.frz b sz xs)) k = some B := hk
    rw [hget_map _ (fun B => B.frz b sz xs), hget_del] at hk
    split at hk
    · cases hk
    · rename_i hne
      obtain ⟨X, h1, h2⟩ := Option.map_eq_some_iff.1 hk
      exact ⟨X, fun e => hne e.symm, h1, h2.symm⟩
  refine ⟨S', ⟨h.size, h.defers, fun i => ?_, ⟨fun k B hk => ?_, fun k k' B B' q q' hk hk' => ?_, fun k hk => ?_⟩, ?_, h.fresh, h.le, fun k B hk => ?_⟩, hS, fun k hk => hk, fun hv => hv.frz hS hpl hbb⟩
  · show VR S' w ρ (tget (st.tm.map fun p => (p.1, p.2.frz b sz xs)) i) _
    rw [tget_map _ (fun x => x.frz b sz xs) rfl]
    exact (h.tmps i).frz hS hpl hbb
  · obtain ⟨X, hne, h1, rfl⟩ := hh k B hk
    rcases h.sim.blk k X h1 with ⟨q, e1, e2, e3, e4⟩ | ⟨e1, sz', rfl⟩
    · refine .inl ⟨q, e1, e2.frz hS hpl hbb, ?_, e4⟩
      rintro (h' | ⟨r, h', h''⟩)
      · exact e3 h'
      · exact h.sim.inj b k _ X r q hb h1 h' e1 (fun e => hne e.symm) h''
    · exact .inr ⟨e1, sz', rfl⟩
  · obtain ⟨X, _, h1, _⟩ := hh k B hk
    obtain ⟨X', _, h1', _⟩ := hh k' B' hk'
    exact h.sim.inj k k' X X' q q' h1 h1'
  · rcases hk with hk | ⟨r, h1, rfl⟩
    · exact h.sim.lt k hk
    · exact (blk_of h hb h1).2.1
  · refine ⟨h.post.os, h.post.tape, h.post.output, h.post.size, h.post.keep, fun k hk => .inl (h.post.sIn k hk), fun k hk => ?_, fun k B q hk hq => ?_, h.post.ids⟩
    · rcases hk with hk | ⟨r, h1, rfl⟩
      · exact h.post.sNew k hk
      · exact hnew r h1
    · obtain ⟨X, _, h1, _⟩ := hh k B hk
      exact h.post.own k X q h1 hq
  · obtain ⟨X, _, h1, _⟩ := hh k B hk
    exact h.dom k X h1

section
variable {P : Program} {n : Nat} {w0 : World} {h0 : Heap} {S0 : Nat → Prop} {r0 : Rho} {nx0 : Nat}

/-- A block that is none of the caller's is new. -/
theorem Rep.new {st : St} {ρ : Rho} {S : Nat → Prop} {a : Act} {w : World} (h : Rep ⟨w0, Own r0 h0, S0, r0, nx0⟩ n st ρ S a w) {b : Nat} {B : Blk} (hb : hget st.h b = some B) (h1 : (h0.all fun p => Nat.blt p.1 nx0 && (hget st.h p.1).isSome && !Nat.beq p.1 b) = true) {r : R} (hr : ρ b = some r) : w0.heap.size ≤ r.blk := by
  rcases h.post.own b B r hb hr with ⟨i, X, q, e1, e2, e3⟩ | h'
  · exfalso
    have := hall_get h1 e1
    simp only [Bool.and_eq_true, Bool.not_eq_true'] at this
    obtain ⟨⟨k1, k2⟩, k3⟩ := this
    obtain ⟨Y, hY⟩ := Option.isSome_iff_exists.1 k2
    have hlt : i < nx0 := by simpa using k1
    have hne : i ≠ b := fun e => by rw [e] at k3; simp at k3
    have e4 : ρ i = some q := (h.post.ids i hlt).trans e2
    exact h.sim.inj i b Y B q r hY hb e4 hr hne e3
  · exact h'

theorem aw_frz {code : Code} {Q : Exit → St → Prop} {st : St} (b : Nat) {sz : Nat} {xs : List AV} (hb : hget st.h b = some (.cells sz xs)) (hpl : xs.all AV.plain = true) (h1 : (h0.all fun p => Nat.blt p.1 nx0 && (hget st.h p.1).isSome && !Nat.beq p.1 b) = true)
    (k : AW P ⟨w0, Own r0 h0, S0, r0, nx0⟩ n code Q (frzS b sz xs st)) : AW P ⟨w0, Own r0 h0, S0, r0, nx0⟩ n code Q st := fun ρ S a w hr => by
  obtain ⟨S', hr', _⟩ := hr.frz hb hpl (fun r hq => .inr (hr.new hb h1 hq))
  exact k ρ S' a w hr'

end

end Go.Proofs.Ytpggknkhldecaaa.Abs
end
section
/-
  Calls as operations; rows that are read alone from the beginning. It holds of any program.
-/
namespace Go.Proofs.Ytpggknkhldecaaa.Abs

section
variable {P : Program}

/-- What a call does. -/
theorem call_does {c : Ctx} {n : Nat} {tm : List (Nat × AV)} {h : Heap} {nx : Nat} {o : Oper} {fo : Operand} {xs : Array Operand} {ts : Array TypeId}
    (f : FuncId) (first caps : List AV) (l : List (Nat × Nat)) (k : Nat) (al : Bool) (hc : Heap) (ps : List Nat) (args largs : List AV) (Q : AV → Heap → Nat → Prop) (ho : o.op = .call { callee := .value fo, args := xs, argTypes := ts })
    (hfo : oev tm fo = .fn (.func f) first caps) (hargs : args = first ++ (xs.toList.map (oev tm) ++ caps))
    (hcall : ∀ (vs : Array Value) (w : World), (callFunc f vs).run P w = .ok (.enter f vs) w)
    (hl : l.all (fun p => p.1 < k) = true)
    (hh : ∀ p ∈ hc, hget h (swp l k nx p.1) = (hget hc p.1).map (Blk.ren (swp l k nx)) ∧ ps.contains (swp l k nx p.1) = true)
    (hi : ((hc.map (fun p => p.1)).all fun b => (hc.map (fun p => p.1)).all fun b' => b == b' || swp l k nx b != swp l k nx b') = true)
    (hlend : Lends al h (swp l k nx) ps args largs)
    (hac : AC P f largs hc k al Q) {ρ : Rho} {S : Nat → Prop} {a : Act} {w : World} (hr : Rep c n ⟨tm, h, nx⟩ ρ S a w) :
    Does P o a w fun v w' => ∃ r h' nx' ρ' S', Q r h' nx' ∧ VR S' w' ρ' r v ∧ Sim ρ' h' S' w' ∧ (∀ b, nx' ≤ b → ρ' b = none) ∧ (∀ b B, hget h' b = some B → b < nx') ∧
      CPost al (fun b => ρ (swp l k nx b)) hc k (fun b => S b ∨ (al = false ∧ Own ρ (rest h ps) b)) w ρ' h' S' w' := by
  have hf := hr.oev fo
  rw [show (St.mk tm h nx).tm = tm from rfl, hfo] at hf
  generalize hfv : a.eval fo = fv at hf
  cases hf with
  | fn us vs h1 h2 h3 h4 =>
  have hrun : (execOp a.eval o).run P w = .ok (.enter f (us ++ xs.map a.eval ++ vs)) w := by
    unfold execOp
    rw [ho]
    simp only [resolve, hfv, Deferred.ofValue, Sem.run_bind, Sem.run_pure, Result.andThen_ok, invoke]
    exact hcall _ _
  unfold Does
  rw [hrun]
  obtain ⟨hsim, hfr, hps, hown⟩ := call_sim hr l k al hc ps hl hh hi
  have hargsVR : ∀ (i : Nat) (x : AV) (u : Value), args[i]? = some x → (us ++ xs.map a.eval ++ vs)[i]? = some u → VR S w ρ x u := by
    intro i x u hx hu
    rw [hargs] at hx
    rw [Array.append_assoc] at hu
    rcases Nat.lt_or_ge i first.length with hlt | hge
    · rw [List.getElem?_append_left hlt] at hx
      rw [Array.getElem?_append_left (by omega)] at hu
      exact h3 i x u hx hu
    · rw [List.getElem?_append_right hge] at hx
      rw [Array.getElem?_append_right (by omega), ← h1] at hu
      generalize i - first.length = j at hx hu
      rcases Nat.lt_or_ge j xs.size with hlt | hge
      · rw [List.getElem?_append_left (by simpa using hlt)] at hx
        rw [Array.getElem?_append_left (by simpa using hlt)] at hu
        rw [List.getElem?_map, Array.getElem?_toList] at hx
        rw [Array.getElem?_map] at hu
        obtain ⟨y, hy, rfl⟩ := Option.map_eq_some_iff.1 hx
        rw [hy] at hu
        obtain rfl := Option.some.inj hu
        exact hr.oev y
      · rw [List.getElem?_append_right (by simpa using hge)] at hx
        rw [Array.getElem?_append_right (by simpa using hge)] at hu
        simp only [List.length_map, Array.length_toList] at hx
        simp only [Array.size_map] at hu
        exact h4 _ x u hx hu
  have hlen : args.length = (us ++ xs.map a.eval ++ vs).size := by
    rw [hargs]
    simp [h1, h2, Nat.add_assoc]
  have hvrs : VRs (fun b => S b ∨ (al = false ∧ Own ρ (rest h ps) b)) w (fun b => ρ (swp l k nx b)) largs (us ++ xs.map a.eval ++ vs) := by
    refine ⟨hlend.len.symm.trans hlen, fun i y u hy hu => ?_⟩
    have hi' : i < largs.length := (List.getElem?_eq_some_iff.1 hy).1
    obtain ⟨x, hx⟩ : ∃ x, args[i]? = some x := ⟨_, List.getElem?_eq_getElem (by rw [hlend.len]; exact hi')⟩
    exact (hlend.get i x y hx hy).vr hr (hargsVR i x u hx hu)
  refine (hac _ _ w _ hsim hfr hvrs).mono ?_
  rintro e w' ⟨v, r, h', nx', ρ', S', rfl, hQ, hv, hs, hf', hdm, hp⟩
  exact ⟨v, rfl, r, h', nx', ρ', S', hQ, hv, hs, hf', hdm, hp⟩

theorem AC.calls {f : FuncId} {fn : Func} (hf : P.funcs[f]? = some fn) (hn : (fn.name == "runtime.NumGoroutine") = false ∧ fn.body.isNone = false) : ∀ (vs : Array Value) (w : World), (callFunc f vs).run P w = .ok (.enter f vs) w := fun vs w => callFunc_enter hf hn.1 hn.2 vs w

/-- A call whose answer is told: an operation that turns the heap. -/
theorem op_callg {tm : List (Nat × AV)} {h : Heap} {nx : Nat} {fo : Operand} {xs : Array Operand} {ts : Array TypeId} {f : FuncId} {fn : Func} {first caps : List AV} (l : List (Nat × Nat)) (k : Nat) (al : Bool) (hc : Heap) (ps : List Nat) {args largs : List AV} {r0 r1 : AV} {h0 h1 : Heap} {n0 n1 : Nat}
    (hac : AC P f largs hc k al (fun r h nx => r = r0 ∧ h = h0 ∧ nx = n0)) (hf : P.funcs[f]? = some fn) (hn : (fn.name == "runtime.NumGoroutine") = false ∧ fn.body.isNone = false)
    (hfo : oev tm fo = .fn (.func f) first caps) (hargs : oevsS tm xs.toList = some args) (hl : l.all (fun p => p.1 < k) = true) (hl2 : l.all (fun p => p.2 < nx) = true) (hl3 : k ≤ nx)
    (hh : ∀ p ∈ hc, hget h (swp l k nx p.1) = (hget hc p.1).map (Blk.ren (swp l k nx)) ∧ ps.contains (swp l k nx p.1) = true)
    (hi : ((hc.map (fun p => p.1)).all fun b => (hc.map (fun p => p.1)).all fun b' => b == b' || swp l k nx b != swp l k nx b') = true)
    (hlend : Lends al h (swp l k nx) ps (first ++ (args ++ caps)) largs)
    (e1 : r0.ren (swp l k nx) = r1) (e2 : rest h ps ++ h0.map (fun p => (swp l k nx p.1, p.2.ren (swp l k nx))) = h1) (e3 : nx + n0 = n1) :
    OpOK P (.call { callee := .value fo, args := xs, argTypes := ts }) ⟨tm, h, nx⟩ r1 h1 n1 := by
  intro c n ρ S a w hr o ho
  subst e1 e2 e3
  refine (call_does f first caps l k al hc ps _ largs _ ho hfo (by rw [oevsS_spec _ _ hargs]) (AC.calls hf hn) hl hh hi hlend hac hr).mono fun v w' hx => ?_
  obtain ⟨r, h', nx', ρ', S', ⟨rfl, rfl, rfl⟩, hv, hs, hf', hdm, hp⟩ := hx
  obtain ⟨hsim, hfr, hps, hown⟩ := call_sim hr l k al hc ps hl hh hi
  obtain ⟨ρ2, S2, hr2, hv2, hx1, hx2⟩ := call_rep hr l k al hc ps hl hl2 hl3 hps hown (fun b hb => hb.imp id (fun ⟨x, i, X, q, e1, e2, e3⟩ => ⟨x, by
    rw [hget_rest] at e1
    split at e1
    · cases e1
    · obtain ⟨_, f4, _⟩ := blk_of hr e1 e2
      rw [← e3]
      exact f4⟩)) hv hs hf' hdm hp
  exact ⟨ρ2, S2, hr2, hv2, hx1, hx2⟩

/-- How a call's answer is taken up where its rows are from then on read alone. -/
inductive Fz (h' : Heap) : AV → AV → Prop
  | same {x} (hp : x.plain = true) : Fz h' x x
  | own {b st len sz xs} (hb : hget h' b = some (.cells sz xs)) (hlen : st + len ≤ xs.length) (hpl : xs.all AV.plain = true) : Fz h' (.own b st len) (.sl sz ((xs.drop st).take len))
  | tup {xs ys} (hl : xs.length = ys.length) (h : ∀ (i : Nat) (x y : AV), xs[i]? = some x → ys[i]? = some y → Fz h' x y) : Fz h' (.tup xs) (.tup ys)
  | agg {xs ys} (hl : xs.length = ys.length) (h : ∀ (i : Nat) (x y : AV), xs[i]? = some x → ys[i]? = some y → Fz h' x y) : Fz h' (.agg xs) (.agg ys)

theorem Fz.whole {h' : Heap} {b len sz : Nat} {xs : List AV} (hb : hget h' b = some (.cells sz xs)) (hl : len = xs.length) (hpl : xs.all AV.plain = true) : Fz h' (.own b 0 len) (.sl sz xs) := by
  have := Fz.own (st := 0) (len := len) hb (by omega) hpl
  rw [List.drop_zero, hl, List.take_length] at this
  rwa [hl]

theorem bl_plain (l : List UInt8) : (bl l).all AV.plain = true := by
  rw [List.all_eq_true]
  intro x hx
  obtain ⟨q, _, rfl⟩ := List.mem_map.1 hx
  rfl

inductive Fzs (h' : Heap) : List AV → List AV → Prop
  | nil : Fzs h' [] []
  | cons {x y xs ys} (h : Fz h' x y) (t : Fzs h' xs ys) : Fzs h' (x :: xs) (y :: ys)

theorem Fzs.tup {h' : Heap} {xs ys : List AV} (h : Fzs h' xs ys) : Fz h' (.tup xs) (.tup ys) := by
  have : xs.length = ys.length ∧ ∀ (i : Nat) (x y : AV), xs[i]? = some x → ys[i]? = some y → Fz h' x y := by
    induction h with
    | nil => exact ⟨rfl, fun i x y hx => by simp at hx⟩
    | cons h1 _ ih =>
      refine ⟨by simp [ih.1], fun i x y hx hy => ?_⟩
      cases i with
      | zero => simp only [List.getElem?_cons_zero] at hx hy; obtain rfl := Option.some.inj hx; obtain rfl := Option.some.inj hy; exact h1
      | succ i => simp only [List.getElem?_cons_succ] at hx hy; exact ih.2 i x y hx hy
  exact .tup this.1 this.2

theorem Fz.vr {S S' : Nat → Prop} {w : World} {ρ ρ2 : Rho} {h' : Heap} (hsim : Sim ρ h' S w) (hS : ∀ b, S b → S' b) (hO : ∀ b, Own ρ h' b → S' b) {x y : AV} (h : Fz h' x y) : ∀ {v : Value}, VR S w ρ x v → VR S' w ρ2 y v := by
  induction h with
  | same hp => intro v hv; exact (hv.mono (fun b hb => ⟨hS b hb, rfl⟩) (fun _ _ h => h)).plain hp
  | own hb hlen hpl =>
    intro v hv
    rcases hsim.blk _ _ hb with ⟨r, h1, h2, h3, h4⟩ | ⟨h1, sz', h2⟩
    · exact hv.lent h1 h2 hlen hpl hS (hO _ ⟨_, _, r, hb, h1, rfl⟩) _
    · simp only [Blk.cells.injEq] at h2
      obtain ⟨rfl, rfl⟩ := h2
      simp only [List.length_nil, Nat.le_zero, Nat.add_eq_zero_iff] at hlen
      obtain ⟨rfl, rfl⟩ := hlen
      cases hv with
      | own q _ _ => rw [h1] at q; cases q
      | own0 => exact .sl0
  | @tup aa ys hl _ ih =>
    intro v hv
    cases hv with
    | tup vs h1 h2 => exact .tup vs (hl.symm.trans h1) (fun i y u hy hu => by
        obtain ⟨x, hx⟩ : ∃ x, aa[i]? = some x := ⟨_, List.getElem?_eq_getElem (by rw [hl]; exact (List.getElem?_eq_some_iff.1 hy).1)⟩
        exact ih i x y hx hy (h2 i x u hx hu))
  | @agg aa ys hl _ ih =>
    intro v hv
    cases hv with
    | agg vs h1 h2 => exact .agg vs (hl.symm.trans h1) (fun i y u hy hu => by
        obtain ⟨x, hx⟩ : ∃ x, aa[i]? = some x := ⟨_, List.getElem?_eq_getElem (by rw [hl]; exact (List.getElem?_eq_some_iff.1 hy).1)⟩
        exact ih i x y hx hy (h2 i x u hx hu))

/-- A call that is handed nothing that it may write: the heap stays. -/
theorem op_callq {tm : List (Nat × AV)} {h : Heap} {fo : Operand} {xs : Array Operand} {ts : Array TypeId} {f : FuncId} {fn : Func} {first caps : List AV} {al : Bool} {args largs : List AV} {Q : AV → Heap → Nat → Prop} {v : AV}
    (hac : AC P f largs [] 0 al Q) (hf : P.funcs[f]? = some fn) (hn : (fn.name == "runtime.NumGoroutine") = false ∧ fn.body.isNone = false)
    (hfo : oev tm fo = .fn (.func f) first caps) (hargs : oevsS tm xs.toList = some args)
    (hlend : ∀ nx, Lends al h (swp [] 0 nx) [] (first ++ (args ++ caps)) largs) (hq : ∀ r h' nx', Q r h' nx' → Fz h' r v) :
    OpQ P (.call { callee := .value fo, args := xs, argTypes := ts }) tm h v := by
  intro nx c n ρ S a w hr o ho
  refine (call_does f first caps [] 0 al [] [] _ largs _ ho hfo (by rw [oevsS_spec _ _ hargs]) (AC.calls hf hn) rfl (fun p hp => by cases hp) rfl (hlend nx) hac hr).mono fun u w' hx => ?_
  obtain ⟨r, h', nx', ρ', S', hQ, hv, hs, hf', hdm, hp⟩ := hx
  have no : ∀ b, ¬ Own (fun b => ρ (swp [] 0 nx b)) [] b := fun b ⟨i, B, q, e, _⟩ => by cases e
  have hsame : Same w w' := ⟨hp.os, hp.tape, hp.output, hp.size, fun k hk => hp.keep k hk (no k)⟩
  let S2 : Nat → Prop := fun b => S b ∨ (w.heap.size ≤ b ∧ b < w'.heap.size)
  have g1 : ∀ b, S b → S2 b := fun b hb => .inl hb
  have hr2 := hr.grow (S' := S2) g1 (fun b hb => hb.imp id (fun h => h.1)) (fun b hb => hb.elim (fun h => Nat.lt_of_lt_of_le (hr.sim.lt b h) hp.size) (fun h => h.2)) hsame
  refine ⟨ρ, S2, hr2, ?_, fun _ _ h => h, fun b hb => ⟨.inl hb, hsame.block b (hr.sim.lt b hb)⟩⟩
  refine (hq r h' nx' hQ).vr hs (fun b hb => ?_) (fun b hb => ?_) hv
  · rcases hp.s b hb with ⟨h1, h2 | ⟨h2, _⟩⟩ | h2
    · exact .inl h2
    · rw [h1] at h2; cases h2
    · exact .inr ⟨h2, hs.lt b hb⟩
  · rcases hp.own b hb with h1 | h1
    · exact (no b h1).elim
    · obtain ⟨i, B, q, e1, e2, rfl⟩ := hb
      rcases hs.blk i B e1 with ⟨q', k1, _, _, k4⟩ | ⟨k1, _⟩
      · obtain rfl := Option.some.inj (k1.symm.trans e2)
        exact .inr ⟨h1, k4⟩
      · rw [e2] at k1; cases k1

/-- A row that is written out and read alone. -/
theorem op_bslF {tm : List (Nat × AV)} {h : Heap} {t e : TypeId} {len sz bytes : Nat} {parts : Array (Nat × Operand)} {z : Value} {vs : List AV} (hu : P.underlying t = some (.slice e)) (hi : (P.info? e).map (fun i => (i.zero, i.size, i.bytes)) = some (some z, sz, bytes)) (hzs : z.cells.size = sz ∧ ∀ (i : Nat) (u : Value), z.cells[i]? = some u → u.oneCell' = true)
    (hs : 0 < sz) (hl : parts.toList.map (·.1) = List.range len) (hv : oevsS tm (parts.toList.map (·.2)) = some vs) (hk : (vs.all fun v => v.known && Nat.beq v.cells.length sz) = true) (hpl : vs.all AV.plain = true) (hsm : len * sz ≤ 16777216) :
    OpQ P (.buildSlice t len parts) tm h (.sl sz vs) := by
  intro nx c n ρ S a w hr o ho
  have hk' : ∀ v ∈ vs, v.known = true ∧ v.cells.length = sz := fun v hv => by
    have := List.all_eq_true.1 hk v hv
    simp only [Bool.and_eq_true] at this
    exact ⟨this.1, Nat.eq_of_beq_eq_true this.2⟩
  obtain ⟨us, u2, husz, hvl, hrun⟩ := bsl_raw (vs := vs) hu hi hzs.1 hzs.2 hs hl (by rw [← oevsS_spec _ _ hv, List.map_map]; rfl) hk' hsm hr
  unfold Does
  rw [hrun o ho]
  have hsame := Same.alloc w (.cells us e)
  have hnew := heap_alloc_new w (.cells us e)
  have hsz : (w.alloc (.cells us e)).heap.size = w.heap.size + 1 := by simp
  refine ⟨ρ, fun b => S b ∨ b = w.heap.size, hr.grow (fun b hb => .inl hb) (fun b hb => hb.imp id (fun h => Nat.le_of_eq h.symm)) (fun b hb => ?_) hsame, ?_, fun _ _ h => h, fun b hb => ⟨.inl hb, hsame.block b (hr.sim.lt b hb)⟩⟩
  · rw [hsz]
    rcases hb with h | h
    · exact Nat.lt_succ_of_lt (hr.sim.lt b h)
    · omega
  · have := @VR.sl (fun b => S b ∨ b = w.heap.size) (w.alloc (.cells us e)) ρ sz vs w.heap.size 0 len us.toList (.inr rfl) (by rw [u2.1]; simp) (fun v hv => (hk' v hv).2) (by omega) (fun i u hu => ?_) (fun i x u hx hu => ?_)
    · rw [hvl] at this; exact this
    · rw [Array.getElem?_toList] at hu
      exact ⟨by rw [Nat.zero_add, cell_of hnew]; exact hu, u2.2.1 i u hu⟩
    · rw [Array.getElem?_toList] at hu
      have hp := all_get (plain_flat hpl) hx
      exact ((u2.2.2 i x u hx hu).mono (fun b hb => ⟨.inl hb, hsame.block b (hr.sim.lt b hb)⟩) (fun _ _ h => h)).plain hp

/-- A text's bytes, as a row that is read alone. -/
theorem op_toBytes {tm : List (Nat × AV)} {h : Heap} {s d e : TypeId} {x : Operand} {l : List UInt8} (hs : P.underlying s = some .string) (hd : P.underlying d = some (.slice e)) (he : P.underlying e = some (.int .u8)) (hx : oev tm x = sb l) : OpQ P (.convert s d x) tm h (.sl 1 (bl l)) := by
  intro nx c n ρ S a w hr o ho
  have hsame : Same w (w.drew.alloc (.cells (bytesRow ⟨l.toArray⟩ (grownCap w l.length 0 e)) e ((bytesRow ⟨l.toArray⟩ (grownCap w l.length 0 e)).size, (bytesRow ⟨l.toArray⟩ (grownCap w l.length 0 e)).size + 1))) := (Same.drew w).trans (Same.alloc w.drew _)
  have hsl : (⟨l.toArray⟩ : ByteArray).size = l.length := by simp [ByteArray.size]
  have hrun : (execOp a.eval o).run P w = .ok (.value (.slice (some ⟨w.heap.size, 0, none⟩) l.length (grownCap w l.length 0 e))) (w.drew.alloc (.cells (bytesRow ⟨l.toArray⟩ (grownCap w l.length 0 e)) e ((bytesRow ⟨l.toArray⟩ (grownCap w l.length 0 e)).size, (bytesRow ⟨l.toArray⟩ (grownCap w l.length 0 e)).size + 1))) := by
    have h1 := run_bytes_of_string (P := P) w s d e ⟨l.toArray⟩ hs hd he
    rw [hsl] at h1
    unfold execOp; rw [ho]
    simp only [ev_str hr hx, Sem.run_bind, h1, Result.andThen_ok]
    rfl
  unfold Does
  rw [hrun]
  generalize hw' : w.drew.alloc _ = w' at hsame
  have hnew : ∃ fr, w'.heap[w.heap.size]? = some (.cells (bytesRow ⟨l.toArray⟩ (grownCap w l.length 0 e)) e fr) := by
    rw [← hw']
    exact ⟨_, heap_alloc_new w.drew _⟩
  have hsz : w'.heap.size = w.heap.size + 1 := by rw [← hw']; simp [World.alloc, World.drew, -World.alloc_eq, -World.drew_eq]
  clear hw' hrun
  obtain ⟨fr, hnew⟩ := hnew
  refine ⟨ρ, fun b => S b ∨ b = w.heap.size, hr.grow (fun b hb => .inl hb) (fun b hb => hb.imp id (fun h => Nat.le_of_eq h.symm)) (fun b hb => ?_) hsame, ?_, fun _ _ h => h, fun b hb => ⟨.inl hb, hsame.block b (hr.sim.lt b hb)⟩⟩
  · rw [hsz]
    rcases hb with h | h
    · exact Nat.lt_succ_of_lt (hr.sim.lt b h)
    · omega
  · have hbl : (bl l).length = l.length := by simp [bl]
    have := @VR.sl (fun b => S b ∨ b = w.heap.size) w' ρ 1 (bl l) w.heap.size 0 (grownCap w l.length 0 e) (l.map fun b => Value.int .u8 b.toNat) (.inr rfl) (by rw [flat_bl, hbl, List.length_map]) (fun v hv => ?_) (by rw [hbl]; exact grownCap_ge _ _ _ _) (fun i u hu => ?_) (fun i x u hx hu => ?_)
    · rw [hbl] at this; exact this
    · obtain ⟨q, _, rfl⟩ := List.mem_map.1 hv; rfl
    · rw [List.getElem?_map] at hu
      obtain ⟨q, hq, rfl⟩ := Option.map_eq_some_iff.1 hu
      have hi : i < l.length := (List.getElem?_eq_some_iff.1 hq).1
      have := bytesRow_at ⟨l.toArray⟩ (grownCap w l.length 0 e) i (by simpa using hi)
      refine ⟨by rw [Nat.zero_add, cell_of hnew, this]; simp only [List.getElem_toArray]; rw [(List.getElem?_eq_some_iff.1 hq).2], rfl⟩
    · rw [flat_bl] at hx
      simp only [bl, List.getElem?_map] at hx hu
      obtain ⟨q, hq, rfl⟩ := Option.map_eq_some_iff.1 hx
      rw [hq] at hu
      obtain rfl := Option.some.inj hu
      exact .int

end
end Go.Proofs.Ytpggknkhldecaaa.Abs
end
section
/- Facts on the program's types, as a program prints them off its dump. -/
namespace Go.Proofs.Ytpggknkhldecaaa.Abs
theorem ones_of {z : Array Value} (h : z.toList.all (fun u => u.oneCell') = true) : ∀ (i : Nat) (u : Value), z[i]? = some u → u.oneCell' = true := fun i u hu =>
  List.all_eq_true.1 h u (by rw [← Array.getElem?_toList] at hu; exact List.mem_of_getElem? hu)
theorem z2 : (Try.prog.info? 2).map (·.size) = some 1 := by kernel_rfl
theorem i2 : (Try.prog.info? 2).map (fun i => (i.zero, i.size, i.bytes)) = some (some (.int .i64 0), 1, 8) := by kernel_rfl
theorem a2 : (Try.prog.info? 2).map (·.zero) = some (some (.int .i64 0)) := by kernel_rfl
theorem o2 : (Value.cells (.int .i64 0)).size = 1 ∧ ∀ (i : Nat) (u : Value), (Value.cells (.int .i64 0))[i]? = some u → u.oneCell' = true := ⟨rfl, ones_of rfl⟩
theorem z3 : (Try.prog.info? 3).map (·.size) = some 1 := by kernel_rfl
theorem i3 : (Try.prog.info? 3).map (fun i => (i.zero, i.size, i.bytes)) = some (some (.int .i64 0), 1, 8) := by kernel_rfl
theorem a3 : (Try.prog.info? 3).map (·.zero) = some (some (.int .i64 0)) := by kernel_rfl
theorem o3 : (Value.cells (.int .i64 0)).size = 1 ∧ ∀ (i : Nat) (u : Value), (Value.cells (.int .i64 0))[i]? = some u → u.oneCell' = true := ⟨rfl, ones_of rfl⟩
theorem z4 : (Try.prog.info? 4).map (·.size) = some 1 := by kernel_rfl
theorem i4 : (Try.prog.info? 4).map (fun i => (i.zero, i.size, i.bytes)) = some (some (.bool false), 1, 1) := by kernel_rfl
theorem a4 : (Try.prog.info? 4).map (·.zero) = some (some (.bool false)) := by kernel_rfl
theorem z5 : (Try.prog.info? 5).map (·.size) = some 1 := by kernel_rfl
theorem i5 : (Try.prog.info? 5).map (fun i => (i.zero, i.size, i.bytes)) = some (some (.int .u8 0), 1, 1) := by kernel_rfl
theorem a5 : (Try.prog.info? 5).map (·.zero) = some (some (.int .u8 0)) := by kernel_rfl
theorem a6 : (Try.prog.info? 6).map (·.zero) = some (some (.int .u8 0)) := by kernel_rfl
theorem a7 : (Try.prog.info? 7).map (·.zero) = some (some (.agg #[.int .i64 0, .int .i64 0, .bool false, .int .u8 0])) := by kernel_rfl
theorem z9 : (Try.prog.info? 9).map (·.size) = some 1 := by kernel_rfl
theorem i9 : (Try.prog.info? 9).map (fun i => (i.zero, i.size, i.bytes)) = some (some (.string ByteArray.empty), 1, 16) := by kernel_rfl
theorem o9 : (Value.cells (.string ByteArray.empty)).size = 1 ∧ ∀ (i : Nat) (u : Value), (Value.cells (.string ByteArray.empty))[i]? = some u → u.oneCell' = true := ⟨rfl, ones_of rfl⟩
theorem z22 : (Try.prog.info? 22).map (·.size) = some 1 := by kernel_rfl
theorem z23 : (Try.prog.info? 23).map (·.size) = some 1 := by kernel_rfl
theorem z24 : (Try.prog.info? 24).map (·.size) = some 1 := by kernel_rfl
theorem z26 : (Try.prog.info? 26).map (·.size) = some 4 := by kernel_rfl
theorem a26 : (Try.prog.info? 26).map (·.zero) = some (some (.agg #[.int .i64 0, .int .i64 0, .slice none 0 0, .slice none 0 0])) := by kernel_rfl
theorem z49 : (Try.prog.info? 49).map (·.size) = some 3 := by kernel_rfl
theorem i49 : (Try.prog.info? 49).map (fun i => (i.zero, i.size, i.bytes)) = some (some (.agg #[.int .i64 0, .int .i64 0, .int .i64 0]), 3, 24) := by kernel_rfl
theorem a49 : (Try.prog.info? 49).map (·.zero) = some (some (.agg #[.int .i64 0, .int .i64 0, .int .i64 0])) := by kernel_rfl
theorem o49 : (Value.cells (.agg #[.int .i64 0, .int .i64 0, .int .i64 0])).size = 3 ∧ ∀ (i : Nat) (u : Value), (Value.cells (.agg #[.int .i64 0, .int .i64 0, .int .i64 0]))[i]? = some u → u.oneCell' = true := ⟨rfl, ones_of rfl⟩
theorem z50 : (Try.prog.info? 50).map (·.size) = some 3 := by kernel_rfl
theorem i50 : (Try.prog.info? 50).map (fun i => (i.zero, i.size, i.bytes)) = some (some (.agg #[.int .i64 0, .int .i64 0, .int .i64 0]), 3, 24) := by kernel_rfl
theorem a50 : (Try.prog.info? 50).map (·.zero) = some (some (.agg #[.int .i64 0, .int .i64 0, .int .i64 0])) := by kernel_rfl
theorem o50 : (Value.cells (.agg #[.int .i64 0, .int .i64 0, .int .i64 0])).size = 3 ∧ ∀ (i : Nat) (u : Value), (Value.cells (.agg #[.int .i64 0, .int .i64 0, .int .i64 0]))[i]? = some u → u.oneCell' = true := ⟨rfl, ones_of rfl⟩
theorem z61 : (Try.prog.info? 61).map (·.size) = some 3 := by kernel_rfl
theorem i64 : (Try.prog.info? 64).map (fun i => (i.zero, i.size, i.bytes)) = some (some (.agg #[.string ByteArray.empty, .string ByteArray.empty, .bool false]), 3, 40) := by kernel_rfl
theorem z65 : (Try.prog.info? 65).map (·.size) = some 3 := by kernel_rfl
theorem i65 : (Try.prog.info? 65).map (fun i => (i.zero, i.size, i.bytes)) = some (some (.agg #[.string ByteArray.empty, .string ByteArray.empty, .bool false]), 3, 40) := by kernel_rfl
theorem a65 : (Try.prog.info? 65).map (·.zero) = some (some (.agg #[.string ByteArray.empty, .string ByteArray.empty, .bool false])) := by kernel_rfl
theorem o65 : (Value.cells (.agg #[.string ByteArray.empty, .string ByteArray.empty, .bool false])).size = 3 ∧ ∀ (i : Nat) (u : Value), (Value.cells (.agg #[.string ByteArray.empty, .string ByteArray.empty, .bool false]))[i]? = some u → u.oneCell' = true := ⟨rfl, ones_of rfl⟩
theorem z67 : (Try.prog.info? 67).map (·.size) = some 4 := by kernel_rfl
theorem i67 : (Try.prog.info? 67).map (fun i => (i.zero, i.size, i.bytes)) = some (some (.agg #[.string ByteArray.empty, .int .i64 0, .string ByteArray.empty, .bool false]), 4, 48) := by kernel_rfl
theorem a67 : (Try.prog.info? 67).map (·.zero) = some (some (.agg #[.string ByteArray.empty, .int .i64 0, .string ByteArray.empty, .bool false])) := by kernel_rfl
theorem o67 : (Value.cells (.agg #[.string ByteArray.empty, .int .i64 0, .string ByteArray.empty, .bool false])).size = 4 ∧ ∀ (i : Nat) (u : Value), (Value.cells (.agg #[.string ByteArray.empty, .int .i64 0, .string ByteArray.empty, .bool false]))[i]? = some u → u.oneCell' = true := ⟨rfl, ones_of rfl⟩
theorem a69 : (Try.prog.info? 69).map (·.zero) = some (some (.agg #[.slice none 0 0, .int .i64 0])) := by kernel_rfl
end Go.Proofs.Ytpggknkhldecaaa.Abs
end
section
/-
  Names: package key and its reference.
-/
namespace Go.Proofs.Ytpggknkhldecaaa.Abs

def signB (c : UInt8) : Bool := decide (33 ≤ c.toNat) && decide (c.toNat ≤ 126)
def mayB (k : List UInt8) : Bool := k.all signB && (decide (1 ≤ k.length) && decide (k.length ≤ 8))
def shardN (n : Nat) (k : List UInt8) : Nat := k.foldl (fun s c => (s + c.toNat) % n) 0
def shardI (k : List UInt8) (n : Int) : Int := if n < 1 then 0 else (shardN n.toNat k : Nat)

theorem shard_take {n i : Nat} {k : List UInt8} {c : UInt8} (hc : k[i]? = some c) : shardN n (k.take (i + 1)) = (shardN n (k.take i) + c.toNat) % n := by
  unfold shardN
  rw [List.take_add_one, hc]
  simp
theorem tmod_nat (a b : Nat) : Int.tmod (a : Int) (b : Int) = ((a % b : Nat) : Int) := rfl

theorem key_Shard (k : List UInt8) (n : Int) (hk : k.length ≤ 281474976710656) (hn : n ≤ 9223372036854775807) : AC Try.prog 58 [sb k, .int .i64 n] [] 0 false (fun r h nx => r = .int .i64 (shardI k n) ∧ h = [] ∧ nx = 0) := by
  by_cases h1 : n < 1
  · skip
    refine ac_fn Try.func58 rfl rfl rfl rfl (fun w0 S0 r0 => ?_)
    refine aw_seq ?_
    refine aw_region ?_
    refine st_p (mva rfl) rfl ?_
    refine al_nil ?_
    refine nm ?_
    refine aw_seq ?_
    refine aw_seq ?_
    refine aw_region ?_
    refine st_p (mv rfl) rfl ?_
    refine st_p (OpP.conv (op_lt rfl rfl) (yes (by first | assumption | omega))) rfl ?_
    refine al_nil ?_
    refine nm ?_
    -- IF t8
    refine aw_yes (rfl) ?_
    refine aw_seq ?_
    refine aw_region ?_
    refine st_p (mva rfl) rfl ?_
    refine al_nil ?_
    refine nm ?_
    refine aw_ret ?_
    refine rs ?_
    exact ret_v (res1 Try.results58) (.inr ⟨rfl, rfl⟩) ⟨by unfold shardI; rw [if_pos h1]; rfl, rfl, rfl⟩
  · obtain ⟨m, rfl⟩ : ∃ m : Nat, n = m := ⟨n.toNat, by omega⟩
    have hm : 0 < m := by omega
    refine ac_fn Try.func58 rfl rfl rfl rfl (fun w0 S0 r0 => ?_)
    refine aw_seq ?_
    refine aw_region ?_
    refine st_p (mva rfl) rfl ?_
    refine al_nil ?_
    refine nm ?_
    refine aw_seq ?_
    refine aw_seq ?_
    refine aw_region ?_
    refine st_p (mv rfl) rfl ?_
    refine st_p (OpP.conv (op_lt rfl rfl) (no (by first | assumption | omega))) rfl ?_
    refine al_nil ?_
    refine nm ?_
    -- IF t8
    refine aw_no (rfl) ?_
    refine aw_skip ?_
    refine nm ?_
    refine aw_seq ?_
    refine aw_region ?_
    refine st_p (mva rfl) rfl ?_
    refine al_nil ?_
    refine nm ?_
    refine aw_seq ?_
    refine aw_seq ?_
    refine aw_region ?_
    refine st_p (mv rfl) rfl ?_
    refine st_p (op_lens Try.underlying9 rfl) rfl ?_
    refine st_p (mv rfl) rfl ?_
    refine al_nil ?_
    refine nm ?_
    refine aw_block ?_
    -- LOOP
    refine aw_loop (fun p : {p : Nat × Nat // p.1 ≤ k.length ∧ p.2 = shardN m (k.take p.1) ∧ p.2 ≤ 255 * p.1} => ⟨[(0, sb k), (1, .int .i64 m), (5, .int .i64 p.1.2), (10, .int .i64 k.length), (11, .int .i64 p.1.1)], [], 0⟩) (fun p => k.length - p.1.1) ⟨(0, 0), Nat.zero_le _, rfl, Nat.le_refl _⟩ ?_ ?_
    · exact le_to [] rfl rfl rfl rfl rfl ⟨rfl, rfl, rfl, rfl, rfl, trivial⟩ trivial
    · rintro ⟨⟨i, s⟩, hi, hs, hb⟩
      dsimp only at hi hs hb ⊢
      by_cases hlt : i < k.length
      · obtain ⟨c, hc⟩ : ∃ c, k[i]? = some c := ⟨_, List.getElem?_eq_getElem hlt⟩
        have hcl := c.toNat_lt
        have hcm : c.toNat % m ≤ c.toNat := Nat.mod_le _ _
        have hcm2 : Int.tmod (c.toNat : Int) (m : Int) = ((c.toNat % m : Nat) : Int) := tmod_nat _ _
        have hle : (s + c.toNat % m) % m ≤ s + c.toNat % m := Nat.mod_le _ _
        refine aw_seq ?_
        refine aw_region ?_
        refine st_p (OpP.conv (op_lt rfl rfl) (yes (by first | assumption | omega))) rfl ?_
        refine al_nil ?_
        refine nm ?_
        refine aw_seq ?_
        -- IF t12
        refine aw_yes (rfl) ?_
        refine aw_skip ?_
        refine nm ?_
        refine aw_seq ?_
        refine aw_block ?_
        refine aw_seq ?_
        refine aw_region ?_
        refine st_p (mv rfl) rfl ?_
        refine st_p (mva rfl) rfl ?_
        refine al_nil ?_
        refine nm ?_
        refine aw_region ?_
        refine st_p (mv rfl) rfl ?_
        refine st_p (mv rfl) rfl ?_
        refine st_p (mv rfl) rfl ?_
        refine st_p (op_index Try.underlying9 rfl rfl (by omega) (by first | assumption | rfl)) rfl ?_
        refine st_p (op_convi (by rw [Try.underlying5]; rfl) Try.underlying3 rfl (by omega)) rfl ?_
        refine st_p (mv rfl) rfl ?_
        refine st_p (op_remi rfl rfl (by omega) (by omega)) rfl ?_
        refine st_p (op_addi rfl rfl (by omega)) rfl ?_
        refine st_p (mv rfl) rfl ?_
        refine st_p (op_remi rfl rfl (by omega) (by omega)) rfl ?_
        refine st_p (mva rfl) rfl ?_
        refine al_nil ?_
        refine nmb ?_
        refine nm ?_
        refine aw_region ?_
        refine st_p (op_addi rfl rfl (by omega)) rfl ?_
        refine st_p (mv rfl) rfl ?_
        refine al_nil ?_
        refine nm ?_
        refine ⟨⟨(i + 1, (s + c.toNat % m) % m), hlt, by rw [shard_take hc, ← hs, Nat.add_mod_mod], by dsimp only; omega⟩, by dsimp only; omega, le_to [] rfl rfl rfl rfl rfl ⟨rfl, rfl, ?_, rfl, rfl, trivial⟩ trivial⟩
        rfl
      · have e : k.take i = k := List.take_of_length_le (by omega)
        refine aw_seq ?_
        refine aw_region ?_
        refine st_p (OpP.conv (op_lt rfl rfl) (no (by first | assumption | omega))) rfl ?_
        refine al_nil ?_
        refine nm ?_
        refine aw_seq ?_
        -- IF t12
        refine aw_no (rfl) ?_
        refine aw_exit ?_
        refine xs ?_
        refine xs ?_
        refine xb ?_
        refine nm ?_
        refine aw_seq ?_
        refine aw_region ?_
        refine st_p (mv rfl) rfl ?_
        refine st_p (mva rfl) rfl ?_
        refine al_nil ?_
        refine nm ?_
        refine aw_ret ?_
        exact ret_v (res1 Try.results58) (.inr ⟨rfl, rfl⟩) ⟨by unfold shardI; rw [if_neg h1, Int.toNat_natCast, ← e, ← hs]; rfl, rfl, rfl⟩

theorem ref_ShardOf (k : List UInt8) (n : Int) (hk : k.length ≤ 281474976710656) (hn : n ≤ 9223372036854775807) : AC Try.prog 61 [sb k, .int .i64 n] [] 0 false (fun r h nx => r = .int .i64 (shardI k n) ∧ h = [] ∧ nx = 0) := by
  by_cases h1 : n < 1
  · skip
    refine ac_fn Try.func61 rfl rfl rfl rfl (fun w0 S0 r0 => ?_)
    refine aw_seq ?_
    refine aw_region ?_
    refine st_p (mva rfl) rfl ?_
    refine al_nil ?_
    refine nm ?_
    refine aw_seq ?_
    refine aw_seq ?_
    refine aw_region ?_
    refine st_p (mv rfl) rfl ?_
    refine st_p (OpP.conv (op_lt rfl rfl) (yes (by first | assumption | omega))) rfl ?_
    refine al_nil ?_
    refine nm ?_
    -- IF t8
    refine aw_yes (rfl) ?_
    refine aw_seq ?_
    refine aw_region ?_
    refine st_p (mva rfl) rfl ?_
    refine al_nil ?_
    refine nm ?_
    refine aw_ret ?_
    refine rs ?_
    exact ret_v (res1 Try.results61) (.inr ⟨rfl, rfl⟩) ⟨by unfold shardI; rw [if_pos h1]; rfl, rfl, rfl⟩
  · obtain ⟨m, rfl⟩ : ∃ m : Nat, n = m := ⟨n.toNat, by omega⟩
    have hm : 0 < m := by omega
    refine ac_fn Try.func61 rfl rfl rfl rfl (fun w0 S0 r0 => ?_)
    refine aw_seq ?_
    refine aw_region ?_
    refine st_p (mva rfl) rfl ?_
    refine al_nil ?_
    refine nm ?_
    refine aw_seq ?_
    refine aw_seq ?_
    refine aw_region ?_
    refine st_p (mv rfl) rfl ?_
    refine st_p (OpP.conv (op_lt rfl rfl) (no (by first | assumption | omega))) rfl ?_
    refine al_nil ?_
    refine nm ?_
    -- IF t8
    refine aw_no (rfl) ?_
    refine aw_skip ?_
    refine nm ?_
    refine aw_seq ?_
    refine aw_region ?_
    refine st_p (mva rfl) rfl ?_
    refine al_nil ?_
    refine nm ?_
    refine aw_seq ?_
    refine aw_seq ?_
    refine aw_region ?_
    refine st_p (mva rfl) rfl ?_
    refine al_nil ?_
    refine nm ?_
    refine aw_block ?_
    -- LOOP
    refine aw_loop (fun p : {p : Nat × Nat // p.1 ≤ k.length ∧ p.2 = shardN m (k.take p.1) ∧ p.2 ≤ 255 * p.1} => ⟨[(0, sb k), (1, .int .i64 m), (5, .int .i64 p.1.2), (6, .int .i64 p.1.1)], [], 0⟩) (fun p => k.length - p.1.1) ⟨(0, 0), Nat.zero_le _, rfl, Nat.le_refl _⟩ ?_ ?_
    · exact le_to [] rfl rfl rfl rfl rfl ⟨rfl, rfl, rfl, rfl, trivial⟩ trivial
    · rintro ⟨⟨i, s⟩, hi, hs, hb⟩
      dsimp only at hi hs hb ⊢
      by_cases hlt : i < k.length
      · obtain ⟨c, hc⟩ : ∃ c, k[i]? = some c := ⟨_, List.getElem?_eq_getElem hlt⟩
        have hcl := c.toNat_lt
        have hle : (s + c.toNat) % m ≤ s + c.toNat := Nat.mod_le _ _
        refine aw_seq ?_
        refine aw_seq ?_
        refine aw_region ?_
        refine st_p (mv rfl) rfl ?_
        refine st_p (mv rfl) rfl ?_
        refine st_p (op_lens Try.underlying9 rfl) rfl ?_
        refine st_p (OpP.conv (op_lt rfl rfl) (yes (by first | assumption | omega))) rfl ?_
        refine al_nil ?_
        refine nm ?_
        -- IF t12
        refine aw_yes (rfl) ?_
        refine aw_skip ?_
        refine nm ?_
        refine aw_seq ?_
        refine aw_block ?_
        refine aw_region ?_
        refine st_p (mv rfl) rfl ?_
        refine st_p (mv rfl) rfl ?_
        refine st_p (mv rfl) rfl ?_
        refine st_p (op_index Try.underlying9 rfl rfl (by omega) (by first | assumption | rfl)) rfl ?_
        refine st_p (op_convi (by rw [Try.underlying5]; rfl) Try.underlying3 rfl (by omega)) rfl ?_
        refine st_p (op_addi rfl rfl (by omega)) rfl ?_
        refine st_p (mv rfl) rfl ?_
        refine st_p (op_remi rfl rfl (by omega) (by omega)) rfl ?_
        refine st_p (mva rfl) rfl ?_
        refine al_nil ?_
        refine nmb ?_
        refine nm ?_
        refine aw_region ?_
        refine st_p (mv rfl) rfl ?_
        refine st_p (op_addi rfl rfl (by omega)) rfl ?_
        refine st_p (mva rfl) rfl ?_
        refine al_nil ?_
        refine nm ?_
        exact ⟨⟨(i + 1, (s + c.toNat) % m), hlt, by rw [shard_take hc, ← hs], by dsimp only; omega⟩, by dsimp only; omega, le_to [] rfl rfl rfl rfl rfl ⟨rfl, rfl, rfl, rfl, trivial⟩ trivial⟩
      · have e : k.take i = k := List.take_of_length_le (by omega)
        refine aw_seq ?_
        refine aw_seq ?_
        refine aw_region ?_
        refine st_p (mv rfl) rfl ?_
        refine st_p (mv rfl) rfl ?_
        refine st_p (op_lens Try.underlying9 rfl) rfl ?_
        refine st_p (OpP.conv (op_lt rfl rfl) (no (by first | assumption | omega))) rfl ?_
        refine al_nil ?_
        refine nm ?_
        -- IF t12
        refine aw_no (rfl) ?_
        refine aw_exit ?_
        refine xs ?_
        refine xs ?_
        refine xb ?_
        refine nm ?_
        refine aw_seq ?_
        refine aw_region ?_
        refine st_p (mv rfl) rfl ?_
        refine st_p (mva rfl) rfl ?_
        refine al_nil ?_
        refine nm ?_
        refine aw_ret ?_
        exact ret_v (res1 Try.results61) (.inr ⟨rfl, rfl⟩) ⟨by unfold shardI; rw [if_neg h1, Int.toNat_natCast, ← e, ← hs]; rfl, rfl, rfl⟩

end Go.Proofs.Ytpggknkhldecaaa.Abs
end
section
/-
  Rows of names that rise.
-/
namespace Go.Proofs.Ytpggknkhldecaaa.Abs

def okAt (l : List (List UInt8)) (j : Nat) : Bool := mayB (l.getD j []) && (j == 0 || bless (l.getD (j - 1) []) (l.getD j []))
def risingB (l : List (List UInt8)) : Bool := (List.range l.length).all (okAt l)

end Go.Proofs.Ytpggknkhldecaaa.Abs
end
section
/-
  Transactions: what they stand for; which reads and writes may be; their keys.
-/
namespace Go.Proofs.Ytpggknkhldecaaa.Abs

structure RD where
  key : List UInt8
  ver : Int
  val : List UInt8
  there : Bool
structure WR where
  key : List UInt8
  val : List UInt8
  gone : Bool
structure TX where
  ses : Int
  seq : Int
  reads : List RD
  writes : List WR

def rdA (r : RD) : AV := .agg [sb r.key, .int .i64 r.ver, sb r.val, .bool r.there]
def wrA (w : WR) : AV := .agg [sb w.key, sb w.val, .bool w.gone]
def txA (t : TX) : AV := .agg [.int .i64 t.ses, .int .i64 t.seq, .sl 4 (t.reads.map rdA), .sl 3 (t.writes.map wrA)]

/-- What is read may be. -/
def readB (r : RD) : Bool := !(!r.there && decide (r.val ≠ []) || r.there && decide (r.ver = 0)) && (decide (0 ≤ r.ver) && decide (r.val.length ≤ 16))
def writeB (w : WR) : Bool := decide (w.val.length ≤ 16) && (!w.gone || decide (w.val = []))

end Go.Proofs.Ytpggknkhldecaaa.Abs
end
section
/-
  Transactions: their keys.
-/
namespace Go.Proofs.Ytpggknkhldecaaa.Abs

theorem txn_keys (t : TX) (hr : t.reads.length ≤ 1000000) (hw : t.writes.length ≤ 1000000) : AC Try.prog 39 [txA t] [] 0 false (fun v h nx => v = .tup [.own 0 0 t.reads.length, .own 1 0 t.writes.length] ∧
    h = [(0, .cells 1 (t.reads.map fun r => sb r.key)), (1, .cells 1 (t.writes.map fun w => sb w.key))] ∧ nx = 2) := by
  obtain ⟨ses, seq, rs, ws⟩ := t
  dsimp only [txA] at hr hw ⊢
  have hrl : (rs.map rdA).length = rs.length := List.length_map _
  have hwl : (ws.map wrA).length = ws.length := List.length_map _
  refine ac_fn Try.func39 rfl rfl rfl rfl (fun w0 S0 r0 => ?_)
  refine aw_seq ?_
  refine aw_region ?_
  refine st_o (bx rfl rfl) rfl ?_
  refine st_p (mva rfl) rfl ?_
  refine st_p (mva rfl) rfl ?_
  refine al_nil ?_
  refine nm ?_
  refine aw_seq ?_
  refine aw_seq ?_
  refine aw_region ?_
  refine st_p (op_fieldAddr Try.underlying26 rfl z23 (by decide) rfl) rfl ?_
  first | refine st_p (op_load1L Try.underlying23 rfl rfl rfl) rfl ?_ | refine st_p (op_load1 Try.underlying23 rfl rfl rfl rfl rfl) rfl ?_ | refine st_p (op_load1 Try.underlying23 rfl rfl rfl (by assumption) rfl) rfl ?_ | refine st_p (op_load1 Try.underlying23 rfl rfl rfl rfl (by assumption)) rfl ?_
  refine st_p (op_len Try.underlying23 rfl) rfl ?_
  refine st_p (mv rfl) rfl ?_
  refine al_nil ?_
  refine nm ?_
  refine aw_block ?_
  -- LOOP
  refine aw_virt 2 1 rfl ?_
  refine aw_virt 3 1 rfl ?_
  refine aw_loop (fun i : {i : Nat // i ≤ rs.length} => ⟨[(1, .ptr 0 0 0), (2, .own 1 0 i.1), (3, .own 2 0 0), (9, .sl 4 (rs.map rdA)), (10, .int .i64 rs.length), (11, .int .i64 i.1)], [(0, .cells 4 [.agg [.int .i64 ses, .int .i64 seq, .sl 4 (rs.map rdA), .sl 3 (ws.map wrA)]]), (1, .cells 1 ((rs.take i.1).map fun r => sb r.key)), (2, .cells 1 [])], 3⟩) (fun i => rs.length - i.1) ⟨0, Nat.zero_le _⟩ ?_ ?_
  · exact le_to [(0, 0), (1, 1), (2, 2)] rfl rfl rfl rfl rfl ⟨rfl, rfl, rfl, rfl, by rw [← hrl]; rfl, rfl, trivial⟩ ⟨rfl, rfl, rfl, trivial⟩
  · rintro ⟨i, hi⟩
    dsimp only
    by_cases hlt : i < rs.length
    · obtain ⟨x, hx⟩ : ∃ x, rs[i]? = some x := ⟨_, List.getElem?_eq_getElem hlt⟩
      have hxb : (rs.map rdA)[((i : Nat) : Int).toNat]? = some (.agg [sb x.key, .int .i64 x.ver, sb x.val, .bool x.there]) := by rw [Int.toNat_natCast, List.getElem?_map, hx]; rfl
      have htl : ((rs.take i).map fun r => sb r.key).length = i := by simp; omega
      refine aw_seq ?_
      refine aw_region ?_
      refine st_p (OpP.conv (op_lt rfl rfl) (yes (by first | assumption | omega))) rfl ?_
      refine al_nil ?_
      refine nm ?_
      refine aw_seq ?_
      -- IF t12
      refine aw_yes (rfl) ?_
      refine aw_skip ?_
      refine nm ?_
      refine aw_seq ?_
      refine aw_block ?_
      refine aw_seq ?_
      refine aw_region ?_
      first | refine st_p (op_indexAddrL Try.underlying23 z67 rfl rfl (by omega) (by first | assumption | rfl)) rfl ?_ | refine st_p (op_indexAddr Try.underlying23 z67 rfl rfl rfl (by omega) (by omega)) rfl ?_
      first | refine st_p (op_loadAL Try.underlying67 rfl z67 rfl rfl) rfl ?_ | refine st_p (op_loadA Try.underlying67 rfl z67 rfl rfl rfl rfl) rfl ?_
      refine st_o (op_alloc a67 rfl rfl) rfl ?_
      first | refine st_n (st1 z67 rfl rfl rfl rfl rfl rfl rfl rfl) ?_ | refine st_n (stA z67 rfl rfl rfl rfl rfl rfl rfl rfl rfl rfl) ?_ | refine st_n (st1s z67 rfl rfl rfl (by assumption) rfl rfl rfl) ?_ | refine st_n (stAs z67 rfl rfl rfl (by assumption) rfl rfl rfl rfl rfl) ?_
      refine al_nil ?_
      refine nm ?_
      refine aw_region ?_
      refine st_p (mv rfl) rfl ?_
      first | refine st_p (op_fieldAddrL Try.underlying67 rfl z9 (by decide) rfl) rfl ?_ | refine st_p (op_fieldAddr Try.underlying67 rfl z9 (by decide) rfl) rfl ?_
      first | refine st_p (op_load1L Try.underlying9 rfl rfl rfl) rfl ?_ | refine st_p (op_load1 Try.underlying9 rfl rfl rfl rfl rfl) rfl ?_ | refine st_p (op_load1 Try.underlying9 rfl rfl rfl (by assumption) rfl) rfl ?_ | refine st_p (op_load1 Try.underlying9 rfl rfl rfl rfl (by assumption)) rfl ?_
      refine st_o (bsl Try.underlying71 i9 o9 (by decide) rfl rfl rfl (by decide)) rfl ?_
      first | refine st_o (op_app Try.underlying71 Try.underlying71 (.inl ⟨_, rfl⟩) i9 o9 rfl rfl rfl (by first | rfl | omega | (simp; done) | (simp; omega)) ((SrcA.whole rfl (by first | rfl | simp)).ok rfl (by first | assumption | intro z hz; simp only [List.mem_singleton, List.drop_zero, List.take_succ_cons, List.take_zero, List.mem_cons, List.not_mem_nil, or_false, List.mem_map] at hz; first | (subst hz; rfl) | (obtain ⟨_, _, rfl⟩ := hz; rfl) | (rcases hz with rfl | rfl <;> rfl))) (by first | omega | (simp; try omega)) rfl) rfl ?_ | refine st_o (op_appN Try.underlying71 Try.underlying71 (.inl ⟨_, rfl⟩) i9 o9 rfl ((SrcA.whole rfl (by first | rfl | simp)).ok rfl (by first | assumption | intro z hz; simp only [List.mem_singleton, List.drop_zero, List.take_succ_cons, List.take_zero, List.mem_cons, List.not_mem_nil, or_false, List.mem_map] at hz; first | (subst hz; rfl) | (obtain ⟨_, _, rfl⟩ := hz; rfl) | (rcases hz with rfl | rfl <;> rfl))) (by first | omega | (simp; try omega))) rfl ?_ | refine st_o (op_app Try.underlying71 Try.underlying71 (.inl ⟨_, rfl⟩) i9 o9 rfl rfl rfl (by first | rfl | omega | (simp; done) | (simp; omega)) ((SrcA.own rfl (by first | omega | (simp; try omega))).ok rfl (by first | assumption | intro z hz; simp only [List.mem_singleton, List.drop_zero, List.take_succ_cons, List.take_zero, List.mem_cons, List.not_mem_nil, or_false, List.mem_map] at hz; first | (subst hz; rfl) | (obtain ⟨_, _, rfl⟩ := hz; rfl) | (rcases hz with rfl | rfl <;> rfl))) (by first | omega | (simp; try omega)) rfl) rfl ?_ | refine st_o (op_appN Try.underlying71 Try.underlying71 (.inl ⟨_, rfl⟩) i9 o9 rfl ((SrcA.own rfl (by first | omega | (simp; try omega))).ok rfl (by first | assumption | intro z hz; simp only [List.mem_singleton, List.drop_zero, List.take_succ_cons, List.take_zero, List.mem_cons, List.not_mem_nil, or_false, List.mem_map] at hz; first | (subst hz; rfl) | (obtain ⟨_, _, rfl⟩ := hz; rfl) | (rcases hz with rfl | rfl <;> rfl))) (by first | omega | (simp; try omega))) rfl ?_ | refine st_o (op_app Try.underlying71 Try.underlying71 (.inl ⟨_, rfl⟩) i9 o9 rfl rfl rfl (by first | rfl | omega | (simp; done) | (simp; omega)) ((SrcA.sl (.inr trivial)).ok rfl (by first | assumption | intro z hz; simp only [List.mem_singleton, List.drop_zero, List.take_succ_cons, List.take_zero, List.mem_cons, List.not_mem_nil, or_false, List.mem_map] at hz; first | (subst hz; rfl) | (obtain ⟨_, _, rfl⟩ := hz; rfl) | (rcases hz with rfl | rfl <;> rfl))) (by first | omega | (simp; try omega)) rfl) rfl ?_ | refine st_o (op_appN Try.underlying71 Try.underlying71 (.inl ⟨_, rfl⟩) i9 o9 rfl ((SrcA.sl (.inr trivial)).ok rfl (by first | assumption | intro z hz; simp only [List.mem_singleton, List.drop_zero, List.take_succ_cons, List.take_zero, List.mem_cons, List.not_mem_nil, or_false, List.mem_map] at hz; first | (subst hz; rfl) | (obtain ⟨_, _, rfl⟩ := hz; rfl) | (rcases hz with rfl | rfl <;> rfl))) (by first | omega | (simp; try omega))) rfl ?_ | refine st_o (op_app Try.underlying71 Try.underlying71 (.inl ⟨_, rfl⟩) i9 o9 rfl rfl rfl (by first | rfl | omega | (simp; done) | (simp; omega)) (SrcA.nils.ok rfl (by intro z hz; cases hz)) (by first | omega | (simp; try omega)) rfl) rfl ?_ | refine st_o (op_appN Try.underlying71 Try.underlying71 (.inl ⟨_, rfl⟩) i9 o9 rfl (SrcA.nils.ok rfl (by intro z hz; cases hz)) (by first | omega | (simp; try omega))) rfl ?_
      refine st_p (mva rfl) rfl ?_
      refine al_nil ?_
      refine nmb ?_
      refine nm ?_
      refine aw_region ?_
      refine st_p (op_addi rfl rfl (by omega)) rfl ?_
      refine st_p (mv rfl) rfl ?_
      refine al_nil ?_
      refine nm ?_
      refine ⟨⟨i + 1, hlt⟩, by dsimp only; omega, le_to [(0, 0), (1, 5), (2, 2)] rfl rfl rfl rfl rfl ⟨rfl, ?_, rfl, rfl, rfl, rfl, trivial⟩ ⟨rfl, ?_, rfl, trivial⟩⟩
      · simp [AV.ren, tget, swp]; omega
      · simp [Blk.ren, hget, swp, AV.ren, List.take_add_one, hx, sb]; rfl
    · have e : rs.take i = rs := List.take_of_length_le (by omega)
      refine aw_seq ?_
      refine aw_region ?_
      refine st_p (OpP.conv (op_lt rfl rfl) (no (by first | assumption | omega))) rfl ?_
      refine al_nil ?_
      refine nm ?_
      refine aw_seq ?_
      -- IF t12
      refine aw_no (rfl) ?_
      refine aw_exit ?_
      refine xs ?_
      refine xs ?_
      refine xb ?_
      refine nm ?_
      refine aw_seq ?_
      refine aw_seq ?_
      refine aw_region ?_
      refine st_p (op_fieldAddr Try.underlying26 rfl z24 (by decide) rfl) rfl ?_
      first | refine st_p (op_load1L Try.underlying24 rfl rfl rfl) rfl ?_ | refine st_p (op_load1 Try.underlying24 rfl rfl rfl rfl rfl) rfl ?_ | refine st_p (op_load1 Try.underlying24 rfl rfl rfl (by assumption) rfl) rfl ?_ | refine st_p (op_load1 Try.underlying24 rfl rfl rfl rfl (by assumption)) rfl ?_
      refine st_p (op_len Try.underlying24 rfl) rfl ?_
      refine st_p (mv rfl) rfl ?_
      refine al_nil ?_
      refine nm ?_
      refine aw_block ?_
      -- LOOP
      refine aw_loop (fun j : {j : Nat // j ≤ ws.length} => ⟨[(1, .ptr 0 0 0), (2, .own 1 0 rs.length), (3, .own 2 0 j.1), (22, .sl 3 (ws.map wrA)), (23, .int .i64 ws.length), (24, .int .i64 j.1)], [(0, .cells 4 [.agg [.int .i64 ses, .int .i64 seq, .sl 4 (rs.map rdA), .sl 3 (ws.map wrA)]]), (1, .cells 1 (rs.map fun r => sb r.key)), (2, .cells 1 ((ws.take j.1).map fun w => sb w.key))], 3⟩) (fun j => ws.length - j.1) ⟨0, Nat.zero_le _⟩ ?_ ?_
      · refine le_to [(0, 0), (1, 1), (2, 2)] rfl rfl rfl rfl rfl ⟨rfl, ?_, rfl, rfl, by rw [← hwl]; rfl, rfl, trivial⟩ ⟨rfl, ?_, rfl, trivial⟩
        · rw [show rs.length = i from by omega]; rfl
        · rw [e]; simp [Blk.ren, hget, swp, AV.ren, sb]
      · rintro ⟨j, hj⟩
        dsimp only
        by_cases hjt : j < ws.length
        · obtain ⟨x, hx⟩ : ∃ x, ws[j]? = some x := ⟨_, List.getElem?_eq_getElem hjt⟩
          have hxb : (ws.map wrA)[((j : Nat) : Int).toNat]? = some (.agg [sb x.key, sb x.val, .bool x.gone]) := by rw [Int.toNat_natCast, List.getElem?_map, hx]; rfl
          have htl : ((ws.take j).map fun w => sb w.key).length = j := by simp; omega
          refine aw_seq ?_
          refine aw_region ?_
          refine st_p (OpP.conv (op_lt rfl rfl) (yes (by first | assumption | omega))) rfl ?_
          refine al_nil ?_
          refine nm ?_
          refine aw_seq ?_
          -- IF t25
          refine aw_yes (rfl) ?_
          refine aw_skip ?_
          refine nm ?_
          refine aw_seq ?_
          refine aw_block ?_
          refine aw_seq ?_
          refine aw_region ?_
          first | refine st_p (op_indexAddrL Try.underlying24 z65 rfl rfl (by omega) (by first | assumption | rfl)) rfl ?_ | refine st_p (op_indexAddr Try.underlying24 z65 rfl rfl rfl (by omega) (by omega)) rfl ?_
          first | refine st_p (op_loadAL Try.underlying65 rfl z65 rfl rfl) rfl ?_ | refine st_p (op_loadA Try.underlying65 rfl z65 rfl rfl rfl rfl) rfl ?_
          refine st_o (op_alloc a65 rfl rfl) rfl ?_
          first | refine st_n (st1 z65 rfl rfl rfl rfl rfl rfl rfl rfl) ?_ | refine st_n (stA z65 rfl rfl rfl rfl rfl rfl rfl rfl rfl rfl) ?_ | refine st_n (st1s z65 rfl rfl rfl (by assumption) rfl rfl rfl) ?_ | refine st_n (stAs z65 rfl rfl rfl (by assumption) rfl rfl rfl rfl rfl) ?_
          refine al_nil ?_
          refine nm ?_
          refine aw_region ?_
          refine st_p (mv rfl) rfl ?_
          first | refine st_p (op_fieldAddrL Try.underlying65 rfl z9 (by decide) rfl) rfl ?_ | refine st_p (op_fieldAddr Try.underlying65 rfl z9 (by decide) rfl) rfl ?_
          first | refine st_p (op_load1L Try.underlying9 rfl rfl rfl) rfl ?_ | refine st_p (op_load1 Try.underlying9 rfl rfl rfl rfl rfl) rfl ?_ | refine st_p (op_load1 Try.underlying9 rfl rfl rfl (by assumption) rfl) rfl ?_ | refine st_p (op_load1 Try.underlying9 rfl rfl rfl rfl (by assumption)) rfl ?_
          refine st_o (bsl Try.underlying71 i9 o9 (by decide) rfl rfl rfl (by decide)) rfl ?_
          first | refine st_o (op_app Try.underlying71 Try.underlying71 (.inl ⟨_, rfl⟩) i9 o9 rfl rfl rfl (by first | rfl | omega | (simp; done) | (simp; omega)) ((SrcA.whole rfl (by first | rfl | simp)).ok rfl (by first | assumption | intro z hz; simp only [List.mem_singleton, List.drop_zero, List.take_succ_cons, List.take_zero, List.mem_cons, List.not_mem_nil, or_false, List.mem_map] at hz; first | (subst hz; rfl) | (obtain ⟨_, _, rfl⟩ := hz; rfl) | (rcases hz with rfl | rfl <;> rfl))) (by first | omega | (simp; try omega)) rfl) rfl ?_ | refine st_o (op_appN Try.underlying71 Try.underlying71 (.inl ⟨_, rfl⟩) i9 o9 rfl ((SrcA.whole rfl (by first | rfl | simp)).ok rfl (by first | assumption | intro z hz; simp only [List.mem_singleton, List.drop_zero, List.take_succ_cons, List.take_zero, List.mem_cons, List.not_mem_nil, or_false, List.mem_map] at hz; first | (subst hz; rfl) | (obtain ⟨_, _, rfl⟩ := hz; rfl) | (rcases hz with rfl | rfl <;> rfl))) (by first | omega | (simp; try omega))) rfl ?_ | refine st_o (op_app Try.underlying71 Try.underlying71 (.inl ⟨_, rfl⟩) i9 o9 rfl rfl rfl (by first | rfl | omega | (simp; done) | (simp; omega)) ((SrcA.own rfl (by first | omega | (simp; try omega))).ok rfl (by first | assumption | intro z hz; simp only [List.mem_singleton, List.drop_zero, List.take_succ_cons, List.take_zero, List.mem_cons, List.not_mem_nil, or_false, List.mem_map] at hz; first | (subst hz; rfl) | (obtain ⟨_, _, rfl⟩ := hz; rfl) | (rcases hz with rfl | rfl <;> rfl))) (by first | omega | (simp; try omega)) rfl) rfl ?_ | refine st_o (op_appN Try.underlying71 Try.underlying71 (.inl ⟨_, rfl⟩) i9 o9 rfl ((SrcA.own rfl (by first | omega | (simp; try omega))).ok rfl (by first | assumption | intro z hz; simp only [List.mem_singleton, List.drop_zero, List.take_succ_cons, List.take_zero, List.mem_cons, List.not_mem_nil, or_false, List.mem_map] at hz; first | (subst hz; rfl) | (obtain ⟨_, _, rfl⟩ := hz; rfl) | (rcases hz with rfl | rfl <;> rfl))) (by first | omega | (simp; try omega))) rfl ?_ | refine st_o (op_app Try.underlying71 Try.underlying71 (.inl ⟨_, rfl⟩) i9 o9 rfl rfl rfl (by first | rfl | omega | (simp; done) | (simp; omega)) ((SrcA.sl (.inr trivial)).ok rfl (by first | assumption | intro z hz; simp only [List.mem_singleton, List.drop_zero, List.take_succ_cons, List.take_zero, List.mem_cons, List.not_mem_nil, or_false, List.mem_map] at hz; first | (subst hz; rfl) | (obtain ⟨_, _, rfl⟩ := hz; rfl) | (rcases hz with rfl | rfl <;> rfl))) (by first | omega | (simp; try omega)) rfl) rfl ?_ | refine st_o (op_appN Try.underlying71 Try.underlying71 (.inl ⟨_, rfl⟩) i9 o9 rfl ((SrcA.sl (.inr trivial)).ok rfl (by first | assumption | intro z hz; simp only [List.mem_singleton, List.drop_zero, List.take_succ_cons, List.take_zero, List.mem_cons, List.not_mem_nil, or_false, List.mem_map] at hz; first | (subst hz; rfl) | (obtain ⟨_, _, rfl⟩ := hz; rfl) | (rcases hz with rfl | rfl <;> rfl))) (by first | omega | (simp; try omega))) rfl ?_ | refine st_o (op_app Try.underlying71 Try.underlying71 (.inl ⟨_, rfl⟩) i9 o9 rfl rfl rfl (by first | rfl | omega | (simp; done) | (simp; omega)) (SrcA.nils.ok rfl (by intro z hz; cases hz)) (by first | omega | (simp; try omega)) rfl) rfl ?_ | refine st_o (op_appN Try.underlying71 Try.underlying71 (.inl ⟨_, rfl⟩) i9 o9 rfl (SrcA.nils.ok rfl (by intro z hz; cases hz)) (by first | omega | (simp; try omega))) rfl ?_
          refine st_p (mva rfl) rfl ?_
          refine al_nil ?_
          refine nmb ?_
          refine nm ?_
          refine aw_region ?_
          refine st_p (op_addi rfl rfl (by omega)) rfl ?_
          refine st_p (mv rfl) rfl ?_
          refine al_nil ?_
          refine nm ?_
          refine ⟨⟨j + 1, hjt⟩, by dsimp only; omega, le_to [(0, 0), (1, 1), (2, 5)] rfl rfl rfl rfl rfl ⟨rfl, rfl, ?_, rfl, rfl, rfl, trivial⟩ ⟨rfl, ?_, ?_, trivial⟩⟩
          · simp [AV.ren, tget, swp]; omega
          · simp [Blk.ren, hget, swp, AV.ren, sb]
          · simp [Blk.ren, hget, swp, AV.ren, List.take_add_one, hx, sb]; rfl
        · have e2 : ws.take j = ws := List.take_of_length_le (by omega)
          have e3 : j = ws.length := by omega
          refine aw_seq ?_
          refine aw_region ?_
          refine st_p (OpP.conv (op_lt rfl rfl) (no (by first | assumption | omega))) rfl ?_
          refine al_nil ?_
          refine nm ?_
          refine aw_seq ?_
          -- IF t25
          refine aw_no (rfl) ?_
          refine aw_exit ?_
          refine xs ?_
          refine xs ?_
          refine xb ?_
          refine nm ?_
          refine aw_seq ?_
          refine aw_region ?_
          refine st_p (mv rfl) rfl ?_
          refine st_p (mv rfl) rfl ?_
          refine st_p (mva rfl) rfl ?_
          refine st_p (mva rfl) rfl ?_
          refine al_nil ?_
          refine nm ?_
          refine aw_ret ?_
          refine ret_a ⟨[(2, .own 0 0 rs.length), (3, .own 1 0 ws.length)], [(0, .cells 1 (rs.map fun r => sb r.key)), (1, .cells 1 (ws.map fun w => sb w.key))], 2⟩ (le_to [(0, 1), (1, 2)] rfl rfl rfl rfl rfl ⟨rfl, ?_, trivial⟩ ⟨?_, ?_, trivial⟩) (res2 Try.results39) (.inr ⟨rfl, ?_⟩) ⟨rfl, rfl, rfl⟩
          · rw [← e3]; rfl
          · simp [Blk.ren, hget, swp, AV.ren, sb]
          · rw [e2]; simp [Blk.ren, hget, swp, AV.ren, sb]
          · simp [Blk.nosl, AV.nosl, sb]

end Go.Proofs.Ytpggknkhldecaaa.Abs
end
section
/-
  Transactions: whether some read, some write may not be.
-/
namespace Go.Proofs.Ytpggknkhldecaaa.Abs

def firstI {α : Type} (p : α → Bool) (l : List α) : Int := match l.findIdx? p with
  | some i => i
  | none => -1

theorem firstI_at {α : Type} {p : α → Bool} {l : List α} {i : Nat} {x : α} (hx : l[i]? = some x) (hp : p x = true) (h : ∀ (j : Nat) (y : α), j < i → l[j]? = some y → p y = false) : firstI p l = i := by
  obtain ⟨hil, hie⟩ := List.getElem?_eq_some_iff.1 hx
  unfold firstI
  rw [show l.findIdx? p = some i from List.findIdx?_eq_some_iff_getElem.2 ⟨hil, by rw [hie]; exact hp, fun j hj => by
    have hjl : j < l.length := by omega
    have := h j (l[j]'hjl) hj (List.getElem?_eq_getElem hjl)
    simp [this]⟩]
theorem firstI_none {α : Type} {p : α → Bool} {l : List α} (h : ∀ (j : Nat) (y : α), l[j]? = some y → p y = false) : firstI p l = -1 := by
  unfold firstI
  rw [List.findIdx?_eq_none_iff.2 (fun x hx => by
    obtain ⟨j, hj, rfl⟩ := List.mem_iff_getElem.1 hx
    exact h j _ (List.getElem?_eq_getElem hj))]
end Go.Proofs.Ytpggknkhldecaaa.Abs
end
section
/-
  Transactions: which may be.
-/
namespace Go.Proofs.Ytpggknkhldecaaa.Abs

theorem Lend.whole {h : Heap} {τ : Nat → Nat} {ps : List Nat} {al : Bool} {b len sz : Nat} {xs ys : List AV} (hal : al = false) (hn : ps.contains b = false) (hb : hget h b = some (.cells sz xs)) (hl : len = xs.length) (hy : xs = ys) (hpl : xs.all AV.plain = true) : Lend al h τ ps (.own b 0 len) (.sl sz ys) := by
  have := Lend.own (τ := τ) (st := 0) (len := len) hal hn hb (by omega) hpl
  rw [List.drop_zero, hl, List.take_length, hy] at this
  rwa [hl, hy]

def mayTxB (t : TX) : Bool := decide (1 ≤ t.ses) && (decide (t.ses ≤ 9) && (decide (1 ≤ t.seq) && (decide (t.seq ≤ 1000) && (decide (t.reads.length ≤ 6) && (risingB (t.reads.map RD.key) && (decide (t.writes.length ≤ 4) && (risingB (t.writes.map WR.key) && (t.reads.all readB && t.writes.all writeB))))))))

end Go.Proofs.Ytpggknkhldecaaa.Abs
end
section
/-
  What a statement's arguments stand for; a statement's row. It holds of any program.
-/
namespace Go.Proofs.Ytpggknkhldecaaa.Abs
open Go.RowKit

section
variable {P : Program} {w : World} {t e : TypeId} {α β : Type}

def Old (w : World) : Nat → Prop := fun b => b < w.heap.size

def Sz {H : Type} (P : Program) (t : TypeId) (d : DataW H) : Prop := ∀ n ∈ DataW.weights P t d, n ≤ reachBytes

theorem sz_at {H : Type} {ts : List TypeId} {ds : List (DataW H)} (h : (DataW.weightsEach P ts ds).all (· ≤ reachBytes) = true) {j : Nat} {d : DataW H} (ht : ts[j]? = some t) (hd : ds[j]? = some d) : Sz P t d := fun n hn => by
  have := List.all_eq_true.1 h _ (DataW.weights_mem_each ht hd n hn)
  simpa using this

theorem sz_all {H : Type} {d : DataW H} {n : Nat} (hn : n ∈ DataW.weights P e d) : ∀ {l : List (DataW H)}, d ∈ l → n ∈ DataW.weightsAll P e l := by
  intro l
  induction l with
  | nil => intro h; cases h
  | cons x l ih =>
    intro h
    simp only [DataW.weightsAll, List.mem_append]
    rcases List.mem_cons.1 h with rfl | h
    · exact .inl hn
    · exact .inr (ih h)

/-- Whatever is read at type t stands for some a, as A says. -/
def RdA (P : Program) (w : World) (t : TypeId) (sz : Nat) (A : α → AV) (g : α → Prop) : Prop :=
  ∀ (H : Type) (enc : TypeId × Value → H) (base : Nat) (spare : Nat → Bool) (held : Bool) (fuel : Nat) (cs : List Value) (x : DataW H × List MemPlace), DataW.trod enc P w base spare held fuel t cs = some x → Sz P t x.1 →
    ∃ a, (A a).cells.length = sz ∧ cs.length = sz ∧ (∀ (i : Nat) (y : AV) (u : Value), (A a).cells[i]? = some y → cs[i]? = some u → VR (Old w) w rho0 y u ∧ u.oneCell' = true) ∧ g a

theorem one_cell {x : AV} {v : Value} (hx : x.cells = [x]) (h : VR (Old w) w rho0 x v) (h1 : v.oneCell' = true) : x.cells.length = 1 ∧ [v].length = 1 ∧ ∀ (i : Nat) (y : AV) (u : Value), x.cells[i]? = some y → [v][i]? = some u → VR (Old w) w rho0 y u ∧ u.oneCell' = true := by
  refine ⟨by rw [hx]; rfl, rfl, fun i y u hy hu => ?_⟩
  rw [hx] at hy
  cases i with
  | zero =>
    obtain rfl := Option.some.inj hy
    obtain rfl := Option.some.inj hu
    exact ⟨h, h1⟩
  | succ i => simp at hy

theorem rda_int {k : IntKind} (ht : P.underlying t = some (.int k)) : RdA P w t 1 (AV.int k) (fun n => (Lit.int k n).wf = true) := by
  intro H enc base spare held fuel cs x h hz
  obtain ⟨n, rfl, _, hn⟩ := DataW.trod_int ht h
  obtain ⟨h1, h2, h3⟩ := one_cell (w := w) (x := .int k n) rfl .int rfl
  exact ⟨n, h1, h2, h3, hn⟩
theorem cells_get {base : Nat} {a : Addr} {n : Nat} {cs : List Value} (h : w.cells? base a n = some cs) : cs.length = n ∧ ∀ (i : Nat) (u : Value), cs[i]? = some u → w.cell? (a.add i) = some u := by
  unfold World.cells? at h
  split at h
  · have hl := mapM_some_length h
    rw [List.length_range] at hl
    refine ⟨hl.symm ▸ rfl, fun i u hu => ?_⟩
    have hi : i < n := by
      have := (List.getElem?_eq_some_iff.1 hu).1
      omega
    have := mapM_some_get h i i (by rw [List.getElem?_range hi])
    rw [this]
    exact hu
  · cases h

theorem cell_spot {a : Addr} {u : Value} (h : w.cell? a = some u) : a = ⟨a.block, a.off, none⟩ ∧ a.block < w.heap.size := by
  unfold World.cell? at h
  split at h
  · rename_i c t fr hb
    split at h
    · cases h
    · rename_i hs
      obtain ⟨b, o, sp⟩ := a
      cases sp with
      | none => exact ⟨rfl, (Array.getElem?_eq_some_iff.1 hb).1⟩
      | some x => exact absurd rfl hs
  · cases h

theorem rda_slice {sz : Nat} {A : α → AV} {g : α → Prop} (ht : P.underlying t = some (.slice e)) (hsz : P.cellsOf e = sz) (hpos : 0 < sz) (hby : 0 < P.bytesOf e) (h : RdA P w e sz A g) : RdA P w t 1 (fun l : List α => .sl sz (l.map A)) (fun l => (∀ x ∈ l, g x) ∧ l.length ≤ reachBytes) := by
  intro H enc base spare held fuel cs x hx hz
  rcases Deep.open_slice ht hx with ⟨rfl, _⟩ | ⟨a, len, cap, m, n, D, Pl, rfl, _, hl, hm, hme, hxe, hel⟩
  · obtain ⟨h1, h2, h3⟩ := one_cell (w := w) (x := .sl sz []) rfl .sl0 (v := .slice none 0 0) rfl
    exact ⟨[], h1, h2, h3, (fun x hx => by cases hx), Nat.zero_le _⟩
  · have hlm : len ≤ m := by rw [hme]; split <;> omega
    rcases Nat.eq_zero_or_pos len with h0 | h0
    · subst h0
      obtain ⟨h1, h2, h3⟩ := one_cell (w := w) (x := .sl sz []) rfl .sl0 (v := .slice (some a) 0 cap) rfl
      exact ⟨[], h1, h2, h3, (fun x hx => by cases hx), Nat.zero_le _⟩
    · have key : ∀ i, i < len → ∃ q : α × List Value, w.cells? base (a.add (i * sz)) sz = some q.2 ∧ (A q.1).cells.length = sz ∧ (∀ (j : Nat) (y : AV) (u : Value), (A q.1).cells[j]? = some y → q.2[j]? = some u → VR (Old w) w rho0 y u ∧ u.oneCell' = true) ∧ g q.1 := by
        intro i hi
        obtain ⟨cs', hc, ht'⟩ := hel i (by omega)
        rw [hsz] at hc
        obtain ⟨y, h1, h2, h3, h4⟩ := h H enc base spare held n cs' _ ht' (fun q hq => hz q (by
          rw [hxe]
          simp only [DataW.weights, ht, List.mem_cons, List.mem_append]
          exact .inr (.inl (sz_all hq (List.mem_map.2 ⟨i, List.mem_range.2 hi, rfl⟩)))))
        exact ⟨(y, cs'), hc, h1, h3, h4⟩
      obtain ⟨q0, _⟩ := key 0 h0
      haveI : Inhabited (α × List Value) := ⟨q0⟩
      obtain ⟨f, hf⟩ := Deep.choose_lt key
      let xs : List α := (List.range len).map fun i => (f i).1
      let vs : List Value := (List.range len).flatMap fun i => (f i).2
      have hfl : ∀ i, i < len → (f i).2.length = sz := fun i hi => (cells_get (hf i hi).1).1
      have hvl : ∀ n, n ≤ len → ((List.range n).flatMap fun i => (f i).2).length = n * sz := by
        intro n
        induction n with
        | zero => intro _; simp
        | succ n ih => intro hn; rw [List.range_succ, List.flatMap_append, List.length_append, ih (by omega), Nat.add_mul, Nat.one_mul]; simp [hfl n (by omega)]
      have hget : ∀ n, n ≤ len → ∀ (j : Nat) (u : Value), ((List.range n).flatMap fun i => (f i).2)[j]? = some u → j / sz < n ∧ (f (j / sz)).2[j % sz]? = some u := by
        intro n
        induction n with
        | zero => intro _ j u hu; simp at hu
        | succ n ih =>
          intro hn j u hu
          rw [List.range_succ, List.flatMap_append] at hu
          rcases Nat.lt_or_ge j (n * sz) with hlt | hge
          · rw [List.getElem?_append_left (by rw [hvl n (by omega)]; exact hlt)] at hu
            obtain ⟨h1, h2⟩ := ih (by omega) j u hu
            exact ⟨by omega, h2⟩
          · rw [List.getElem?_append_right (by rw [hvl n (by omega)]; exact hge), hvl n (by omega)] at hu
            simp only [List.flatMap_cons, List.flatMap_nil, List.append_nil] at hu
            have hj : j - n * sz < sz := by
              have := (List.getElem?_eq_some_iff.1 hu).1
              rwa [hfl n (by omega)] at this
            have hj' : j = n * sz + (j - n * sz) := by omega
            have e1 : j / sz = n := by
              obtain ⟨r, hr⟩ : ∃ r, r = j - n * sz := ⟨_, rfl⟩
              rw [← hr] at hj hj'
              rw [hj', Nat.mul_comm n sz, Nat.mul_add_div hpos, Nat.div_eq_of_lt hj]; rfl
            have e2 : j % sz = j - n * sz := by
              have := Nat.div_add_mod j sz
              rw [e1, Nat.mul_comm] at this
              omega
            rw [e1, e2]
            exact ⟨Nat.lt_succ_self n, hu⟩
      have hcell : ∀ (j : Nat) (u : Value), vs[j]? = some u → w.cell? (a.add j) = some u ∧ ∃ y, (flat (xs.map A))[j]? = some y ∧ VR (Old w) w rho0 y u ∧ u.oneCell' = true := by
        intro j u hu
        obtain ⟨h1, h2⟩ := hget len (Nat.le_refl _) j u hu
        obtain ⟨k1, k2, k3, k4⟩ := hf (j / sz) h1
        have hc := (cells_get k1).2 _ _ h2
        rw [Deep.add_add, Nat.mul_comm, Nat.div_add_mod] at hc
        refine ⟨hc, ?_⟩
        have hx : (xs.map A)[j / sz]? = some (A (f (j / sz)).1) := by
          show (((List.range len).map fun i => (f i).1).map A)[j / sz]? = _
          rw [List.getElem?_map, List.getElem?_map, List.getElem?_range h1]; rfl
        have hall : ∀ x ∈ xs.map A, x.cells.length = sz := by
          intro x hx
          obtain ⟨y, hy, rfl⟩ := List.mem_map.1 hx
          obtain ⟨i, hi, rfl⟩ := List.mem_map.1 hy
          exact (hf i (List.mem_range.1 hi)).2.1
        have hfa := flat_at hall hx (r := j % sz) (Nat.mod_lt _ hpos)
        rw [Nat.mul_comm, Nat.div_add_mod] at hfa
        obtain ⟨y, hy⟩ : ∃ y, (A (f (j / sz)).1).cells[j % sz]? = some y := ⟨_, List.getElem?_eq_getElem (by rw [k2]; exact Nat.mod_lt _ hpos)⟩
        exact ⟨y, by rw [hfa]; exact hy, k3 _ _ _ hy h2⟩
      have hxl : (xs.map A).length = len := by simp [xs]
      have hall : ∀ x ∈ xs.map A, x.cells.length = sz := by
        intro x hx
        obtain ⟨y, hy, rfl⟩ := List.mem_map.1 hx
        obtain ⟨i, hi, rfl⟩ := List.mem_map.1 hy
        exact (hf i (List.mem_range.1 hi)).2.1
      have hvlen : vs.length = len * sz := hvl len (Nat.le_refl _)
      obtain ⟨u0, hu0⟩ : ∃ u, vs[0]? = some u := ⟨_, List.getElem?_eq_getElem (by rw [hvlen]; exact Nat.mul_pos h0 hpos)⟩
      have ha0 := (hcell 0 u0 hu0).1
      obtain ⟨hs1, hs2⟩ := cell_spot ha0
      have haspot : a = ⟨a.block, a.off, none⟩ := by
        have hsp : a.spot = none := by have := congrArg Addr.spot hs1; simpa [Addr.add] using this
        generalize a = z at hsp
        obtain ⟨b, o, sp⟩ := z
        simp only at hsp
        rw [hsp]
      have hblk : a.block < w.heap.size := hs2
      have hvr : VR (Old w) w rho0 (.sl sz (xs.map A)) (.slice (some a) len cap) := by
        have := @VR.sl (Old w) w rho0 sz (xs.map A) a.block a.off cap vs hblk (by rw [flat_len hall, hxl, hvlen]) hall (by rw [hxl]; exact hl) (fun i u hu => ?_) (fun i y u hy hu => ?_)
        · rw [hxl, ← haspot] at this
          exact this
        · obtain ⟨h1, y, _, _, h2⟩ := hcell i u hu
          rw [haspot, Addr.add_lit] at h1
          exact ⟨h1, h2⟩
        · obtain ⟨_, y', h1, h2, _⟩ := hcell i u hu
          rw [hy] at h1
          obtain rfl := Option.some.inj h1
          exact h2
      obtain ⟨h1, h2, h3⟩ := one_cell (w := w) (x := .sl sz (xs.map A)) rfl hvr rfl
      exact ⟨xs, h1, h2, h3, (fun x hx => by
        obtain ⟨i, hi, rfl⟩ := List.mem_map.1 hx
        exact (hf i (List.mem_range.1 hi)).2.2.2), by
        simp only [xs, List.length_map, List.length_range]
        have := hz (((List.range len).map D).length + ((List.range (m - len)).map fun j => D (len + j)).length |> (· * P.bytesOf e)) (by
          rw [hxe]
          simp only [DataW.weights, ht]
          exact List.mem_cons_self)
        simp only [List.length_map, List.length_range] at this
        have h2 : len ≤ (len + (m - len)) * P.bytesOf e := Nat.le_trans (by omega) (Nat.le_mul_of_pos_right _ hby)
        omega⟩

/-! ### Structs -/

/-- Fields, one behind the other, from offset o on. -/
def RdF (P : Program) (w : World) (l : List (Nat × TypeId)) (o sz : Nat) (F : α → List AV) (g : α → Prop) : Prop :=
  ∀ (H : Type) (enc : TypeId × Value → H) (base : Nat) (spare : Nat → Bool) (held : Bool) (fuel : Nat) (cs : List Value), cs.length = sz →
    (∀ p ∈ l, ∃ x, DataW.trod enc P w base spare held fuel p.2 ((cs.drop (p.1 - o)).take (P.cellsOf p.2)) = some x ∧ Sz P p.2 x.1) → ∃ a, (F a).length = sz ∧ (∀ (i : Nat) (y : AV) (u : Value), (F a)[i]? = some y → cs[i]? = some u → VR (Old w) w rho0 y u ∧ u.oneCell' = true) ∧ g a

theorem rdf_last {o sz : Nat} {A : α → AV} {g : α → Prop} (hsz : P.cellsOf t = sz) (h : RdA P w t sz A g) : RdF P w [(o, t)] o sz (fun a => (A a).cells) g := by
  intro H enc base spare held fuel cs hl hf
  obtain ⟨x, hx, hz⟩ := hf (o, t) (by simp)
  simp only [Nat.sub_self, List.drop_zero] at hx
  rw [List.take_of_length_le (by omega)] at hx
  obtain ⟨a, h1, _, h3, h4⟩ := h H enc base spare held fuel cs x hx hz
  exact ⟨a, h1, h3, h4⟩

theorem rdf_cons {o sz sz' : Nat} {l : List (Nat × TypeId)} {A : α → AV} {F : β → List AV} {g : α → Prop} {g' : β → Prop} (hsz : P.cellsOf t = sz) (ho : l.all (fun p => o + sz ≤ p.1) = true) (h : RdA P w t sz A g) (h' : RdF P w l (o + sz) sz' F g') :
    RdF P w ((o, t) :: l) o (sz + sz') (fun p : α × β => (A p.1).cells ++ F p.2) (fun p => g p.1 ∧ g' p.2) := by
  intro H enc base spare held fuel cs hl hf
  obtain ⟨x, hx, hz⟩ := hf (o, t) (by simp)
  simp only [Nat.sub_self, List.drop_zero] at hx
  rw [hsz] at hx
  obtain ⟨a, h1, h2, h3, hga⟩ := h H enc base spare held fuel _ x hx hz
  obtain ⟨b, k1, k3, hgb⟩ := h' H enc base spare held fuel (cs.drop sz) (by rw [List.length_drop]; omega) (fun p hp => by
    obtain ⟨y, hy, hyz⟩ := hf p (List.mem_cons_of_mem _ hp)
    refine ⟨y, ?_, hyz⟩
    have hp' : o + sz ≤ p.1 := by simpa using List.all_eq_true.1 ho p hp
    rw [List.drop_drop, show sz + (p.1 - (o + sz)) = p.1 - o from by omega]
    exact hy)
  refine ⟨(a, b), by rw [List.length_append, h1, k1], fun i y u hy hu => ?_, hga, hgb⟩
  have hy : ((A a).cells ++ F b)[i]? = some y := hy
  rcases Nat.lt_or_ge i sz with hlt | hge
  · rw [List.getElem?_append_left (by rw [h1]; exact hlt)] at hy
    exact h3 i y u hy (by rw [List.getElem?_take_of_lt hlt]; exact hu)
  · rw [List.getElem?_append_right (by rw [h1]; exact hge), h1] at hy
    exact k3 (i - sz) y u hy (by rw [List.getElem?_drop, show sz + (i - sz) = i from by omega]; exact hu)

theorem rda_conv {sz : Nat} {A : α → AV} {B : β → AV} {g : α → Prop} {g' : β → Prop} (f : α → β) (hA : ∀ a, g a → A a = B (f a)) (hg : ∀ a, g a → g' (f a)) (h : RdA P w t sz A g) : RdA P w t sz B g' := by
  intro H enc base spare held fuel cs x hx hz
  obtain ⟨a, h1, h2, h3, h4⟩ := h H enc base spare held fuel cs x hx hz
  have e := hA a h4
  exact ⟨f a, by rw [← e]; exact h1, h2, by rw [← e]; exact h3, hg a h4⟩

theorem rda_bytes (ht : P.underlying t = some (.slice e)) (he : P.underlying e = some (.int .u8)) (hsz : P.cellsOf e = 1) (hby : 0 < P.bytesOf e) : RdA P w t 1 (fun l : List UInt8 => .sl 1 (bl l)) (fun l => l.length ≤ reachBytes) :=
  rda_conv (fun l : List Int => l.map fun n => UInt8.ofNat n.toNat) (fun l hl => by
    have : l.map (AV.int .u8) = bl (l.map fun n => UInt8.ofNat n.toNat) := by
      unfold bl
      rw [List.map_map]
      refine List.map_congr_left fun n hn => ?_
      have h := hl.1 n hn
      have h2 : 0 ≤ n ∧ n < 256 := by
        simp only [Lit.wf, Bool.and_eq_true, decide_eq_true_eq] at h
        have e1 : IntKind.u8.min = 0 := rfl
        have e2 : IntKind.u8.max = 255 := rfl
        omega
      show AV.int .u8 n = AV.int .u8 ((UInt8.ofNat n.toNat).toNat : Int)
      rw [UInt8.toNat_ofNat', Nat.mod_eq_of_lt (by simp; omega), Int.toNat_of_nonneg h2.1]
    rw [this]) (fun l hl => by rw [List.length_map]; exact hl.2) (rda_slice ht hsz (by decide) hby (rda_int he))

/-! ### At the top -/

variable {H : Type} {enc : TypeId × Value → H} {spare : Nat → Bool} {held : Bool} {base b0 sz : Nat} {r : Reach} {v : Value} {d : DataW H} {ps : List MemPlace} {A : α → AV} {g : α → Prop}

theorem top_one (h : RdA P w t 1 A g) (hc : ∀ a, (A a).cells = [A a]) (hv : v.cells = #[v]) (hd : DataW.Trod enc P w base spare held t v d ps) (hz : Sz P t d) : ∃ a, VR (Old w) w rho0 (A a) v ∧ g a := by
  obtain ⟨fuel, hf⟩ := hd
  obtain ⟨a, _, _, h3, h4⟩ := h H enc base spare held fuel _ _ hf hz
  rw [hv] at h3
  exact ⟨a, (h3 0 (A a) v (by rw [hc]; rfl) rfl).1, h4⟩

/-- A statement that comes out true. -/
theorem law_calls {f : FuncId} {args : List AV} {al : Bool} {vals : Array Value} {W : World} (h : AC P f args [] 0 al (fun r _ _ => r = .bool true)) (hv : VRs (Old W) W rho0 args vals) : Calls P f vals W fun e W' => e = .returned (.bool true) ∧ Below W.heap.size W W' := by
  refine (h rho0 (Old W) W vals ⟨fun b B hb => (by cases hb), fun b b' B B' r r' hb => (by cases hb), fun b hb => hb⟩ (fun _ _ => rfl) hv).mono ?_
  rintro e W' ⟨v, r, h', nx', ρ', S', rfl, rfl, hvr, _, _, _, hp⟩
  exact ⟨by rw [hvr.bool_inv], hp.os, hp.tape, hp.output, hp.size, fun k hk => hp.keep k hk (fun ⟨i, B, q, e, _⟩ => by cases e)⟩

theorem vrs_of {S : Nat → Prop} {ρ : Rho} {xs : List AV} {vs : List Value} (h : xs.length = vs.length ∧ ∀ (i : Nat) (x : AV) (u : Value), xs[i]? = some x → vs[i]? = some u → VR S w ρ x u) : VRs S w ρ xs vs.toArray := ⟨by simpa using h.1, fun i x u hx hu => h.2 i x u hx (by simpa using hu)⟩
theorem vrs_cons {S : Nat → Prop} {ρ : Rho} {x : AV} {u : Value} {xs : List AV} {vs : List Value} (h : VR S w ρ x u) (ht : xs.length = vs.length ∧ ∀ (i : Nat) (x : AV) (u : Value), xs[i]? = some x → vs[i]? = some u → VR S w ρ x u) :
    (x :: xs).length = (u :: vs).length ∧ ∀ (i : Nat) (y : AV) (z : Value), (x :: xs)[i]? = some y → (u :: vs)[i]? = some z → VR S w ρ y z := by
  refine ⟨by simp [ht.1], fun i y z hy hz => ?_⟩
  cases i with
  | zero => obtain rfl := Option.some.inj hy; obtain rfl := Option.some.inj hz; exact h
  | succ i => exact ht.2 i y z hy hz
theorem vrs_nil' {S : Nat → Prop} {ρ : Rho} : ([] : List AV).length = ([] : List Value).length ∧ ∀ (i : Nat) (x : AV) (u : Value), ([] : List AV)[i]? = some x → ([] : List Value)[i]? = some u → VR S w ρ x u := ⟨rfl, fun i x u hx => by simp at hx⟩

end
end Go.Proofs.Ytpggknkhldecaaa.Abs
end
section
/-
  More operations: capacities of nil, parts of nil; blocks of which less is known. It holds of any program.
-/
namespace Go.Proofs.Ytpggknkhldecaaa.Abs

/-- Of a block less is known: its first elements. -/
theorem Rep.trim {c : Ctx} {n : Nat} {tm : List (Nat × AV)} {h : Heap} {nx : Nat} {ρ : Rho} {S : Nat → Prop} {a : Act} {w : World} (hr : Rep c n ⟨tm, h, nx⟩ ρ S a w) {b sz : Nat} {xs : List AV} (k : Nat) (hb : hget h b = some (.cells sz xs)) :
    Rep c n ⟨tm, hset h b (.cells sz (xs.take k)), nx⟩ ρ S a w := by
  have hh : ∀ j B, hget (hset h b (.cells sz (xs.take k))) j = some B → ∃ X, hget h j = some X ∧ (B = X ∨ (j = b ∧ X = .cells sz xs ∧ B = .cells sz (xs.take k))) := fun j B hj => by
    rw [hget_set] at hj
    split at hj
    · rename_i e; subst e; exact ⟨_, hb, .inr ⟨rfl, rfl, (Option.some.inj hj).symm⟩⟩
    · exact ⟨B, hj, .inl rfl⟩
  refine ⟨hr.size, hr.defers, hr.tmps, ⟨fun j B hj => ?_, fun j j' B B' r r' hj hj' => ?_, hr.sim.lt⟩, ⟨hr.post.os, hr.post.tape, hr.post.output, hr.post.size, hr.post.keep, hr.post.sIn, hr.post.sNew, fun j B r hj hq => ?_, hr.post.ids⟩, hr.fresh, hr.le, fun j B hj => ?_⟩
  · obtain ⟨X, h1, h2⟩ := hh j B hj
    rcases h2 with rfl | ⟨rfl, rfl, rfl⟩
    · exact hr.sim.blk j B h1
    · rcases hr.sim.blk j _ h1 with ⟨r, e1, e2, e3, e4⟩ | ⟨e1, sz', e2⟩
      · refine .inl ⟨r, e1, ?_, e3, e4⟩
        obtain ⟨k1, k2, k3, k4, cur, e, k5, k6, k7, k8⟩ := e2
        refine ⟨k1, fun x hx => k2 x (List.mem_of_mem_take hx), Nat.le_trans (by rw [List.length_take]; exact Nat.min_le_right _ _) k3, k4, cur, e, k5, k6, k7, fun i x u hx hu => k8 i x u ?_ hu⟩
        have e9 : flat xs = flat (xs.take k) ++ flat (xs.drop k) := by rw [← flat_append, List.take_append_drop]
        rw [e9, List.getElem?_append_left (List.getElem?_eq_some_iff.1 hx).1]
        exact hx
      · simp only [Blk.cells.injEq] at e2
        obtain ⟨_, rfl⟩ := e2
        exact .inr ⟨e1, sz, by simp⟩
  · obtain ⟨X, h1, _⟩ := hh j B hj
    obtain ⟨X', h1', _⟩ := hh j' B' hj'
    exact hr.sim.inj j j' X X' r r' h1 h1'
  · obtain ⟨X, h1, _⟩ := hh j B hj
    exact hr.post.own j X r h1 hq
  · obtain ⟨X, h1, _⟩ := hh j B hj
    exact hr.dom j X h1

theorem aw_trim {P : Program} {c : Ctx} {n : Nat} {Q : Exit → St → Prop} {code : Code} {tm : List (Nat × AV)} {h : Heap} {nx : Nat} (b k : Nat) {sz : Nat} {xs : List AV} (hb : hget h b = some (.cells sz xs)) (hk : AW P c n code Q ⟨tm, hset h b (.cells sz (xs.take k)), nx⟩) : AW P c n code Q ⟨tm, h, nx⟩ :=
  fun ρ S a w hr => hk ρ S a w (hr.trim k hb)

section
variable {P : Program} {tm : List (Nat × AV)} {h : Heap}

theorem op_capN {x : Operand} {t el : TypeId} (hu : P.underlying t = some (.slice el)) (hx : oev tm x = .nils) : OpP P (.call { callee := .builtin .cap, args := #[x], argTypes := #[t] }) tm h (.int .i64 0) := fun c n nx ρ S a w hr =>
  ⟨.int .i64 0, fun o ho => by
    have hv := ev_vr hr hx
    generalize he : a.eval x = v at hv
    cases hv with
    | nils => unfold execOp; rw [ho]; simp [resolve, invoke, builtin, he, Builtin.cap_, run_underlying hu, goInt], .int⟩

/-- Nothing of nil is nil. -/
theorem op_sliceN {t e : TypeId} {x hi : Operand} {sz : Nat} {k : IntKind} (hu : P.underlying t = some (.slice e)) (hz : (P.info? e).map (·.size) = some sz) (hx : oev tm x = .nils) (h1 : oev tm hi = .int k 0) : OpP P (.slice t x none (some hi) none) tm h .nils := fun c n nx ρ S a w hr =>
  ⟨.slice none 0 0, fun o ho => by
    have hv := ev_vr hr hx
    have hi' := ev_int hr h1
    generalize he : a.eval x = v at hv
    cases hv with
    | nils => unfold execOp; rw [ho]; simp [Instr.sliceAt, Instr.slice, run_underlying hu, Instr.sliceBounds, Instr.sliceBound, asIntOf, run_sizeOf hz, he, hi'], .nils⟩

theorem run_app_zeros {t ti ty e : TypeId} {k kx : IntKind} {i : TypeInfo} {z : Value} (ht : P.underlying t = some (.slice e)) (hti : P.underlying ti = some (.int k)) (hi : P.info? e = some i) (hz : i.zero = some z) {w : World} {m : Nat} (hm : 0 < m) (hs : 0 < i.size)
    (hb : m * i.bytes ≤ 140737488355328) (h63 : m ≤ 140737488355328) :
    (Builtin.append_ #[t, ti] ty #[.slice none 0 0, .int kx (m : Int)]).run P w =
      .ok (.slice (some ⟨w.heap.size, 0, none⟩) m (grownCap w m 0 e)) (w.drew.alloc (.cells (Builtin.zeroCells z.cells m ++ Builtin.zeroCells z.cells (grownCap w m 0 e - m)) e)) := by
  have hw : IntKind.i64.wrap (m : Int) = m := Abs.wrap_i64 (by omega) (by omega)
  have h1 : ¬ (m = 0) := by omega
  have h2 : ¬ ((m : Int) < 0) := by omega
  have h3 : ¬ (281474976710656 < (m : Int) * (i.bytes : Int)) := by
    have : ((m * i.bytes : Nat) : Int) ≤ 140737488355328 := by omega
    rw [Int.natCast_mul] at this
    omega
  have h4 : ¬ (m * i.size = 0) := by
    have := Nat.mul_pos hm hs
    omega
  have h5 : ¬ (9223372036854775807 < (m : Int)) := by omega
  have h6 : Builtin.nextslicecap m 0 = m := by unfold Builtin.nextslicecap; rw [if_pos (by omega)]
  have h7 : ¬ (281474976710656 < m * i.bytes) := by omega
  simp [Builtin.append_, run_underlying ht, run_underlying hti, sizeOf, typeInfo, zeroValue, hi, hz, hw, h1, h2, h3, h4, h5, h6, h7, Question.forced, newRow, grownCap, Builtin.firstCells, asInt, asIntOf]

/-- 'append(nil, make([]T, m)...)': a row of one's own, of whose elements nothing is told. -/
theorem op_appZ {tm : List (Nat × AV)} {h : Heap} {nx : Nat} {t ti e : TypeId} {k kx : IntKind} {z : Value} {sz bytes : Nat} {x y : Operand} {m : Nat} (ht : P.underlying t = some (.slice e)) (hti : P.underlying ti = some (.int k))
    (hi : (P.info? e).map (fun i => (i.zero, i.size, i.bytes)) = some (some z, sz, bytes)) (hzs : z.cells.size = sz ∧ ∀ (i : Nat) (u : Value), z.cells[i]? = some u → u.oneCell' = true) (hs : 0 < sz) (hx : oev tm x = .nils) (hy : oev tm y = .int kx (m : Int)) (hm : 0 < m)
    (hb : m * bytes ≤ 140737488355328) (h63 : m ≤ 140737488355328) : OpOK P (.call { callee := .builtin .append, args := #[x, y], argTypes := #[t, ti] }) ⟨tm, h, nx⟩ (.own nx 0 m) ((nx, .cells sz []) :: h) (nx + 1) := OpOK.of fun c n ρ S a w hr => by
  obtain ⟨i, e1, e2⟩ := Option.map_eq_some_iff.1 hi
  obtain ⟨e3, e4, e5⟩ : i.zero = some z ∧ i.size = sz ∧ i.bytes = bytes := by
    have := e2; simp only [Prod.mk.injEq] at this; exact this
  have hxv : a.eval x = .slice none 0 0 := by
    have hv := ev_vr hr hx
    generalize a.eval x = v at hv
    cases hv; rfl
  have hyv := ev_int hr hy
  have hrun := run_app_zeros (P := P) (ty := 0) (kx := kx) (m := m) (w := w) ht hti e1 e3 hm (by rw [e4]; exact hs) (by rw [e5]; exact hb) h63
  have hge : m ≤ grownCap w m 0 e := grownCap_ge _ _ _ _
  refine ⟨_, .slice (some ⟨w.heap.size, 0, none⟩) m (grownCap w m 0 e), _, _, S, fun o ho => ?_, .inl rfl,
    hr.newBlk (Same.drew w) (Builtin.zeroCells z.cells m ++ Builtin.zeroCells z.cells (grownCap w m 0 e - m)) e (grownCap w m 0 e) sz [] (fun x hx => by cases hx) (Nat.zero_le _) (grownCap_le_maxLen _ _ _ _ (by unfold maxLen; omega)) (by
      rw [Array.size_append, size_zeroCells, size_zeroCells, hzs.1, ← Nat.add_mul]; congr 1; omega) (fun j u hu => ?_) (fun j x u hx => by simp [flat] at hx) (fun _ _ h => h), .own_at0 (upd_self _ _ _) hge rfl, upd_ext hr _, alloc_ext hr (Same.drew w) _⟩
  · unfold execOp; rw [ho]
    simp only [resolve, invoke, builtin, Sem.run_bind, Sem.run_pure, Result.andThen_ok, List.map_toArray, List.map_cons, List.map_nil, hxv, hyv]
    have : Builtin.append_ #[t, ti] o.type #[Value.slice none 0 0, Value.int kx (m : Int)] = Builtin.append_ #[t, ti] 0 #[Value.slice none 0 0, Value.int kx (m : Int)] := rfl
    rw [this, hrun]
    rfl
  · rw [Array.getElem?_append] at hu
    split at hu
    · exact zeroCells_one hzs.2 hu
    · exact zeroCells_one hzs.2 hu

theorem op_appZi {tm : List (Nat × AV)} {h : Heap} {nx : Nat} {t ti e : TypeId} {k kx : IntKind} {z : Value} {sz bytes : Nat} {x y : Operand} {q : Int} (ht : P.underlying t = some (.slice e)) (hti : P.underlying ti = some (.int k))
    (hi : (P.info? e).map (fun i => (i.zero, i.size, i.bytes)) = some (some z, sz, bytes)) (hzs : z.cells.size = sz ∧ ∀ (i : Nat) (u : Value), z.cells[i]? = some u → u.oneCell' = true) (hs : 0 < sz) (hx : oev tm x = .nils) (hy : oev tm y = .int kx q) (hm : 0 < q)
    (hb : q * bytes ≤ 140737488355328) (h63 : q ≤ 140737488355328) : OpOK P (.call { callee := .builtin .append, args := #[x, y], argTypes := #[t, ti] }) ⟨tm, h, nx⟩ (.own nx 0 q.toNat) ((nx, .cells sz []) :: h) (nx + 1) := by
  obtain ⟨m, rfl⟩ : ∃ m : Nat, q = m := ⟨q.toNat, by omega⟩
  rw [Int.toNat_natCast]
  exact op_appZ ht hti hi hzs hs hx hy (by omega) (by
    have : ((m * bytes : Nat) : Int) ≤ 140737488355328 := by rw [Int.natCast_mul]; exact hb
    omega) (by omega)

end

end Go.Proofs.Ytpggknkhldecaaa.Abs
end
section
/-
  Transactions as bytes: txn.Put.
-/
namespace Go.Proofs.Ytpggknkhldecaaa.Abs

theorem rising_key {l : List (List UInt8)} (h : risingB l = true) : ∀ k ∈ l, mayB k = true := by
  intro k hk
  obtain ⟨i, hi⟩ := List.getElem?_of_mem hk
  have := List.all_eq_true.1 h i (List.mem_range.2 (List.getElem?_eq_some_iff.1 hi).1)
  unfold okAt at this
  rw [List.getD_eq_getElem?_getD, hi] at this
  simp only [Bool.and_eq_true] at this
  exact this.1

theorem mayB_len {k : List UInt8} (h : mayB k = true) : 1 ≤ k.length ∧ k.length ≤ 8 := by
  unfold mayB at h
  simp only [Bool.and_eq_true, decide_eq_true_eq] at h
  exact h.2

end Go.Proofs.Ytpggknkhldecaaa.Abs
end
section
/-
  Regions whose order is open, that of what turns the heap too: one walk serves every order. It holds of any program.
-/
namespace Go.Proofs.Ytpggknkhldecaaa.Abs

structure IX where
  v : AV
  ef : Bool
  b0 : Nat
  b1 : Nat
  tm : List (Nat × AV)

/-- A stage: which of those that turn the heap have run, and what the heap is then. -/
structure SG where
  e : List Nat
  h : Heap
  x : Nat

section
variable {P : Program} {c : Ctx} {n : Nat} {op : Op} {tm : List (Nat × AV)} {H H' : Heap} {X X' : Nat} {v : AV} {ρ : Rho} {S : Nat → Prop} {a : Act} {w : World}

theorem Rep.raise (h : Rep c n ⟨tm, H, X⟩ ρ S a w) (hx : X ≤ X') : Rep c n ⟨tm, H, X'⟩ ρ S a w :=
  ⟨h.size, h.defers, h.tmps, h.sim, h.post, fun b hb => h.fresh b (Nat.le_trans hx hb), Nat.le_trans h.le hx, fun b B hb => Nat.lt_of_lt_of_le (h.dom b B hb) hx⟩

/-- What an operation does leaves the older names as they are. -/
theorem OpOK.strong (h : OpOK P op ⟨tm, H, X⟩ v H' X') (hr : Rep c n ⟨tm, H, X⟩ ρ S a w) (o : Oper) (ho : o.op = op) :
    Does P o a w fun u w' => ∃ ρ' S', Rep c n ⟨tm, H', X'⟩ ρ' S' a w' ∧ VR S' w' ρ' v u ∧ (∀ b, b < X → ρ' b = ρ b) ∧ ∀ b, S b → S' b ∧ w'.heap[b]? = w.heap[b]? := by
  have hr' : Rep ⟨w, Own ρ H, S, ρ, X⟩ n ⟨tm, H, X⟩ ρ S a w :=
    ⟨hr.size, hr.defers, hr.tmps, hr.sim, ⟨rfl, rfl, rfl, Nat.le_refl _, fun _ _ _ => rfl, fun _ h => h, fun _ h => .inl h, fun b B r h1 h2 => .inl ⟨b, B, r, h1, h2, rfl⟩, fun _ _ => rfl⟩, hr.fresh, Nat.le_refl _, hr.dom⟩
  refine (h _ n ρ S a w hr' o ho).mono fun u w' ⟨ρ', S', h1, h2, _, h4⟩ => ⟨ρ', S', ?_, h2, fun b hb => h1.post.ids b hb, h4⟩
  have hp := hr.post
  have hq := h1.post
  have hown : ∀ b, Own ρ H b → c.own0 b ∨ c.w0.heap.size ≤ b := by
    rintro b ⟨i, B, r, e1, e2, rfl⟩
    exact hp.own i B r e1 e2
  refine ⟨h1.size, h1.defers, h1.tmps, h1.sim, ⟨hq.os.trans hp.os, hq.tape.trans hp.tape, hq.output.trans hp.output, Nat.le_trans hp.size hq.size, fun b hb ho => ?_, fun b hb => hq.sIn b (hp.sIn b hb), fun b hb => ?_, fun b B r e1 e2 => ?_, fun b hb => ?_⟩, h1.fresh, Nat.le_trans hr.le h1.le, h1.dom⟩
  · refine (hq.keep b (Nat.lt_of_lt_of_le hb hp.size) (fun hO => ?_)).trans (hp.keep b hb ho)
    rcases hown b hO with h' | h'
    · exact ho h'
    · omega
  · rcases hq.sNew b hb with h' | h'
    · exact hp.sNew b h'
    · exact .inr (Nat.le_trans hp.size h')
  · rcases hq.own b B r e1 e2 with h' | h'
    · exact hown _ h'
    · exact .inr (Nat.le_trans hp.size h')
  · exact (hq.ids b (Nat.lt_of_lt_of_le hb hr.le)).trans (hp.ids b hb)

/-- New names turned down. -/
def dwn (X β b : Nat) : Nat := if X ≤ b then b - X + β else b

def HR (X β β1 : Nat) (H1 H2 : Heap) : Prop := ∀ b B, hget H2 b = some B → ∃ b1 B1, hget H1 b1 = some B1 ∧ dwn X β b1 = b ∧ B1.ren (dwn X β) = B ∧ (b1 < X → b1 < β ∨ β1 ≤ b1)

theorem Rep.down {H1 H2 : Heap} {X k β β1 : Nat} {ρ0 : Rho} {S0 : Nat → Prop} {w0 : World} (hr0 : Rep c n ⟨tm, H, X⟩ ρ0 S0 a w0) (hr : Rep c n ⟨tm, H1, X + k⟩ ρ S a w) (hid : ∀ b, b < X → ρ b = ρ0 b) (hgap : ∀ b, β ≤ b → b < β1 → ρ0 b = none)
    (hk : β + k ≤ β1) (hX : β1 ≤ X) (hS : ∀ b, S0 b → S b ∧ w.heap[b]? = w0.heap[b]?) (hβ : c.nx0 ≤ β) (hh : HR X β β1 H1 H2) {v : AV} {u : Value} (hv : VR S w ρ v u) :
    ∃ ρ', Rep c n ⟨tm, H2, X⟩ ρ' S a w ∧ VR S w ρ' (v.ren (dwn X β)) u ∧ (∀ b r, ρ0 b = some r → ρ' b = some r) ∧ ∀ b, b < X → (b < β ∨ β1 ≤ b) → ρ' b = ρ0 b := by
  let ρ' : Rho := fun b => if β ≤ b ∧ b < β1 then (if b < β + k then ρ (b - β + X) else none) else if b < X then ρ b else none
  have e1 : ∀ b, b < X → (b < β ∨ β1 ≤ b) → ρ' b = ρ b := fun b hb ho => by
    show (if β ≤ b ∧ b < β1 then _ else if b < X then ρ b else none) = ρ b
    rw [if_neg (by omega), if_pos hb]
  have e2 : ∀ b, X ≤ b → b < X + k → ρ' (b - X + β) = ρ b := fun b hb ho => by
    show (if β ≤ b - X + β ∧ b - X + β < β1 then (if b - X + β < β + k then ρ (b - X + β - β + X) else none) else _) = ρ b
    rw [if_pos (by omega), if_pos (by omega), show b - X + β - β + X = b from by omega]
  have hτ : ∀ b r, ρ b = some r → ρ' (dwn X β b) = some r := fun b r hb => by
    have hlt := hr.known hb
    have hlt : b < X + k := hlt
    unfold dwn
    split
    · rename_i h; rw [e2 b h hlt]; exact hb
    · rename_i h
      rw [e1 b (by omega)]
      · exact hb
      · refine Classical.byContradiction fun hc => ?_
        have := hgap b (by omega) (by omega)
        rw [← hid b (by omega), hb] at this
        cases this
  have hext : ∀ b r, ρ0 b = some r → ρ' b = some r := fun b r hb => by
    have hlt : b < X := hr0.known hb
    rw [e1 b hlt]
    · rw [hid b hlt]; exact hb
    · refine Classical.byContradiction fun hc => ?_
      have := hgap b (by omega) (by omega)
      rw [hb] at this
      cases this
  have hback : ∀ b1, (∃ B1, hget H1 b1 = some B1) → (b1 < X → b1 < β ∨ β1 ≤ b1) → ρ' (dwn X β b1) = ρ b1 := fun b1 ⟨B1, hB1⟩ ho => by
    have hlt : b1 < X + k := hr.dom b1 B1 hB1
    unfold dwn
    split
    · rename_i h; exact e2 b1 h hlt
    · rename_i h; exact e1 b1 (by omega) (ho (by omega))
  refine ⟨ρ', ⟨hr.size, hr.defers, fun i => (hr0.tmps i).mono hS hext, ⟨fun b B hb => ?_, fun b b' B B' r r' hb hb' hq hq' hne => ?_, hr.sim.lt⟩, ?_, fun b hb => ?_, hr0.le, fun b B hb => ?_⟩, hv.ren hτ, hext, fun b hb ho => (e1 b hb ho).trans (hid b hb)⟩
  · obtain ⟨b1, B1, h1, h2, h3, h4⟩ := hh b B hb
    subst h2 h3
    rcases hr.sim.blk b1 B1 h1 with ⟨r, q1, q2, q3, q4⟩ | ⟨q1, sz, rfl⟩
    · exact .inl ⟨r, hτ _ _ q1, q2.ren hτ, q3, q4⟩
    · exact .inr ⟨(hback b1 ⟨_, h1⟩ h4).trans q1, sz, rfl⟩
  · obtain ⟨b1, B1, h1, h2, h3, h4⟩ := hh b B hb
    obtain ⟨b2, B2, g1, g2, g3, g4⟩ := hh b' B' hb'
    have k1 := hback b1 ⟨_, h1⟩ h4
    have k2 := hback b2 ⟨_, g1⟩ g4
    rw [h2, hq] at k1
    rw [g2, hq'] at k2
    exact hr.sim.inj b1 b2 B1 B2 r r' h1 g1 k1.symm k2.symm (fun e => hne (by rw [← h2, ← g2, e]))
  · have hp := hr.post
    refine ⟨hp.os, hp.tape, hp.output, hp.size, hp.keep, hp.sIn, hp.sNew, fun b B r hb hq => ?_, fun b hb => ?_⟩
    · obtain ⟨b1, B1, h1, h2, h3, h4⟩ := hh b B hb
      have k1 := hback b1 ⟨_, h1⟩ h4
      rw [h2, hq] at k1
      exact hp.own b1 B1 r h1 k1.symm
    · rw [e1 b (by omega) (.inl (by omega))]
      exact hp.ids b hb
  · show (if β ≤ b ∧ b < β1 then (if b < β + k then ρ (b - β + X) else none) else if b < X then ρ b else none) = none
    have hb : X ≤ b := hb
    rw [if_neg (by omega), if_neg (by omega)]
  · obtain ⟨b1, B1, h1, h2, h3, h4⟩ := hh b B hb
    have hlt : b1 < X + k := hr.dom b1 B1 h1
    show b < X
    rw [← h2]
    unfold dwn
    split <;> omega
end

/-- What one that turns the heap does, out of a stage into one. -/
def EffX (P : Program) (op : Op) (tm : List (Nat × AV)) (g g' : SG) (it : IX) : Prop :=
  (g.x ≤ it.b0 ∧ g'.x = it.b1 ∧ OpOK P op ⟨tm, g.h, it.b0⟩ it.v g'.h g'.x) ∨
  (it.b1 ≤ g.x ∧ g'.x = g.x ∧ ∃ v1 H1 k, OpOK P op ⟨tm, g.h, g.x⟩ v1 H1 (g.x + k) ∧ it.b0 + k ≤ it.b1 ∧ v1.ren (dwn g.x it.b0) = it.v ∧ HR g.x it.b0 it.b1 H1 g'.h)

def entX : List Oper → List IX → List (Nat × AV) → Nat → AV
  | o :: l, it :: its, tm, x => if o.dst = some x then it.v else entX l its tm x
  | _, _, tm, x => tget tm x

/-- What is looked at without the values; dn, un: may it have run, may it not have run, at a stage. -/
structure PlanX (l : List Oper) (its : List IX) (sg : List SG) (m : Nat) (dn un : Nat → Nat → Bool) : Prop where
  len : l.length = its.length
  up : ∀ (i : Nat) (o : Oper), l[i]? = some o → ∀ p ∈ edges o, p < i
  dist : ∀ (i j : Nat) (o o' : Oper) (d : Nat), l[i]? = some o → l[j]? = some o' → o.dst = some d → o'.dst = some d → i = j
  dnE : ∀ (i s : Nat) (it : IX) (g : SG), its[i]? = some it → it.ef = true → sg[s]? = some g → (i ∈ g.e → dn i s = true) ∧ (i ∉ g.e → un i s = true)
  dnQ : ∀ (i s : Nat) (o : Oper) (it : IX), l[i]? = some o → its[i]? = some it → it.ef = false → s < sg.length → (∀ p ∈ edges o, dn p s = true) → dn i s = true
  unQ : ∀ (i s : Nat) (it : IX), its[i]? = some it → it.ef = false → s < sg.length → (∀ (j : Nat) (o : Oper), l[j]? = some o → i ∈ edges o → un j s = true) → un i s = true
  rng : ∀ (i j : Nat) (it jt : IX), its[i]? = some it → its[j]? = some jt → it.ef = true → jt.ef = true → i ≠ j → it.b1 ≤ jt.b0 ∨ jt.b1 ≤ it.b0
  fin : ∀ (s : Nat) (g : SG), sg[s]? = some g → (∀ (i : Nat) (it : IX), its[i]? = some it → it.ef = true → i ∈ g.e) → s = m
  guard : ∀ (i : Nat) (o : Oper) (j : Nat) (b : Bool), l[i]? = some o → o.guard = some (j, b) → j ∈ edges o ∧ ∃ o' d, l[j]? = some o' ∧ o'.dst = some d

/-- What an operation sees: what was made ahead of it, or what was there ahead of the region. -/
def SeesX (l : List Oper) (its : List IX) (tm0 : List (Nat × AV)) : Prop := ∀ (i : Nat) (o : Oper) (it : IX) (x : Nat), l[i]? = some o → its[i]? = some it → tget it.tm x = .top ∨
  (∃ p ∈ edges o, ∃ o' jt, l[p]? = some o' ∧ its[p]? = some jt ∧ o'.dst = some x ∧ tget it.tm x = jt.v) ∨ (tget it.tm x = tget tm0 x ∧ ∀ (j : Nat) (o' : Oper), l[j]? = some o' → o'.dst = some x → i ∈ edges o')

def RunX (P : Program) (op : Op) (i : Nat) (it : IX) (tm : List (Nat × AV)) (sg : List SG) (g : SG) : Prop :=
  if it.ef then ∃ (s' : Nat) (g' : SG), sg[s']? = some g' ∧ (∀ j, j ∈ g'.e ↔ j ∈ g.e ∨ j = i) ∧ EffX P op tm g g' it else OpQ P op tm g.h it.v

def ObX (P : Program) (l : List Oper) (its : List IX) (sg : List SG) (i s : Nat) : Prop :=
  ∀ o it g, l[i]? = some o → its[i]? = some it → sg[s]? = some g →
    match o.guard with
    | none => RunX P o.op i it it.tm sg g
    | some (j, b) => ∃ r, (∃ q, its[j]? = some q ∧ gv q.v = some r) ∧ (r = some b → RunX P o.op i it it.tm sg g) ∧ (r ≠ some b → it.v = .tup [] ∧ (it.ef = true → ∃ (s' : Nat) (g' : SG), sg[s']? = some g' ∧ (∀ j, j ∈ g'.e ↔ j ∈ g.e ∨ j = i) ∧ g'.h = g.h ∧ g.x ≤ g'.x))

structure DX (c : Ctx) (n : Nat) (l : List Oper) (its : List IX) (sg : List SG) (tm0 : List (Nat × AV)) (t : Array Bool) (a : Act) (w : World) (s : Nat) (g : SG) : Prop where
  size : t.size = l.length
  closed : ∀ (i : Nat) (o : Oper), l[i]? = some o → L t i → ∀ p ∈ edges o, L t p
  at_ : sg[s]? = some g
  st : ∀ (i : Nat) (it : IX), its[i]? = some it → it.ef = true → (L t i ↔ i ∈ g.e)
  rep : ∃ tm ρ S, Rep c n ⟨tm, g.h, g.x⟩ ρ S a w ∧ (∀ (i : Nat) (o : Oper) (it : IX) (x : Nat), l[i]? = some o → its[i]? = some it → o.dst = some x → L t i → tget tm x = it.v) ∧
    (∀ x, (∀ (i : Nat) (o : Oper), l[i]? = some o → o.dst = some x → ¬ L t i) → tget tm x = tget tm0 x) ∧
    ∀ (i : Nat) (it : IX), its[i]? = some it → it.ef = true → ¬ L t i → ∀ b, it.b0 ≤ b → b < it.b1 → ρ b = none

section
variable {P : Program} {c : Ctx} {n : Nat} {Q : Exit → St → Prop} {l : List Oper} {its : List IX} {sg : List SG} {m : Nat} {tm0 : List (Nat × AV)} {dn un : Nat → Nat → Bool}

theorem dn_ok (hp : PlanX l its sg m dn un) {t : Array Bool} {a : Act} {w : World} {s : Nat} {g : SG} (hd : DX c n l its sg tm0 t a w s g) : ∀ (i : Nat), i < l.length → L t i → dn i s = true := by
  intro i
  induction i using Nat.strongRecOn with
  | ind i ih =>
    intro hi hL
    obtain ⟨o, ho⟩ : ∃ o, l[i]? = some o := ⟨_, List.getElem?_eq_getElem hi⟩
    obtain ⟨it, hit⟩ : ∃ it, its[i]? = some it := ⟨_, List.getElem?_eq_getElem (by rw [← hp.len]; exact hi)⟩
    cases hef : it.ef with
    | true => exact (hp.dnE i s it g hit hef hd.at_).1 ((hd.st i it hit hef).1 hL)
    | false =>
      refine hp.dnQ i s o it ho hit hef (List.getElem?_eq_some_iff.1 hd.at_).1 fun p hpe => ?_
      have := hp.up i o ho p hpe
      exact ih p this (by omega) (hd.closed i o ho hL p hpe)

theorem un_ok (hp : PlanX l its sg m dn un) {t : Array Bool} {a : Act} {w : World} {s : Nat} {g : SG} (hd : DX c n l its sg tm0 t a w s g) : ∀ (k i : Nat), l.length - i ≤ k → i < l.length → ¬ L t i → un i s = true := by
  intro k
  induction k with
  | zero => intro i h1 h2; omega
  | succ k ih =>
    intro i hk hi hn
    obtain ⟨it, hit⟩ : ∃ it, its[i]? = some it := ⟨_, List.getElem?_eq_getElem (by rw [← hp.len]; exact hi)⟩
    cases hef : it.ef with
    | true => exact (hp.dnE i s it g hit hef hd.at_).2 (fun h => hn ((hd.st i it hit hef).2 h))
    | false =>
      refine hp.unQ i s it hit hef (List.getElem?_eq_some_iff.1 hd.at_).1 fun j o ho he => ?_
      have h1 := hp.up j o ho i he
      exact ih j (by omega) (List.getElem?_eq_some_iff.1 ho).1 (fun hl => hn (hd.closed j o ho hl i he))

theorem entX_spec : ∀ (l : List Oper) (its : List IX) (tm : List (Nat × AV)) (x : Nat), l.length = its.length → (∀ (i j : Nat) (o o' : Oper) (d : Nat), l[i]? = some o → l[j]? = some o' → o.dst = some d → o'.dst = some d → i = j) →
    (∀ (i : Nat) (o : Oper) (it : IX), l[i]? = some o → its[i]? = some it → o.dst = some x → entX l its tm x = it.v) ∧ ((∀ (i : Nat) (o : Oper), l[i]? = some o → o.dst ≠ some x) → entX l its tm x = tget tm x) := by
  intro l
  induction l with
  | nil => intro its tm x hl _; exact ⟨fun i o it h => by simp at h, fun _ => by cases its <;> rfl⟩
  | cons o l ih =>
    intro its tm x hl hd
    cases its with
    | nil => simp at hl
    | cons it its =>
      obtain ⟨h1, h2⟩ := ih its tm x (by simpa using hl) (fun i j o o' d a b e f => by have := hd (i + 1) (j + 1) o o' d a b e f; omega)
      simp only [entX]
      refine ⟨fun i o' it' ho hi hdst => ?_, fun hno => ?_⟩
      · cases i with
        | zero =>
          simp only [List.getElem?_cons_zero, Option.some.injEq] at ho hi
          subst ho; subst hi
          rw [if_pos hdst]
        | succ i =>
          have : ¬ o.dst = some x := fun e => by have := hd 0 (i + 1) o o' x rfl ho e hdst; omega
          rw [if_neg this]
          exact h1 i o' it' ho hi hdst
      · rw [if_neg (hno 0 o rfl)]
        exact h2 (fun i o' ho => hno (i + 1) o' ho)

/-- One step, whatever operation comes up. -/
theorem drawX_step (hp : PlanX l its sg m dn un) (hdn : ∀ o ∈ l, ∀ d, o.dst = some d → d < n) (hT : SeesX l its tm0) (hb0 : ∀ (i : Nat) (it : IX), its[i]? = some it → it.ef = true → c.nx0 ≤ it.b0 ∧ it.b0 ≤ it.b1)
    (hob : ∀ (i s : Nat) (o : Oper), l[i]? = some o → s < sg.length → (∀ p ∈ edges o, dn p s = true) → un i s = true → ObX P l its sg i s)
    {t : Array Bool} {a : Act} {w : World} {s : Nat} {g : SG} (hd : DX c n l its sg tm0 t a w s g) {i : Nat} {o : Oper} (ho : l[i]? = some o) (hn : ¬ L t i) (hall : ∀ p ∈ edges o, L t p)
    {K : Act → World → Prop} {Qe : Exit → Act → World → Prop} (hK : ∀ a' w' s' g', DX c n l its sg tm0 (t.setIfInBounds i true) a' w' s' g' → K a' w') : wpOp P l.toArray Qe i K a w := by
  have hil : i < l.length := (List.getElem?_eq_some_iff.1 ho).1
  obtain ⟨it, hit⟩ : ∃ it, its[i]? = some it := ⟨_, List.getElem?_eq_getElem (by rw [← hp.len]; exact hil)⟩
  have hsl : s < sg.length := (List.getElem?_eq_some_iff.1 hd.at_).1
  obtain ⟨tm, ρ, S, hrep, hE1, hE2, hgap⟩ := hd.rep
  have hO := hob i s o ho hsl (fun p hpe => dn_ok hp hd p (by have := hp.up i o ho p hpe; omega) (hall p hpe)) (un_ok hp hd (l.length - i) i (Nat.le_refl _) hil hn) o it g ho hit hd.at_
  -- what the operation looks at is there
  have hmnr : ∀ {X' : Nat}, g.x ≤ X' → Rep c n ⟨it.tm, g.h, X'⟩ ρ S a w := fun {X'} hX => by
    have hrep := hrep.raise hX
    refine ⟨hrep.size, hrep.defers, fun x => ?_, hrep.sim, hrep.post, hrep.fresh, hrep.le, hrep.dom⟩
    show VR S w ρ (tget it.tm x) _
    rcases hT i o it x ho hit with h | ⟨p, hpe, o', jt, ho', hjt, hd', h⟩ | ⟨h, hj⟩
    · rw [h]; exact .top
    · rw [h, ← hE1 p o' jt x ho' hjt hd' (hall p hpe)]
      exact hrep.tmps x
    · rw [h, ← hE2 x (fun j o' ho' hd' hL => hn (hd.closed j o' ho' hL i (hj j o' ho' hd')))]
      exact hrep.tmps x
  have hset : i < t.size := by rw [hd.size]; exact hil
  have hsub : ∀ j, L (t.setIfInBounds i true) j → i = j ∨ L t j := fun j hL => (L_set hset).1 hL
  -- how things stand behind it
  have next : ∀ (w' : World) (u : Value) (ρ' : Rho) (S' : Nat → Prop) (s' : Nat) (g' : SG), Rep c n ⟨tm, g'.h, g'.x⟩ ρ' S' a w' → VR S' w' ρ' it.v u → sg[s']? = some g' →
      (∀ (j : Nat) (jt : IX), its[j]? = some jt → jt.ef = true → (i = j ∨ L t j ↔ j ∈ g'.e)) → (∀ (j : Nat) (jt : IX), its[j]? = some jt → jt.ef = true → i ≠ j → ¬ L t j → ∀ b, jt.b0 ≤ b → b < jt.b1 → ρ' b = none) →
      DX c n l its sg tm0 (t.setIfInBounds i true) (a.put o.dst u) w' s' g' := by
    intro w' u ρ' S' s' g' hr' hv' hs' hst' hg'
    refine ⟨by simp [hd.size], fun j o' ho' hL p hpe => ?_, hs', fun j jt hj he => ?_, ?_⟩
    · rw [L_set hset] at hL ⊢
      rcases hL with rfl | hL
      · rw [ho] at ho'
        obtain rfl := Option.some.inj ho'
        exact .inr (hall p hpe)
      · exact .inr (hd.closed j o' ho' hL p hpe)
    · rw [L_set hset]; exact hst' j jt hj he
    · have hgap' : ∀ (j : Nat) (jt : IX), its[j]? = some jt → jt.ef = true → ¬ L (t.setIfInBounds i true) j → ∀ b, jt.b0 ≤ b → b < jt.b1 → ρ' b = none := fun j jt hj he hnL => by
        rw [L_set hset] at hnL
        exact hg' j jt hj he (fun e => hnL (.inl e)) (fun e => hnL (.inr e))
      cases hdst : o.dst with
      | none =>
        refine ⟨tm, ρ', S', hr', fun j o' jt x hj hjt hx hL => ?_, fun x hx => hE2 x (fun j o' hj hxd hL => hx j o' hj hxd ((L_set hset).2 (.inr hL))), hgap'⟩
        rcases (L_set hset).1 hL with rfl | hL
        · rw [ho] at hj; obtain rfl := Option.some.inj hj; rw [hdst] at hx; cases hx
        · exact hE1 j o' jt x hj hjt hx hL
      | some d =>
        refine ⟨(d, it.v) :: tm, ρ', S', hr'.put d (hdn o (List.mem_of_getElem? ho) d hdst) it.v u hv', fun j o' jt x hj hjt hx hL => ?_, fun x hx => ?_, hgap'⟩
        · by_cases e : d = x
          · subst e
            have : i = j := hp.dist i j o o' d ho hj hdst hx
            subst this
            rw [hit] at hjt
            obtain rfl := Option.some.inj hjt
            simp [tget]
          · simp only [tget, e, if_false]
            rcases (L_set hset).1 hL with rfl | hL
            · rw [ho] at hj; obtain rfl := Option.some.inj hj; rw [hdst] at hx; exact absurd (Option.some.inj hx) e
            · exact hE1 j o' jt x hj hjt hx hL
        · have e : d ≠ x := fun e => hx i o ho (by rw [hdst, e]) ((L_set hset).2 (.inl rfl))
          simp only [tget, e, if_false]
          exact hE2 x (fun j o' hj hxd hL => hx j o' hj hxd ((L_set hset).2 (.inr hL)))
  have hquiet : ∀ (j : Nat) (jt : IX), it.ef = false → its[j]? = some jt → jt.ef = true → (i = j ∨ L t j ↔ j ∈ g.e) := by
    intro j jt hef hj he
    rw [← hd.st j jt hj he]
    constructor
    · rintro (rfl | h)
      · rw [hit] at hj; obtain rfl := Option.some.inj hj; rw [hef] at he; cases he
      · exact h
    · exact .inr
  have hgapq : ∀ (j : Nat) (jt : IX), its[j]? = some jt → jt.ef = true → i ≠ j → ¬ L t j → ∀ b, jt.b0 ≤ b → b < jt.b1 → ρ b = none := fun j jt hj he _ hnL => hgap j jt hj he hnL
  have hrun : RunX P o.op i it it.tm sg g → o.wp P a w K Qe := by
    intro hR
    unfold RunX at hR
    cases hef : it.ef with
    | true =>
      rw [hef] at hR
      simp only [if_true] at hR
      obtain ⟨s', g', hg', hmem, hE⟩ := hR
      obtain ⟨hc0, hc1⟩ := hb0 i it hit hef
      have hst' : ∀ (j : Nat) (jt : IX), its[j]? = some jt → jt.ef = true → (i = j ∨ L t j ↔ j ∈ g'.e) := fun j jt hj he => by
        rw [hmem, ← hd.st j jt hj he]
        exact ⟨fun h => h.elim (fun e => .inr e.symm) .inl, fun h => h.elim .inr (fun e => .inl e.symm)⟩
      rcases hE with ⟨q1, q2, q3⟩ | ⟨q1, q2, v1, H1, k, q3, q4, q5, q6⟩
      · refine (q3.strong (hmnr q1) o rfl).wp fun u w' ⟨ρ', S', r3, r4, r5, r6⟩ => ?_
        have hext : ∀ b r, ρ b = some r → ρ' b = some r := fun b r hb => by
          have hlt : b < g.x := hrep.known hb
          rw [r5 b (by omega)]; exact hb
        have hr' : Rep c n ⟨tm, g'.h, g'.x⟩ ρ' S' a w' := ⟨r3.size, r3.defers, fun x => (hrep.tmps x).mono r6 hext, r3.sim, r3.post, r3.fresh, r3.le, r3.dom⟩
        refine hK _ _ _ _ (next w' u ρ' S' s' g' hr' r4 hg' hst' fun j jt hj he hij hnL b h0 h1 => ?_)
        rcases hp.rng i j it jt hit hj hef he hij with h | h
        · exact r3.fresh b (by show g'.x ≤ b; omega)
        · rw [r5 b (by omega)]
          exact hgap j jt hj he hnL b h0 h1
      · refine (q3.strong (hmnr (Nat.le_refl _)) o rfl).wp fun u w' ⟨ρ', S', r3, r4, r5, r6⟩ => ?_
        have hext : ∀ b r, ρ b = some r → ρ' b = some r := fun b r hb => by
          have hlt : b < g.x := hrep.known hb
          rw [r5 b (by omega)]; exact hb
        have hr1 : Rep c n ⟨tm, H1, g.x + k⟩ ρ' S' a w' := ⟨r3.size, r3.defers, fun x => (hrep.tmps x).mono r6 hext, r3.sim, r3.post, r3.fresh, r3.le, r3.dom⟩
        obtain ⟨ρ2, k1, k2, k3, k4⟩ := Rep.down hrep hr1 r5 (fun b h0 h1 => hgap i it hit hef hn b h0 h1) q4 q1 r6 hc0 q6 r4
        rw [q5] at k2
        refine hK _ _ _ _ (next w' u ρ2 S' s' g' (by rw [q2]; exact k1) k2 hg' hst' fun j jt hj he hij hnL b h0 h1 => ?_)
        rcases Nat.lt_or_ge b g.x with hb | hb
        · rw [k4 b hb (by rcases hp.rng i j it jt hit hj hef he hij with h | h <;> omega)]
          exact hgap j jt hj he hnL b h0 h1
        · exact k1.fresh b hb
    | false =>
      rw [hef] at hR
      simp only [Bool.false_eq_true, if_false] at hR
      refine ((hR g.x).strong (hmnr (Nat.le_refl _)) o rfl).wp fun u w' ⟨ρ', S', r3, r4, r5, r6⟩ => ?_
      have hext : ∀ b r, ρ b = some r → ρ' b = some r := fun b r hb => by
        have hlt : b < g.x := hrep.known hb
        rw [r5 b hlt]; exact hb
      have hr' : Rep c n ⟨tm, g.h, g.x⟩ ρ' S' a w' := ⟨r3.size, r3.defers, fun x => (hrep.tmps x).mono r6 hext, r3.sim, r3.post, r3.fresh, r3.le, r3.dom⟩
      refine hK _ _ _ _ (next w' u ρ' S' s g hr' r4 hd.at_ (fun j jt => hquiet j jt hef) fun j jt hj he hij hnL b h0 h1 => ?_)
      rcases Nat.lt_or_ge b g.x with hb | hb
      · rw [r5 b hb]; exact hgap j jt hj he hnL b h0 h1
      · exact r3.fresh b hb
  unfold wpOp
  rw [show l.toArray[i]? = some o from by rw [List.getElem?_toArray]; exact ho]
  simp only []
  cases hg : o.guard with
  | none =>
    rw [hg] at hO
    rw [if_pos (by simp [Region.wanted, hg])]
    exact .inl (hrun hO)
  | some jb =>
    obtain ⟨j, b⟩ := jb
    rw [hg] at hO
    simp only [] at hO
    obtain ⟨b', ⟨q, hq1, hq2⟩, h1, h2⟩ := hO
    obtain ⟨hje, o', d, ho', hd'⟩ := hp.guard i o j b ho hg
    have hval := hE1 j o' q d ho' hq1 hd' (hall j hje)
    have hy : yielded l.toArray a.tmps j = b' := yielded_gv hrep (d := d) (by rw [List.getElem?_toArray, ho']; exact hd') (hdn o' (List.mem_of_getElem? ho') d hd') (by rw [show (St.mk tm g.h g.x).tm = tm from rfl, hval]; exact hq2)
    by_cases e : b' = some b
    · rw [if_pos (by simp [Region.wanted, hg, hy, e])]
      exact .inl (hrun (h1 e))
    · rw [if_neg (by simp [Region.wanted, hg, hy, e])]
      obtain ⟨e1, e2⟩ := h2 e
      have hvu : VR S w ρ it.v undef := by rw [e1]; exact .tup #[] rfl (fun i x u hx _ => by simp at hx)
      cases hef : it.ef with
      | false => exact hK _ _ _ _ (next w undef ρ S s g hrep hvu hd.at_ (fun j jt => hquiet j jt hef) hgapq)
      | true =>
        obtain ⟨s', g', k1, k2, k3, k4⟩ := e2 hef
        exact hK _ _ _ _ (next w undef ρ S s' g' (by rw [k3]; exact hrep.raise k4) hvu k1 (fun j jt hj he => by
          rw [k2, ← hd.st j jt hj he]
          exact ⟨fun h => h.elim (fun e => .inr e.symm) .inl, fun h => h.elim .inr (fun e => .inl e.symm)⟩) hgapq)

theorem drawX_any (hp : PlanX l its sg m dn un) (hT : SeesX l its tm0) (hdn : ∀ o ∈ l, ∀ d, o.dst = some d → d < n) {E : List (Nat × AV)} (hE : ∀ x, tget E x = entX l its tm0 x) (hb0 : ∀ (i : Nat) (it : IX), its[i]? = some it → it.ef = true → c.nx0 ≤ it.b0 ∧ it.b0 ≤ it.b1)
    (hob : ∀ (i s : Nat) (o : Oper), l[i]? = some o → s < sg.length → (∀ p ∈ edges o, dn p s = true) → un i s = true → ObX P l its sg i s) {g1 : SG} (hH : sg[m]? = some g1) (hQ : Q .normal ⟨E, g1.h, g1.x⟩) :
    ∀ (fuel : Nat) (t : Array Bool) (a : Act) (w : World) (s : Nat) (g : SG), left l.length t ≤ fuel → DX c n l its sg tm0 t a w s g → wpAny P .any l.toArray (Lift c n Q) fuel t a w := by
  have fin : ∀ (t : Array Bool) (a : Act) (w : World) (s : Nat) (g : SG), DX c n l its sg tm0 t a w s g → Region.ready .any l.toArray t = [] → Lift c n Q .normal a w := by
    intro t a w s g hd hr
    have hall : ∀ i, i < l.length → L t i := by
      intro i
      induction i using Nat.strongRecOn with
      | ind i ih =>
        intro hi
        refine Classical.byContradiction fun hn => ?_
        have : i ∈ Region.ready .any l.toArray t := (ready_mem hd.size).2 ⟨hi, hn, _, List.getElem?_eq_getElem hi, fun p hpe => by
          have := hp.up i _ (List.getElem?_eq_getElem hi) p hpe
          exact ih p this (by omega)⟩
        rw [hr] at this
        cases this
    obtain ⟨tm, ρ, S, hrep, hE1, hE2, _⟩ := hd.rep
    have hs : s = m := hp.fin s g hd.at_ fun i it hit he => (hd.st i it hit he).1 (hall i (by rw [hp.len]; exact (List.getElem?_eq_some_iff.1 hit).1))
    have hat := hd.at_
    rw [hs, hH] at hat
    obtain rfl := Option.some.inj hat
    refine ⟨⟨E, g1.h, g1.x⟩, ρ, S, hQ, hrep.size, hrep.defers, fun x => ?_, hrep.sim, hrep.post, hrep.fresh, hrep.le, hrep.dom⟩
    show VR S w ρ (tget E x) _
    obtain ⟨e1, e2⟩ := entX_spec l its tm0 x hp.len hp.dist
    have : tget E x = tget tm x := by
      rw [hE]
      by_cases hx : ∃ (i : Nat) (o : Oper), l[i]? = some o ∧ o.dst = some x
      · obtain ⟨i, o, ho, hx⟩ := hx
        have hil : i < l.length := (List.getElem?_eq_some_iff.1 ho).1
        obtain ⟨it, hit⟩ : ∃ it, its[i]? = some it := ⟨_, List.getElem?_eq_getElem (by rw [← hp.len]; exact hil)⟩
        rw [e1 i o it ho hit hx, hE1 i o it x ho hit hx (hall i hil)]
      · rw [e2 (fun i o ho hx' => hx ⟨i, o, ho, hx'⟩), hE2 x (fun i o ho hx' => absurd ⟨i, o, ho, hx'⟩ hx)]
    rw [this]
    exact hrep.tmps x
  intro fuel
  induction fuel with
  | zero =>
    intro t a w s g hl hd
    have hr : Region.ready .any l.toArray t = [] := by
      refine List.eq_nil_iff_forall_not_mem.2 fun i hi => ?_
      obtain ⟨h1, h2, _⟩ := (ready_mem hd.size).1 hi
      have : left l.length t = 0 := by omega
      unfold left at this
      rw [List.countP_eq_zero] at this
      have := this i (List.mem_range.2 h1)
      unfold L at h2
      exact this (by revert h2; cases t.getD i false <;> simp)
    exact ⟨hr, fin t a w s g hd hr⟩
  | succ fuel ih =>
    intro t a w s g hl hd
    refine ⟨fin t a w s g hd, fun i hi => ?_⟩
    obtain ⟨h1, h2, o, ho, h3⟩ := (ready_mem hd.size).1 hi
    refine drawX_step hp hdn hT hb0 hob hd ho h2 h3 fun a' w' s' g' hd' => ih _ a' w' s' g' ?_ hd'
    have hts : i < t.size := by rw [hd.size]; exact h1
    have := countP_less (p := fun j => !(t.setIfInBounds i true).getD j false) (q := fun j => !t.getD j false) (l := List.range l.length) (fun x _ hx => ?_) (List.mem_range.2 h1) ?_ ?_
    · unfold left at hl ⊢; omega
    · by_cases e : i = x
      · subst e
        rw [show (t.setIfInBounds i true).getD i false = true from (L_set hts).2 (.inl rfl)] at hx
        cases hx
      · rw [getD_set_ne false e] at hx; exact hx
    · unfold L at h2; revert h2; cases t.getD i false <;> simp
    · show (!(t.setIfInBounds i true).getD i false) = false
      rw [show (t.setIfInBounds i true).getD i false = true from (L_set hts).2 (.inl rfl)]; rfl

/-- A region whose order is open. -/
theorem aw_drawX {id : Nat} {st0 : St} (hm : P.follows .mixedOrders = true) (hp : PlanX l its sg m dn un) (hT : SeesX l its st0.tm) (hdn : ∀ o ∈ l, ∀ d, o.dst = some d → d < n) {E : List (Nat × AV)} (hE : ∀ x, tget E x = entX l its st0.tm x)
    (hb0 : ∀ (i : Nat) (it : IX), its[i]? = some it → it.ef = true → st0.nx ≤ it.b0 ∧ it.b0 ≤ it.b1)
    (hob : ∀ (i s : Nat) (o : Oper), l[i]? = some o → s < sg.length → (∀ p ∈ edges o, dn p s = true) → un i s = true → ObX P l its sg i s) {g0 g1 : SG} (h0 : sg[0]? = some g0) (h0e : g0 = ⟨[], st0.h, st0.nx⟩) (hH : sg[m]? = some g1) (hQ : Q .normal ⟨E, g1.h, g1.x⟩) :
    AW P c n (.region id l.toArray true) Q st0 := by
  intro ρ S a w hr
  have hno : ∀ i, ¬ L (Array.replicate l.length false) i := fun i h => by
    unfold L at h
    rw [Array.getD_eq_getD_getElem?, Array.getElem?_replicate] at h
    split at h <;> simp at h
  have hinit : DX c n l its sg st0.tm (Array.replicate l.length false) a w.drew 0 g0 := by
    refine ⟨by simp, fun i o _ h => (hno i h).elim, h0, fun i it hit he => ⟨fun h => (hno i h).elim, fun h => by rw [h0e] at h; cases h⟩, ?_⟩
    have hr' := hr.same (Same.drew w)
    refine ⟨st0.tm, ρ, S, by rw [h0e]; exact hr', fun i o it x _ _ _ h => (hno i h).elim, fun _ _ => rfl, fun i it hit he _ b h1 h2 => hr.fresh b (by have := (hb0 i it hit he).1; omega)⟩
  refine wp_region_any hm ?_
  have key := drawX_any (Q := Q) (c := c) hp hT hdn hE (fun i it hit he => ⟨Nat.le_trans hr.le (hb0 i it hit he).1, (hb0 i it hit he).2⟩) hob hH hQ l.length _ a w.drew 0 g0 (by
      unfold left
      exact Nat.le_trans List.countP_le_length (by simp)) hinit
  simpa using key
end
end Go.Proofs.Ytpggknkhldecaaa.Abs
end
section
/-
  Maps of one's own: made, written, looked up, cut. They hold of any program.
-/
namespace Go.Proofs.Ytpggknkhldecaaa.Abs

/-- Keys that are told. -/
def keyA : TypeDesc → AV → Bool
  | .int k, .int k' _ => decide (k' = k)
  | .string, .str _ => true
  | .bool, .bool _ => true
  | _, _ => false

def keyEq : AV → AV → Bool
  | .int _ a, .int _ b => a == b
  | .str a, .str b => a.data.toList == b.data.toList
  | .bool a, .bool b => a == b
  | _, _ => false

/-- Where a key stands in a map, and with what. -/
def findA (k : AV) : List (AV × AV) → Nat → Option (Nat × AV)
  | [], _ => none
  | p :: t, i => match keyEq k p.1 with
    | true => some (i, p.2)
    | false => findA k t (i + 1)

theorem same_key {S : Nat → Prop} {w : World} {ρ : Rho} {d : TypeDesc} {x y : AV} {k e : Value} (h1 : keyA d x = true) (h2 : keyA d y = true) (hx : VR S w ρ x k) (hy : VR S w ρ y e) :
    MapKept.IsKey d k ∧ MapKept.IsKey d e ∧ Instr.sameNow d k e = some (keyEq x y) ∧ (keyEq x y = true → e = k) := by
  cases d <;> cases x <;> simp only [keyA, Bool.false_eq_true, decide_eq_true_eq] at h1 <;> cases y <;> simp only [keyA, Bool.false_eq_true, decide_eq_true_eq] at h2
  · cases hx; cases hy
    refine ⟨trivial, trivial, rfl, fun h => ?_⟩
    rename_i a b
    simp only [keyEq, beq_iff_eq] at h
    rw [h]
  · subst h1 h2
    cases hx; cases hy
    refine ⟨rfl, rfl, by simp [Instr.sameNow, keyEq], fun h => ?_⟩
    simp only [keyEq, beq_iff_eq] at h
    rw [h]
  · cases hx; cases hy
    rename_i a b
    refine ⟨trivial, trivial, ?_, fun h => ?_⟩
    · simp only [Instr.sameNow, keyEq, Option.some.injEq]
      rw [Bool.eq_iff_iff, MapKept.bytes_beq, beq_iff_eq]
      exact ⟨fun e => by rw [e], fun e => by cases a; cases b; exact congrArg ByteArray.mk (Array.ext' e)⟩
    · simp only [keyEq, beq_iff_eq] at h
      have : a = b := by cases a; cases b; exact congrArg ByteArray.mk (Array.ext' h)
      rw [this]

theorem findA_now {S : Nat → Prop} {w : World} {ρ : Rho} {d : TypeDesc} {x : AV} {k : Value} (h1 : keyA d x = true) (hx : VR S w ρ x k) : ∀ (es : List (AV × AV)) (ents : List MapEntry) (i : Nat), es.all (fun p => keyA d p.1) = true → es.length = ents.length →
    (∀ (j : Nat) (p : AV × AV) (e : MapEntry), es[j]? = some p → ents[j]? = some e → VR S w ρ p.1 e.key ∧ VR S w ρ p.2 e.val) →
    (findA x es i = none ∧ Instr.findNow d k ents i = some none) ∨
      ∃ j p e, findA x es i = some (i + j, p.2) ∧ es[j]? = some p ∧ ents[j]? = some e ∧ Instr.findNow d k ents i = some (some (i + j, e.val)) ∧ e.key = k ∧ VR S w ρ p.2 e.val := by
  intro es
  induction es with
  | nil => intro ents i _ hl _; cases ents with
    | nil => exact .inl ⟨rfl, rfl⟩
    | cons e t => simp at hl
  | cons p t ih =>
    intro ents i ha hl hv
    cases ents with
    | nil => simp at hl
    | cons e u =>
      rw [List.all_cons, Bool.and_eq_true] at ha
      have hp := hv 0 p e rfl rfl
      obtain ⟨_, _, hs, he⟩ := same_key h1 ha.1 hx hp.1
      cases hq : keyEq x p.1 with
      | true => exact .inr ⟨0, p, e, by simp [findA, hq], rfl, rfl, by simp [Instr.findNow, hs, hq], he hq, hp.2⟩
      | false =>
        rcases ih u (i + 1) ha.2 (by simpa using hl) (fun j p' e' a b => hv (j + 1) p' e' (by simpa using a) (by simpa using b)) with ⟨g1, g2⟩ | ⟨j, p', e', g1, g2, g3, g4, g5, g6⟩
        · exact .inl ⟨by simp [findA, hq, g1], by simp [Instr.findNow, hs, hq, g2]⟩
        · exact .inr ⟨j + 1, p', e', by simp [findA, hq, g1]; omega, by simpa using g2, by simpa using g3, by simp [Instr.findNow, hs, hq, g4]; omega, g5, g6⟩

theorem key_is {S : Nat → Prop} {w : World} {ρ : Rho} {d : TypeDesc} {x : AV} {k : Value} (h1 : keyA d x = true) (hx : VR S w ρ x k) : MapKept.IsKey d k := (same_key h1 h1 hx hx).1

/-- What a map is with one more, or with another one at its place. -/
def putM (es : List (AV × AV)) (k v : AV) : List (AV × AV) :=
  match findA k es 0 with
  | some (i, _) => es.set i (k, v)
  | none => es ++ [(k, v)]

def delM (es : List (AV × AV)) (k : AV) : List (AV × AV) :=
  match findA k es 0 with
  | some (i, _) => es.eraseIdx i
  | none => es

section
variable {P : Program} {tm : List (Nat × AV)} {h : Heap} {nx : Nat}

theorem Rep.newMap {c : Ctx} {n : Nat} {ρ : Rho} {S : Nat → Prop} {a : Act} {w : World} (hr : Rep c n ⟨tm, h, nx⟩ ρ S a w) : Rep c n ⟨tm, (nx, .map []) :: h, nx + 1⟩ (upd ρ nx ⟨w.heap.size, 0, 0⟩) S a (w.alloc (.map #[] 0)) := by
  have hsame := Same.alloc w (.map #[] 0)
  refine hr.turn nx ⟨w.heap.size, 0, 0⟩ (.map []) _ _ _ hsame.os hsame.tape hsame.output hsame.size (fun k hk _ => hsame.block k hk) (fun k hk => by unfold upd; rw [if_neg (Nat.ne_of_lt hk)]) (Nat.le_succ _) (by unfold upd; rw [if_pos rfl]) ?_ (by simp) (fun hs => Nat.lt_irrefl _ (hr.sim.lt _ hs)) (.inr hr.post.size) ?_ ?_ ?_ (Nat.lt_succ_self _)
  · exact ⟨#[], 0, heap_alloc_new w _, rfl, ⟨by simp, by simp⟩, fun i p e hp => by simp at hp⟩
  · intro k X hk
    by_cases e : nx = k
    · subst e; simp only [hget, if_true] at hk; exact .inl ⟨rfl, (Option.some.inj hk).symm⟩
    · simp only [hget, e, if_false] at hk; exact .inr ⟨fun e' => e e'.symm, hk⟩
  · intro k X q hk hX hq
    have hX' : hget h k = some X := by
      simp only [hget] at hX
      rw [if_neg (fun e => hk e.symm)] at hX
      exact hX
    have := (blk_of hr (b := k) hX' hq).2.1
    exact Nat.ne_of_lt this
  · intro k hk
    unfold upd
    rw [if_neg (by omega)]
    exact hr.fresh k (by show nx ≤ k; omega)

/-- make(map[K]V), map[K]V{}. -/
theorem op_makeMap {t : TypeId} : OpOK P (.makeMap t none) ⟨tm, h, nx⟩ (.omap nx) ((nx, .map []) :: h) (nx + 1) := OpOK.of fun c n ρ S a w hr =>
  ⟨_, .map (some w.heap.size), w.alloc (.map #[] 0), _, S, fun o ho => by unfold execOp; rw [ho]; simp [Instr.makeMap], .inl rfl, hr.newMap, .omap (r := ⟨w.heap.size, 0, 0⟩) (upd_self _ _ _), upd_ext hr _, alloc_ext hr (Same.refl w) _⟩

/-- A map, in the world. -/
theorem map_of {c : Ctx} {n : Nat} {ρ : Rho} {S : Nat → Prop} {a : Act} {w : World} (hr : Rep c n ⟨tm, h, nx⟩ ρ S a w) {x : Operand} {b : Nat} {es : List (AV × AV)} (hx : oev tm x = .omap b) (hb : hget h b = some (.map es)) :
    ∃ r ents clock, ρ b = some r ∧ a.eval x = .map (some r.blk) ∧ w.heap[r.blk]? = some (.map ents clock) ∧ es.length = ents.toList.length ∧ ((∀ x ∈ ents.toList, x.born < clock) ∧ (ents.toList.map (·.born)).Nodup) ∧
      ∀ (i : Nat) (p : AV × AV) (e : MapEntry), es[i]? = some p → ents.toList[i]? = some e → VR S w ρ p.1 e.key ∧ VR S w ρ p.2 e.val := by
  have hv := ev_vr hr hx
  generalize he : a.eval x = v at hv
  cases hv with
  | @omap _ _ r q =>
    obtain ⟨_, _, ents, clock, g1, g2, g3, g4⟩ := blk_of hr hb q
    exact ⟨r, ents, clock, q, rfl, g1, by simpa using g2, g3, fun i p e hp he => g4 i p e hp (by simpa using he)⟩

/-- A map is written. -/
theorem Rep.setMap {c : Ctx} {n : Nat} {ρ : Rho} {S : Nat → Prop} {a : Act} {w : World} (hr : Rep c n ⟨tm, h, nx⟩ ρ S a w) {b : Nat} {B : Blk} {r : R} (hb : hget h b = some B) (hq : ρ b = some r) {o : Obj} (hcur : w.heap[r.blk]? = some o) (es : List (AV × AV)) (ents : Array MapEntry) (clock : Nat)
    (hl : es.length = ents.toList.length) (hst : (∀ x ∈ ents.toList, x.born < clock) ∧ (ents.toList.map (·.born)).Nodup) (hv : ∀ (i : Nat) (p : AV × AV) (e : MapEntry), es[i]? = some p → ents.toList[i]? = some e → VR S w ρ p.1 e.key ∧ VR S w ρ p.2 e.val) :
    Rep c n ⟨tm, hset h b (.map es), nx⟩ ρ S a { w with heap := w.heap.setIfInBounds r.blk (.map ents clock) } ∧ ∀ k, S k → S k ∧ ({ w with heap := w.heap.setIfInBounds r.blk (.map ents clock) } : World).heap[k]? = w.heap[k]? := by
  obtain ⟨g1, g2, _⟩ := blk_of hr hb hq
  have hoth : ∀ k, k ≠ r.blk → ({ w with heap := w.heap.setIfInBounds r.blk (.map ents clock) } : World).heap[k]? = w.heap[k]? := fun k hk => (MapKept.heap_set hcur).2 k hk
  have hS : ∀ k, S k → S k ∧ ({ w with heap := w.heap.setIfInBounds r.blk (.map ents clock) } : World).heap[k]? = w.heap[k]? := fun k hk => ⟨hk, hoth k (fun e => g1 (e ▸ hk))⟩
  have hsz : ({ w with heap := w.heap.setIfInBounds r.blk (.map ents clock) } : World).heap.size = w.heap.size := by simp
  refine ⟨hr.turn b r (.map es) ρ _ nx rfl rfl rfl (Nat.le_of_eq hsz.symm) (fun k _ hk => hoth k hk) (fun _ _ => rfl) (Nat.le_refl _) hq
    ⟨ents, clock, (MapKept.heap_set hcur).1, by simpa using hl, hst, fun i p e hp he => ?_⟩ (by rw [hsz]; exact g2) g1
    (hr.post.own b B r hb hq) (fun k X hk => ?_) (fun k X q hk hX hq' => ?_) hr.fresh (hr.dom b B hb), hS⟩
  · obtain ⟨v1, v2⟩ := hv i p e hp (by simpa using he)
    exact ⟨v1.mono hS (fun _ _ h => h), v2.mono hS (fun _ _ h => h)⟩
  · rw [hget_set] at hk
    by_cases e : b = k
    · rw [if_pos e] at hk; exact .inl ⟨e.symm, (Option.some.inj hk).symm⟩
    · rw [if_neg e] at hk; exact .inr ⟨fun e' => e e'.symm, hk⟩
  · rw [hget_set, if_neg (fun e => hk e.symm)] at hX
    exact hr.sim.inj k b X B q r hX hb hq' hq hk

theorem mapUpdate_run {c : Ctx} {n : Nat} {ρ : Rho} {S : Nat → Prop} {a : Act} {w : World} (hr : Rep c n ⟨tm, h, nx⟩ ρ S a w) {t kt et : TypeId} {d : TypeDesc} {m k x : Operand} {b : Nat} {es : List (AV × AV)} {kv v : AV} (hu : P.underlying t = some (.map kt et)) (hk : P.underlying kt = some d) (hm : oev tm m = .omap b) (hb : hget h b = some (.map es))
    (hky : oev tm k = kv) (hka : keyA d kv = true) (hks : es.all (fun p => keyA d p.1) = true) (hx : oev tm x = v) :
    ∃ w', (Instr.mapUpdate t (a.eval m) (a.eval k) (a.eval x)).run P w = .ok () w' ∧ Rep c n ⟨tm, hset h b (.map (putM es kv v)), nx⟩ ρ S a w' ∧ ∀ k, S k → S k ∧ w'.heap[k]? = w.heap[k]? := by
  obtain ⟨r, ents, clock, q, e1, e2, e3, e4, e5⟩ := map_of hr hm hb
  have hkv := ev_vr hr hky
  have hxv := ev_vr hr hx
  have hkey := key_is hka hkv
  rcases findA_now hka hkv es ents.toList 0 hks e3 e5 with ⟨f1, f2⟩ | ⟨j, p, e, f1, f2, f3, f4, f5, f6⟩
  · have hl' : (es ++ [(kv, v)]).length = (ents.push { key := a.eval k, val := a.eval x, born := clock }).toList.length := by simp [e3]
    have := hr.setMap hb q e2 (putM es kv v) (ents.push { key := a.eval k, val := a.eval x, born := clock }) (clock + 1) (by rw [putM, f1]; exact hl') ⟨fun y hy => ?_, ?_⟩ (fun i p' e' hp he => ?_)
    · exact ⟨_, by simp [Instr.mapUpdate, run_underlying hu, e1, MapKept.run_getObj_map e2, MapKept.run_checkKey hk hkey, MapKept.run_findKey hk f2, MapKept.run_setObj_map _ e2, Result.andThen], this.1, this.2⟩
    · simp only [Array.toList_push, List.mem_append, List.mem_singleton] at hy
      rcases hy with hy | rfl
      · exact Nat.lt_succ_of_lt (e4.1 y hy)
      · exact Nat.lt_succ_self _
    · simp only [Array.toList_push, List.map_append, List.map_cons, List.map_nil]
      refine List.nodup_append.2 ⟨e4.2, by simp, ?_⟩
      intro y hy z hz
      simp only [List.mem_singleton] at hz
      subst hz
      obtain ⟨u, hu', rfl⟩ := List.mem_map.1 hy
      exact Nat.ne_of_lt (e4.1 u hu')
    · rw [putM, f1] at hp
      simp only [] at hp
      rw [Array.toList_push] at he
      rcases Nat.lt_or_ge i es.length with hi | hi
      · rw [List.getElem?_append_left hi] at hp
        rw [List.getElem?_append_left (by omega)] at he
        exact e5 i p' e' hp he
      · have hi' : i = es.length := by
          have := (List.getElem?_eq_some_iff.1 hp).1
          simp at this; omega
        subst hi'
        rw [List.getElem?_append_right (Nat.le_refl _), Nat.sub_self] at hp
        rw [e3, List.getElem?_append_right (Nat.le_refl _), Nat.sub_self] at he
        simp only [List.getElem?_cons_zero, Option.some.injEq] at hp he
        subst hp he
        exact ⟨hkv, hxv⟩
  · rw [Nat.zero_add] at f1 f4
    have hj : ents[j]? = some e := by simpa using f3
    have hjl : j < es.length := (List.getElem?_eq_some_iff.1 f2).1
    have hget : ∀ i, (ents.modify j fun e => { e with key := a.eval k, val := a.eval x }).toList[i]? = if j = i then some { e with key := a.eval k, val := a.eval x } else ents.toList[i]? := by
      intro i
      rw [Array.getElem?_toList, Array.getElem?_modify]
      by_cases hji : j = i
      · subst hji; simp [hj]
      · simp [hji]
    have hborn : (ents.modify j fun e => { e with key := a.eval k, val := a.eval x }).toList.map (·.born) = ents.toList.map (·.born) := by
      apply List.ext_getElem?
      intro i
      rw [List.getElem?_map, List.getElem?_map, hget]
      by_cases hji : j = i
      · subst hji; simp [f3]
      · simp [hji]
    have := hr.setMap hb q e2 (putM es kv v) (ents.modify j fun e => { e with key := a.eval k, val := a.eval x }) clock (by rw [putM, f1]; simp only [List.length_set]; rw [e3]; simp) ⟨fun y hy => ?_, by rw [hborn]; exact e4.2⟩ (fun i p' e' hp he => ?_)
    · exact ⟨_, by simp [Instr.mapUpdate, run_underlying hu, e1, MapKept.run_getObj_map e2, MapKept.run_checkKey hk hkey, MapKept.run_findKey hk f4, hj, f5, MapKept.run_keyThatStays hkey, MapKept.run_setObj_map _ e2, Result.andThen], this.1, this.2⟩
    · obtain ⟨i, hi⟩ := List.getElem?_of_mem hy
      rw [hget] at hi
      split at hi
      · have := Option.some.inj hi; subst this; exact e4.1 e (List.mem_of_getElem? f3)
      · exact e4.1 y (List.mem_of_getElem? hi)
    · rw [putM, f1] at hp
      simp only [] at hp
      rw [hget] at he
      by_cases hji : j = i
      · subst hji
        rw [if_pos rfl] at he
        rw [List.getElem?_set_self hjl] at hp
        have := Option.some.inj hp; subst this
        have := Option.some.inj he; subst this
        exact ⟨hkv, hxv⟩
      · rw [if_neg hji] at he
        rw [List.getElem?_set_ne hji] at hp
        exact e5 i p' e' hp he

/-- m[k] = v. -/
theorem op_mapUpdate {t kt et : TypeId} {d : TypeDesc} {m k x : Operand} {b : Nat} {es : List (AV × AV)} {kv v : AV} (hu : P.underlying t = some (.map kt et)) (hk : P.underlying kt = some d) (hm : oev tm m = .omap b) (hb : hget h b = some (.map es))
    (hky : oev tm k = kv) (hka : keyA d kv = true) (hks : es.all (fun p => keyA d p.1) = true) (hx : oev tm x = v) : OpOK P (.mapUpdate t m k x) ⟨tm, h, nx⟩ .top (hset h b (.map (putM es kv v))) nx := OpOK.of fun c n ρ S a w hr => by
  obtain ⟨w', h1, h2, h3⟩ := mapUpdate_run hr hu hk hm hb hky hka hks hx
  exact ⟨.skip, undef, w', ρ, S, fun o ho => by unfold execOp; rw [ho]; simp [h1], .inr ⟨rfl, rfl⟩, h2, .top, fun _ _ h => h, h3⟩
theorem op_insert {t kt et : TypeId} {d : TypeDesc} {m k x : Operand} {b : Nat} {es : List (AV × AV)} {kv v : AV} (hu : P.underlying t = some (.map kt et)) (hk : P.underlying kt = some d) (hm : oev tm m = .omap b) (hb : hget h b = some (.map es))
    (hky : oev tm k = kv) (hka : keyA d kv = true) (hks : es.all (fun p => keyA d p.1) = true) (hx : oev tm x = v) : OpOK P (.insert t m k x) ⟨tm, h, nx⟩ .top (hset h b (.map (putM es kv v))) nx := OpOK.of fun c n ρ S a w hr => by
  obtain ⟨w', h1, h2, h3⟩ := mapUpdate_run hr hu hk hm hb hky hka hks hx
  exact ⟨.skip, undef, w', ρ, S, fun o ho => by unfold execOp; rw [ho]; simp [h1], .inr ⟨rfl, rfl⟩, h2, .top, fun _ _ h => h, h3⟩

/-- What a map holds at a key. -/
theorem op_lookup {t kt et : TypeId} {d : TypeDesc} {m k : Operand} {b : Nat} {es : List (AV × AV)} {kv zv : AV} {z : Value} {ok : Bool} (hu : P.underlying t = some (.map kt et)) (hk : P.underlying kt = some d) (hm : oev tm m = .omap b) (hb : hget h b = some (.map es))
    (hky : oev tm k = kv) (hka : keyA d kv = true) (hks : es.all (fun p => keyA d p.1) = true) (hz : (P.info? et).map (·.zero) = some (some z)) (hzv : ofConst z = zv) :
    OpP P (.lookup t m k ok) tm h (match findA kv es 0 with | some (_, v) => (if ok then .tup [v, .bool true] else v) | none => (if ok then .tup [zv, .bool false] else zv)) := fun c n nx ρ S a w hr => by
  obtain ⟨r, ents, clock, q, e1, e2, e3, e4, e5⟩ := map_of hr hm hb
  have hkv := ev_vr hr hky
  have hkey := key_is hka hkv
  have hzr : VR S w ρ zv z := hzv ▸ ofConst_VR S w ρ z
  obtain ⟨inf, z1, z2⟩ := Option.map_eq_some_iff.1 hz
  have two : ∀ {x : AV} {u : Value} (b : Bool), VR S w ρ x u → VR S w ρ (if ok then .tup [x, .bool b] else x) (if ok then .tuple #[u, .bool b] else u) := by
    intro x u b hv
    cases ok
    · exact hv
    · refine .tup #[u, .bool b] rfl (fun i y v hy hv' => ?_)
      rcases i with _ | _ | i
      · simp at hy hv'; subst hy hv'; exact hv
      · simp at hy hv'; subst hy hv'; exact .bool
      · simp at hy
  rcases findA_now hka hkv es ents.toList 0 hks e3 e5 with ⟨f1, f2⟩ | ⟨j, p, e, f1, f2, f3, f4, f5, f6⟩
  · rw [f1]
    refine ⟨_, fun o ho => ?_, two false hzr⟩
    unfold execOp; rw [ho]
    simp [Instr.lookup, run_underlying hu, e1, MapKept.run_getObj_map e2, MapKept.run_checkKey hk hkey, MapKept.run_findKey hk f2, zeroValue, typeInfo, z1, z2, Result.andThen]
  · rw [f1]
    refine ⟨_, fun o ho => ?_, two true f6⟩
    unfold execOp; rw [ho]
    simp [Instr.lookup, run_underlying hu, e1, MapKept.run_getObj_map e2, MapKept.run_checkKey hk hkey, MapKept.run_findKey hk f4, Result.andThen]

/-- len(m). -/
theorem op_lenM {t kt et : TypeId} {m : Operand} {b : Nat} {es : List (AV × AV)} (hu : P.underlying t = some (.map kt et)) (hm : oev tm m = .omap b) (hb : hget h b = some (.map es)) : OpP P (.call { callee := .builtin .len, args := #[m], argTypes := #[t] }) tm h (.int .i64 (es.length : Int)) := fun c n nx ρ S a w hr => by
  obtain ⟨r, ents, clock, q, e1, e2, e3, e4, e5⟩ := map_of hr hm hb
  refine ⟨.int .i64 (ents.size : Int), fun o ho => ?_, by rw [e3, Array.length_toList]; exact .int⟩
  unfold execOp; rw [ho]
  simp [resolve, invoke, builtin, e1, Builtin.len_, run_underlying hu, MapKept.run_getObj_map e2, goInt, Result.andThen]

/-- delete(m, k). -/
theorem op_mapDel {t tk kt et : TypeId} {d : TypeDesc} {m k : Operand} {b : Nat} {es : List (AV × AV)} {kv : AV} (hu : P.underlying t = some (.map kt et)) (hk : P.underlying kt = some d) (hm : oev tm m = .omap b) (hb : hget h b = some (.map es))
    (hky : oev tm k = kv) (hka : keyA d kv = true) (hks : es.all (fun p => keyA d p.1) = true) : OpOK P (.call { callee := .builtin .delete, args := #[m, k], argTypes := #[t, tk] }) ⟨tm, h, nx⟩ (.tup []) (hset h b (.map (delM es kv))) nx := OpOK.of fun c n ρ S a w hr => by
  obtain ⟨r, ents, clock, q, e1, e2, e3, e4, e5⟩ := map_of hr hm hb
  have hkv := ev_vr hr hky
  have hkey := key_is hka hkv
  have tupr : ∀ (w : World), VR S w ρ (.tup []) (.tuple #[]) := fun w => .tup #[] rfl fun i y v hy => by simp at hy
  rcases findA_now hka hkv es ents.toList 0 hks e3 e5 with ⟨f1, f2⟩ | ⟨j, p, e, f1, f2, f3, f4, f5, f6⟩
  · have := hr.setMap hb q e2 (delM es kv) ents clock (by rw [delM, f1]; exact e3) e4 (by rw [delM, f1]; exact e5)
    refine ⟨_, .tuple #[], _, ρ, S, fun o ho => ?_, .inl rfl, this.1, tupr _, fun _ _ h => h, this.2⟩
    unfold execOp; rw [ho]
    simp [resolve, invoke, builtin, Builtin.delete_, run_underlying hu, e1, MapKept.run_getObj_map e2, MapKept.run_checkKey hk hkey, MapKept.run_findKey hk f2, MapKept.run_setObj_map _ e2, Result.andThen]
  · rw [Nat.zero_add] at f1 f4
    have hjs : j < ents.size := by
      have := (List.getElem?_eq_some_iff.1 f3).1
      simpa using this
    have hsub : (ents.eraseIdxIfInBounds j).toList = ents.toList.eraseIdx j := by
      unfold Array.eraseIdxIfInBounds
      rw [dif_pos hjs]
      simp
    have := hr.setMap hb q e2 (delM es kv) (ents.eraseIdxIfInBounds j) clock (by rw [delM, f1, hsub]; simp only [List.length_eraseIdx, e3]) ⟨fun y hy => e4.1 y (by rw [hsub] at hy; exact (List.eraseIdx_sublist _ _).subset hy), by rw [hsub]; exact (e4.2).sublist ((List.eraseIdx_sublist _ _).map _)⟩ (fun i p' e' hp he => by
      rw [delM, f1] at hp
      rw [hsub] at he
      simp only [List.getElem?_eraseIdx] at hp he
      split at hp
      · rw [if_pos (by assumption)] at he; exact e5 _ _ _ hp he
      · rw [if_neg (by assumption)] at he; exact e5 _ _ _ hp he)
    refine ⟨_, .tuple #[], _, ρ, S, fun o ho => ?_, .inl rfl, this.1, tupr _, fun _ _ h => h, this.2⟩
    unfold execOp; rw [ho]
    simp [resolve, invoke, builtin, Builtin.delete_, run_underlying hu, e1, MapKept.run_getObj_map e2, MapKept.run_checkKey hk hkey, MapKept.run_findKey hk f4, MapKept.run_setObj_map _ e2, Result.andThen]

end
end Go.Proofs.Ytpggknkhldecaaa.Abs
end
