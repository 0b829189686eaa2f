/-
  Regions whose order is open, that of what turns the heap too: one walk serves every order. It holds of any program.
-/
import Derived.Test.YtloddmbbfkejcaaAbsS
namespace Go.Proofs.Ytloddmbbfkejcaa.Abs

structure IX where
  v : AV
  ef : Bool
  b0 : Nat
  b1 : Nat
  tm : List (Nat × AV)

/-- A stage: which of those that turn the heap have run, and what the heap is then. -/
structure SG where
  e : List Nat
  h : Heap
  x : Nat

section
variable {P : Program} {c : Ctx} {n : Nat} {op : Op} {tm : List (Nat × AV)} {H H' : Heap} {X X' : Nat} {v : AV} {ρ : Rho} {S : Nat → Prop} {a : Act} {w : World}

theorem Rep.raise (h : Rep c n ⟨tm, H, X⟩ ρ S a w) (hx : X ≤ X') : Rep c n ⟨tm, H, X'⟩ ρ S a w :=
  ⟨h.size, h.defers, h.tmps, h.sim, h.post, fun b hb => h.fresh b (Nat.le_trans hx hb), Nat.le_trans h.le hx, fun b B hb => Nat.lt_of_lt_of_le (h.dom b B hb) hx⟩

/-- What an operation does leaves the older names as they are. -/
theorem OpOK.strong (h : OpOK P op ⟨tm, H, X⟩ v H' X') (hr : Rep c n ⟨tm, H, X⟩ ρ S a w) (o : Oper) (ho : o.op = op) :
    Does P o a w fun u w' => ∃ ρ' S', Rep c n ⟨tm, H', X'⟩ ρ' S' a w' ∧ VR S' w' ρ' v u ∧ (∀ b, b < X → ρ' b = ρ b) ∧ ∀ b, S b → S' b ∧ w'.heap[b]? = w.heap[b]? := by
  have hr' : Rep ⟨w, Own ρ H, S, ρ, X⟩ n ⟨tm, H, X⟩ ρ S a w :=
    ⟨hr.size, hr.defers, hr.tmps, hr.sim, ⟨rfl, rfl, rfl, Nat.le_refl _, fun _ _ _ => rfl, fun _ h => h, fun _ h => .inl h, fun b B r h1 h2 => .inl ⟨b, B, r, h1, h2, rfl⟩, fun _ _ => rfl⟩, hr.fresh, Nat.le_refl _, hr.dom⟩
  refine (h _ n ρ S a w hr' o ho).mono fun u w' ⟨ρ', S', h1, h2, _, h4⟩ => ⟨ρ', S', ?_, h2, fun b hb => h1.post.ids b hb, h4⟩
  have hp := hr.post
  have hq := h1.post
  have hown : ∀ b, Own ρ H b → c.own0 b ∨ c.w0.heap.size ≤ b := by
    rintro b ⟨i, B, r, e1, e2, rfl⟩
    exact hp.own i B r e1 e2
  refine ⟨h1.size, h1.defers, h1.tmps, h1.sim, ⟨hq.os.trans hp.os, hq.tape.trans hp.tape, hq.output.trans hp.output, Nat.le_trans hp.size hq.size, fun b hb ho => ?_, fun b hb => hq.sIn b (hp.sIn b hb), fun b hb => ?_, fun b B r e1 e2 => ?_, fun b hb => ?_⟩, h1.fresh, Nat.le_trans hr.le h1.le, h1.dom⟩
  · refine (hq.keep b (Nat.lt_of_lt_of_le hb hp.size) (fun hO => ?_)).trans (hp.keep b hb ho)
    rcases hown b hO with h' | h'
    · exact ho h'
    · omega
  · rcases hq.sNew b hb with h' | h'
    · exact hp.sNew b h'
    · exact .inr (Nat.le_trans hp.size h')
  · rcases hq.own b B r e1 e2 with h' | h'
    · exact hown _ h'
    · exact .inr (Nat.le_trans hp.size h')
  · exact (hq.ids b (Nat.lt_of_lt_of_le hb hr.le)).trans (hp.ids b hb)

/-- New names turned down. -/
def dwn (X β b : Nat) : Nat := if X ≤ b then b - X + β else b

def HR (X β β1 : Nat) (H1 H2 : Heap) : Prop := ∀ b B, hget H2 b = some B → ∃ b1 B1, hget H1 b1 = some B1 ∧ dwn X β b1 = b ∧ B1.ren (dwn X β) = B ∧ (b1 < X → b1 < β ∨ β1 ≤ b1)

theorem Rep.down {H1 H2 : Heap} {X k β β1 : Nat} {ρ0 : Rho} {S0 : Nat → Prop} {w0 : World} (hr0 : Rep c n ⟨tm, H, X⟩ ρ0 S0 a w0) (hr : Rep c n ⟨tm, H1, X + k⟩ ρ S a w) (hid : ∀ b, b < X → ρ b = ρ0 b) (hgap : ∀ b, β ≤ b → b < β1 → ρ0 b = none)
    (hk : β + k ≤ β1) (hX : β1 ≤ X) (hS : ∀ b, S0 b → S b ∧ w.heap[b]? = w0.heap[b]?) (hβ : c.nx0 ≤ β) (hh : HR X β β1 H1 H2) {v : AV} {u : Value} (hv : VR S w ρ v u) :
    ∃ ρ', Rep c n ⟨tm, H2, X⟩ ρ' S a w ∧ VR S w ρ' (v.ren (dwn X β)) u ∧ (∀ b r, ρ0 b = some r → ρ' b = some r) ∧ ∀ b, b < X → (b < β ∨ β1 ≤ b) → ρ' b = ρ0 b := by
  let ρ' : Rho := fun b => if β ≤ b ∧ b < β1 then (if b < β + k then ρ (b - β + X) else none) else if b < X then ρ b else none
  have e1 : ∀ b, b < X → (b < β ∨ β1 ≤ b) → ρ' b = ρ b := fun b hb ho => by
    show (if β ≤ b ∧ b < β1 then _ else if b < X then ρ b else none) = ρ b
    rw [if_neg (by omega), if_pos hb]
  have e2 : ∀ b, X ≤ b → b < X + k → ρ' (b - X + β) = ρ b := fun b hb ho => by
    show (if β ≤ b - X + β ∧ b - X + β < β1 then (if b - X + β < β + k then ρ (b - X + β - β + X) else none) else _) = ρ b
    rw [if_pos (by omega), if_pos (by omega), show b - X + β - β + X = b from by omega]
  have hτ : ∀ b r, ρ b = some r → ρ' (dwn X β b) = some r := fun b r hb => by
    have hlt := hr.known hb
    have hlt : b < X + k := hlt
    unfold dwn
    split
    · rename_i h; rw [e2 b h hlt]; exact hb
    · rename_i h
      rw [e1 b (by omega)]
      · exact hb
      · refine Classical.byContradiction fun hc => ?_
        have := hgap b (by omega) (by omega)
        rw [← hid b (by omega), hb] at this
        cases this
  have hext : ∀ b r, ρ0 b = some r → ρ' b = some r := fun b r hb => by
    have hlt : b < X := hr0.known hb
    rw [e1 b hlt]
    · rw [hid b hlt]; exact hb
    · refine Classical.byContradiction fun hc => ?_
      have := hgap b (by omega) (by omega)
      rw [hb] at this
      cases this
  have hback : ∀ b1, (∃ B1, hget H1 b1 = some B1) → (b1 < X → b1 < β ∨ β1 ≤ b1) → ρ' (dwn X β b1) = ρ b1 := fun b1 ⟨B1, hB1⟩ ho => by
    have hlt : b1 < X + k := hr.dom b1 B1 hB1
    unfold dwn
    split
    · rename_i h; exact e2 b1 h hlt
    · rename_i h; exact e1 b1 (by omega) (ho (by omega))
  refine ⟨ρ', ⟨hr.size, hr.defers, fun i => (hr0.tmps i).mono hS hext, ⟨fun b B hb => ?_, fun b b' B B' r r' hb hb' hq hq' hne => ?_, hr.sim.lt⟩, ?_, fun b hb => ?_, hr0.le, fun b B hb => ?_⟩, hv.ren hτ, hext, fun b hb ho => (e1 b hb ho).trans (hid b hb)⟩
  · obtain ⟨b1, B1, h1, h2, h3, h4⟩ := hh b B hb
    subst h2 h3
    rcases hr.sim.blk b1 B1 h1 with ⟨r, q1, q2, q3, q4⟩ | ⟨q1, sz, rfl⟩
    · exact .inl ⟨r, hτ _ _ q1, q2.ren hτ, q3, q4⟩
    · exact .inr ⟨(hback b1 ⟨_, h1⟩ h4).trans q1, sz, rfl⟩
  · obtain ⟨b1, B1, h1, h2, h3, h4⟩ := hh b B hb
    obtain ⟨b2, B2, g1, g2, g3, g4⟩ := hh b' B' hb'
    have k1 := hback b1 ⟨_, h1⟩ h4
    have k2 := hback b2 ⟨_, g1⟩ g4
    rw [h2, hq] at k1
    rw [g2, hq'] at k2
    exact hr.sim.inj b1 b2 B1 B2 r r' h1 g1 k1.symm k2.symm (fun e => hne (by rw [← h2, ← g2, e]))
  · have hp := hr.post
    refine ⟨hp.os, hp.tape, hp.output, hp.size, hp.keep, hp.sIn, hp.sNew, fun b B r hb hq => ?_, fun b hb => ?_⟩
    · obtain ⟨b1, B1, h1, h2, h3, h4⟩ := hh b B hb
      have k1 := hback b1 ⟨_, h1⟩ h4
      rw [h2, hq] at k1
      exact hp.own b1 B1 r h1 k1.symm
    · rw [e1 b (by omega) (.inl (by omega))]
      exact hp.ids b hb
  · show (if β ≤ b ∧ b < β1 then (if b < β + k then ρ (b - β + X) else none) else if b < X then ρ b else none) = none
    have hb : X ≤ b := hb
    rw [if_neg (by omega), if_neg (by omega)]
  · obtain ⟨b1, B1, h1, h2, h3, h4⟩ := hh b B hb
    have hlt : b1 < X + k := hr.dom b1 B1 h1
    show b < X
    rw [← h2]
    unfold dwn
    split <;> omega
end

/-- What one that turns the heap does, out of a stage into one. -/
def EffX (P : Program) (op : Op) (tm : List (Nat × AV)) (g g' : SG) (it : IX) : Prop :=
  (g.x ≤ it.b0 ∧ g'.x = it.b1 ∧ OpOK P op ⟨tm, g.h, it.b0⟩ it.v g'.h g'.x) ∨
  (it.b1 ≤ g.x ∧ g'.x = g.x ∧ ∃ v1 H1 k, OpOK P op ⟨tm, g.h, g.x⟩ v1 H1 (g.x + k) ∧ it.b0 + k ≤ it.b1 ∧ v1.ren (dwn g.x it.b0) = it.v ∧ HR g.x it.b0 it.b1 H1 g'.h)

def entX : List Oper → List IX → List (Nat × AV) → Nat → AV
  | o :: l, it :: its, tm, x => if o.dst = some x then it.v else entX l its tm x
  | _, _, tm, x => tget tm x

/-- What is looked at without the values; dn, un: may it have run, may it not have run, at a stage. -/
structure PlanX (l : List Oper) (its : List IX) (sg : List SG) (m : Nat) (dn un : Nat → Nat → Bool) : Prop where
  len : l.length = its.length
  up : ∀ (i : Nat) (o : Oper), l[i]? = some o → ∀ p ∈ edges o, p < i
  dist : ∀ (i j : Nat) (o o' : Oper) (d : Nat), l[i]? = some o → l[j]? = some o' → o.dst = some d → o'.dst = some d → i = j
  dnE : ∀ (i s : Nat) (it : IX) (g : SG), its[i]? = some it → it.ef = true → sg[s]? = some g → (i ∈ g.e → dn i s = true) ∧ (i ∉ g.e → un i s = true)
  dnQ : ∀ (i s : Nat) (o : Oper) (it : IX), l[i]? = some o → its[i]? = some it → it.ef = false → s < sg.length → (∀ p ∈ edges o, dn p s = true) → dn i s = true
  unQ : ∀ (i s : Nat) (it : IX), its[i]? = some it → it.ef = false → s < sg.length → (∀ (j : Nat) (o : Oper), l[j]? = some o → i ∈ edges o → un j s = true) → un i s = true
  rng : ∀ (i j : Nat) (it jt : IX), its[i]? = some it → its[j]? = some jt → it.ef = true → jt.ef = true → i ≠ j → it.b1 ≤ jt.b0 ∨ jt.b1 ≤ it.b0
  fin : ∀ (s : Nat) (g : SG), sg[s]? = some g → (∀ (i : Nat) (it : IX), its[i]? = some it → it.ef = true → i ∈ g.e) → s = m
  guard : ∀ (i : Nat) (o : Oper) (j : Nat) (b : Bool), l[i]? = some o → o.guard = some (j, b) → j ∈ edges o ∧ ∃ o' d, l[j]? = some o' ∧ o'.dst = some d

/-- What an operation sees: what was made ahead of it, or what was there ahead of the region. -/
def SeesX (l : List Oper) (its : List IX) (tm0 : List (Nat × AV)) : Prop := ∀ (i : Nat) (o : Oper) (it : IX) (x : Nat), l[i]? = some o → its[i]? = some it → tget it.tm x = .top ∨
  (∃ p ∈ edges o, ∃ o' jt, l[p]? = some o' ∧ its[p]? = some jt ∧ o'.dst = some x ∧ tget it.tm x = jt.v) ∨ (tget it.tm x = tget tm0 x ∧ ∀ (j : Nat) (o' : Oper), l[j]? = some o' → o'.dst = some x → i ∈ edges o')

def RunX (P : Program) (op : Op) (i : Nat) (it : IX) (tm : List (Nat × AV)) (sg : List SG) (g : SG) : Prop :=
  if it.ef then ∃ (s' : Nat) (g' : SG), sg[s']? = some g' ∧ (∀ j, j ∈ g'.e ↔ j ∈ g.e ∨ j = i) ∧ EffX P op tm g g' it else OpQ P op tm g.h it.v

def ObX (P : Program) (l : List Oper) (its : List IX) (sg : List SG) (i s : Nat) : Prop :=
  ∀ o it g, l[i]? = some o → its[i]? = some it → sg[s]? = some g →
    match o.guard with
    | none => RunX P o.op i it it.tm sg g
    | some (j, b) => ∃ r, (∃ q, its[j]? = some q ∧ gv q.v = some r) ∧ (r = some b → RunX P o.op i it it.tm sg g) ∧ (r ≠ some b → it.v = .tup [] ∧ (it.ef = true → ∃ (s' : Nat) (g' : SG), sg[s']? = some g' ∧ (∀ j, j ∈ g'.e ↔ j ∈ g.e ∨ j = i) ∧ g'.h = g.h ∧ g.x ≤ g'.x))

structure DX (c : Ctx) (n : Nat) (l : List Oper) (its : List IX) (sg : List SG) (tm0 : List (Nat × AV)) (t : Array Bool) (a : Act) (w : World) (s : Nat) (g : SG) : Prop where
  size : t.size = l.length
  closed : ∀ (i : Nat) (o : Oper), l[i]? = some o → L t i → ∀ p ∈ edges o, L t p
  at_ : sg[s]? = some g
  st : ∀ (i : Nat) (it : IX), its[i]? = some it → it.ef = true → (L t i ↔ i ∈ g.e)
  rep : ∃ tm ρ S, Rep c n ⟨tm, g.h, g.x⟩ ρ S a w ∧ (∀ (i : Nat) (o : Oper) (it : IX) (x : Nat), l[i]? = some o → its[i]? = some it → o.dst = some x → L t i → tget tm x = it.v) ∧
    (∀ x, (∀ (i : Nat) (o : Oper), l[i]? = some o → o.dst = some x → ¬ L t i) → tget tm x = tget tm0 x) ∧
    ∀ (i : Nat) (it : IX), its[i]? = some it → it.ef = true → ¬ L t i → ∀ b, it.b0 ≤ b → b < it.b1 → ρ b = none

section
variable {P : Program} {c : Ctx} {n : Nat} {Q : Exit → St → Prop} {l : List Oper} {its : List IX} {sg : List SG} {m : Nat} {tm0 : List (Nat × AV)} {dn un : Nat → Nat → Bool}

theorem dn_ok (hp : PlanX l its sg m dn un) {t : Array Bool} {a : Act} {w : World} {s : Nat} {g : SG} (hd : DX c n l its sg tm0 t a w s g) : ∀ (i : Nat), i < l.length → L t i → dn i s = true := by
  intro i
  induction i using Nat.strongRecOn with
  | ind i ih =>
    intro hi hL
    obtain ⟨o, ho⟩ : ∃ o, l[i]? = some o := ⟨_, List.getElem?_eq_getElem hi⟩
    obtain ⟨it, hit⟩ : ∃ it, its[i]? = some it := ⟨_, List.getElem?_eq_getElem (by rw [← hp.len]; exact hi)⟩
    cases hef : it.ef with
    | true => exact (hp.dnE i s it g hit hef hd.at_).1 ((hd.st i it hit hef).1 hL)
    | false =>
      refine hp.dnQ i s o it ho hit hef (List.getElem?_eq_some_iff.1 hd.at_).1 fun p hpe => ?_
      have := hp.up i o ho p hpe
      exact ih p this (by omega) (hd.closed i o ho hL p hpe)

theorem un_ok (hp : PlanX l its sg m dn un) {t : Array Bool} {a : Act} {w : World} {s : Nat} {g : SG} (hd : DX c n l its sg tm0 t a w s g) : ∀ (k i : Nat), l.length - i ≤ k → i < l.length → ¬ L t i → un i s = true := by
  intro k
  induction k with
  | zero => intro i h1 h2; omega
  | succ k ih =>
    intro i hk hi hn
    obtain ⟨it, hit⟩ : ∃ it, its[i]? = some it := ⟨_, List.getElem?_eq_getElem (by rw [← hp.len]; exact hi)⟩
    cases hef : it.ef with
    | true => exact (hp.dnE i s it g hit hef hd.at_).2 (fun h => hn ((hd.st i it hit hef).2 h))
    | false =>
      refine hp.unQ i s it hit hef (List.getElem?_eq_some_iff.1 hd.at_).1 fun j o ho he => ?_
      have h1 := hp.up j o ho i he
      exact ih j (by omega) (List.getElem?_eq_some_iff.1 ho).1 (fun hl => hn (hd.closed j o ho hl i he))

theorem entX_spec : ∀ (l : List Oper) (its : List IX) (tm : List (Nat × AV)) (x : Nat), l.length = its.length → (∀ (i j : Nat) (o o' : Oper) (d : Nat), l[i]? = some o → l[j]? = some o' → o.dst = some d → o'.dst = some d → i = j) →
    (∀ (i : Nat) (o : Oper) (it : IX), l[i]? = some o → its[i]? = some it → o.dst = some x → entX l its tm x = it.v) ∧ ((∀ (i : Nat) (o : Oper), l[i]? = some o → o.dst ≠ some x) → entX l its tm x = tget tm x) := by
  intro l
  induction l with
  | nil => intro its tm x hl _; exact ⟨fun i o it h => by simp at h, fun _ => by cases its <;> rfl⟩
  | cons o l ih =>
    intro its tm x hl hd
    cases its with
    | nil => simp at hl
    | cons it its =>
      obtain ⟨h1, h2⟩ := ih its tm x (by simpa using hl) (fun i j o o' d a b e f => by have := hd (i + 1) (j + 1) o o' d a b e f; omega)
      simp only [entX]
      refine ⟨fun i o' it' ho hi hdst => ?_, fun hno => ?_⟩
      · cases i with
        | zero =>
          simp only [List.getElem?_cons_zero, Option.some.injEq] at ho hi
          subst ho; subst hi
          rw [if_pos hdst]
        | succ i =>
          have : ¬ o.dst = some x := fun e => by have := hd 0 (i + 1) o o' x rfl ho e hdst; omega
          rw [if_neg this]
          exact h1 i o' it' ho hi hdst
      · rw [if_neg (hno 0 o rfl)]
        exact h2 (fun i o' ho => hno (i + 1) o' ho)

/-- One step, whatever operation comes up. -/
theorem drawX_step (hp : PlanX l its sg m dn un) (hdn : ∀ o ∈ l, ∀ d, o.dst = some d → d < n) (hT : SeesX l its tm0) (hb0 : ∀ (i : Nat) (it : IX), its[i]? = some it → it.ef = true → c.nx0 ≤ it.b0 ∧ it.b0 ≤ it.b1)
    (hob : ∀ (i s : Nat) (o : Oper), l[i]? = some o → s < sg.length → (∀ p ∈ edges o, dn p s = true) → un i s = true → ObX P l its sg i s)
    {t : Array Bool} {a : Act} {w : World} {s : Nat} {g : SG} (hd : DX c n l its sg tm0 t a w s g) {i : Nat} {o : Oper} (ho : l[i]? = some o) (hn : ¬ L t i) (hall : ∀ p ∈ edges o, L t p)
    {K : Act → World → Prop} {Qe : Exit → Act → World → Prop} (hK : ∀ a' w' s' g', DX c n l its sg tm0 (t.setIfInBounds i true) a' w' s' g' → K a' w') : wpOp P l.toArray Qe i K a w := by
  have hil : i < l.length := (List.getElem?_eq_some_iff.1 ho).1
  obtain ⟨it, hit⟩ : ∃ it, its[i]? = some it := ⟨_, List.getElem?_eq_getElem (by rw [← hp.len]; exact hil)⟩
  have hsl : s < sg.length := (List.getElem?_eq_some_iff.1 hd.at_).1
  obtain ⟨tm, ρ, S, hrep, hE1, hE2, hgap⟩ := hd.rep
  have hO := hob i s o ho hsl (fun p hpe => dn_ok hp hd p (by have := hp.up i o ho p hpe; omega) (hall p hpe)) (un_ok hp hd (l.length - i) i (Nat.le_refl _) hil hn) o it g ho hit hd.at_
  -- what the operation looks at is there
  have hmnr : ∀ {X' : Nat}, g.x ≤ X' → Rep c n ⟨it.tm, g.h, X'⟩ ρ S a w := fun {X'} hX => by
    have hrep := hrep.raise hX
    refine ⟨hrep.size, hrep.defers, fun x => ?_, hrep.sim, hrep.post, hrep.fresh, hrep.le, hrep.dom⟩
    show VR S w ρ (tget it.tm x) _
    rcases hT i o it x ho hit with h | ⟨p, hpe, o', jt, ho', hjt, hd', h⟩ | ⟨h, hj⟩
    · rw [h]; exact .top
    · rw [h, ← hE1 p o' jt x ho' hjt hd' (hall p hpe)]
      exact hrep.tmps x
    · rw [h, ← hE2 x (fun j o' ho' hd' hL => hn (hd.closed j o' ho' hL i (hj j o' ho' hd')))]
      exact hrep.tmps x
  have hset : i < t.size := by rw [hd.size]; exact hil
  have hsub : ∀ j, L (t.setIfInBounds i true) j → i = j ∨ L t j := fun j hL => (L_set hset).1 hL
  -- how things stand behind it
  have next : ∀ (w' : World) (u : Value) (ρ' : Rho) (S' : Nat → Prop) (s' : Nat) (g' : SG), Rep c n ⟨tm, g'.h, g'.x⟩ ρ' S' a w' → VR S' w' ρ' it.v u → sg[s']? = some g' →
      (∀ (j : Nat) (jt : IX), its[j]? = some jt → jt.ef = true → (i = j ∨ L t j ↔ j ∈ g'.e)) → (∀ (j : Nat) (jt : IX), its[j]? = some jt → jt.ef = true → i ≠ j → ¬ L t j → ∀ b, jt.b0 ≤ b → b < jt.b1 → ρ' b = none) →
      DX c n l its sg tm0 (t.setIfInBounds i true) (a.put o.dst u) w' s' g' := by
    intro w' u ρ' S' s' g' hr' hv' hs' hst' hg'
    refine ⟨by simp [hd.size], fun j o' ho' hL p hpe => ?_, hs', fun j jt hj he => ?_, ?_⟩
    · rw [L_set hset] at hL ⊢
      rcases hL with rfl | hL
      · rw [ho] at ho'
        obtain rfl := Option.some.inj ho'
        exact .inr (hall p hpe)
      · exact .inr (hd.closed j o' ho' hL p hpe)
    · rw [L_set hset]; exact hst' j jt hj he
    · have hgap' : ∀ (j : Nat) (jt : IX), its[j]? = some jt → jt.ef = true → ¬ L (t.setIfInBounds i true) j → ∀ b, jt.b0 ≤ b → b < jt.b1 → ρ' b = none := fun j jt hj he hnL => by
        rw [L_set hset] at hnL
        exact hg' j jt hj he (fun e => hnL (.inl e)) (fun e => hnL (.inr e))
      cases hdst : o.dst with
      | none =>
        refine ⟨tm, ρ', S', hr', fun j o' jt x hj hjt hx hL => ?_, fun x hx => hE2 x (fun j o' hj hxd hL => hx j o' hj hxd ((L_set hset).2 (.inr hL))), hgap'⟩
        rcases (L_set hset).1 hL with rfl | hL
        · rw [ho] at hj; obtain rfl := Option.some.inj hj; rw [hdst] at hx; cases hx
        · exact hE1 j o' jt x hj hjt hx hL
      | some d =>
        refine ⟨(d, it.v) :: tm, ρ', S', hr'.put d (hdn o (List.mem_of_getElem? ho) d hdst) it.v u hv', fun j o' jt x hj hjt hx hL => ?_, fun x hx => ?_, hgap'⟩
        · by_cases e : d = x
          · subst e
            have : i = j := hp.dist i j o o' d ho hj hdst hx
            subst this
            rw [hit] at hjt
            obtain rfl := Option.some.inj hjt
            simp [tget]
          · simp only [tget, e, if_false]
            rcases (L_set hset).1 hL with rfl | hL
            · rw [ho] at hj; obtain rfl := Option.some.inj hj; rw [hdst] at hx; exact absurd (Option.some.inj hx) e
            · exact hE1 j o' jt x hj hjt hx hL
        · have e : d ≠ x := fun e => hx i o ho (by rw [hdst, e]) ((L_set hset).2 (.inl rfl))
          simp only [tget, e, if_false]
          exact hE2 x (fun j o' hj hxd hL => hx j o' hj hxd ((L_set hset).2 (.inr hL)))
  have hquiet : ∀ (j : Nat) (jt : IX), it.ef = false → its[j]? = some jt → jt.ef = true → (i = j ∨ L t j ↔ j ∈ g.e) := by
    intro j jt hef hj he
    rw [← hd.st j jt hj he]
    constructor
    · rintro (rfl | h)
      · rw [hit] at hj; obtain rfl := Option.some.inj hj; rw [hef] at he; cases he
      · exact h
    · exact .inr
  have hgapq : ∀ (j : Nat) (jt : IX), its[j]? = some jt → jt.ef = true → i ≠ j → ¬ L t j → ∀ b, jt.b0 ≤ b → b < jt.b1 → ρ b = none := fun j jt hj he _ hnL => hgap j jt hj he hnL
  have hrun : RunX P o.op i it it.tm sg g → o.wp P a w K Qe := by
    intro hR
    unfold RunX at hR
    cases hef : it.ef with
    | true =>
      rw [hef] at hR
      simp only [if_true] at hR
      obtain ⟨s', g', hg', hmem, hE⟩ := hR
      obtain ⟨hc0, hc1⟩ := hb0 i it hit hef
      have hst' : ∀ (j : Nat) (jt : IX), its[j]? = some jt → jt.ef = true → (i = j ∨ L t j ↔ j ∈ g'.e) := fun j jt hj he => by
        rw [hmem, ← hd.st j jt hj he]
        exact ⟨fun h => h.elim (fun e => .inr e.symm) .inl, fun h => h.elim .inr (fun e => .inl e.symm)⟩
      rcases hE with ⟨q1, q2, q3⟩ | ⟨q1, q2, v1, H1, k, q3, q4, q5, q6⟩
      · refine (q3.strong (hmnr q1) o rfl).wp fun u w' ⟨ρ', S', r3, r4, r5, r6⟩ => ?_
        have hext : ∀ b r, ρ b = some r → ρ' b = some r := fun b r hb => by
          have hlt : b < g.x := hrep.known hb
          rw [r5 b (by omega)]; exact hb
        have hr' : Rep c n ⟨tm, g'.h, g'.x⟩ ρ' S' a w' := ⟨r3.size, r3.defers, fun x => (hrep.tmps x).mono r6 hext, r3.sim, r3.post, r3.fresh, r3.le, r3.dom⟩
        refine hK _ _ _ _ (next w' u ρ' S' s' g' hr' r4 hg' hst' fun j jt hj he hij hnL b h0 h1 => ?_)
        rcases hp.rng i j it jt hit hj hef he hij with h | h
        · exact r3.fresh b (by show g'.x ≤ b; omega)
        · rw [r5 b (by omega)]
          exact hgap j jt hj he hnL b h0 h1
      · refine (q3.strong (hmnr (Nat.le_refl _)) o rfl).wp fun u w' ⟨ρ', S', r3, r4, r5, r6⟩ => ?_
        have hext : ∀ b r, ρ b = some r → ρ' b = some r := fun b r hb => by
          have hlt : b < g.x := hrep.known hb
          rw [r5 b (by omega)]; exact hb
        have hr1 : Rep c n ⟨tm, H1, g.x + k⟩ ρ' S' a w' := ⟨r3.size, r3.defers, fun x => (hrep.tmps x).mono r6 hext, r3.sim, r3.post, r3.fresh, r3.le, r3.dom⟩
        obtain ⟨ρ2, k1, k2, k3, k4⟩ := Rep.down hrep hr1 r5 (fun b h0 h1 => hgap i it hit hef hn b h0 h1) q4 q1 r6 hc0 q6 r4
        rw [q5] at k2
        refine hK _ _ _ _ (next w' u ρ2 S' s' g' (by rw [q2]; exact k1) k2 hg' hst' fun j jt hj he hij hnL b h0 h1 => ?_)
        rcases Nat.lt_or_ge b g.x with hb | hb
        · rw [k4 b hb (by rcases hp.rng i j it jt hit hj hef he hij with h | h <;> omega)]
          exact hgap j jt hj he hnL b h0 h1
        · exact k1.fresh b hb
    | false =>
      rw [hef] at hR
      simp only [Bool.false_eq_true, if_false] at hR
      refine ((hR g.x).strong (hmnr (Nat.le_refl _)) o rfl).wp fun u w' ⟨ρ', S', r3, r4, r5, r6⟩ => ?_
      have hext : ∀ b r, ρ b = some r → ρ' b = some r := fun b r hb => by
        have hlt : b < g.x := hrep.known hb
        rw [r5 b hlt]; exact hb
      have hr' : Rep c n ⟨tm, g.h, g.x⟩ ρ' S' a w' := ⟨r3.size, r3.defers, fun x => (hrep.tmps x).mono r6 hext, r3.sim, r3.post, r3.fresh, r3.le, r3.dom⟩
      refine hK _ _ _ _ (next w' u ρ' S' s g hr' r4 hd.at_ (fun j jt => hquiet j jt hef) fun j jt hj he hij hnL b h0 h1 => ?_)
      rcases Nat.lt_or_ge b g.x with hb | hb
      · rw [r5 b hb]; exact hgap j jt hj he hnL b h0 h1
      · exact r3.fresh b hb
  unfold wpOp
  rw [show l.toArray[i]? = some o from by rw [List.getElem?_toArray]; exact ho]
  simp only []
  cases hg : o.guard with
  | none =>
    rw [hg] at hO
    rw [if_pos (by simp [Region.wanted, hg])]
    exact .inl (hrun hO)
  | some jb =>
    obtain ⟨j, b⟩ := jb
    rw [hg] at hO
    simp only [] at hO
    obtain ⟨b', ⟨q, hq1, hq2⟩, h1, h2⟩ := hO
    obtain ⟨hje, o', d, ho', hd'⟩ := hp.guard i o j b ho hg
    have hval := hE1 j o' q d ho' hq1 hd' (hall j hje)
    have hy : yielded l.toArray a.tmps j = b' := yielded_gv hrep (d := d) (by rw [List.getElem?_toArray, ho']; exact hd') (hdn o' (List.mem_of_getElem? ho') d hd') (by rw [show (St.mk tm g.h g.x).tm = tm from rfl, hval]; exact hq2)
    by_cases e : b' = some b
    · rw [if_pos (by simp [Region.wanted, hg, hy, e])]
      exact .inl (hrun (h1 e))
    · rw [if_neg (by simp [Region.wanted, hg, hy, e])]
      obtain ⟨e1, e2⟩ := h2 e
      have hvu : VR S w ρ it.v undef := by rw [e1]; exact .tup #[] rfl (fun i x u hx _ => by simp at hx)
      cases hef : it.ef with
      | false => exact hK _ _ _ _ (next w undef ρ S s g hrep hvu hd.at_ (fun j jt => hquiet j jt hef) hgapq)
      | true =>
        obtain ⟨s', g', k1, k2, k3, k4⟩ := e2 hef
        exact hK _ _ _ _ (next w undef ρ S s' g' (by rw [k3]; exact hrep.raise k4) hvu k1 (fun j jt hj he => by
          rw [k2, ← hd.st j jt hj he]
          exact ⟨fun h => h.elim (fun e => .inr e.symm) .inl, fun h => h.elim .inr (fun e => .inl e.symm)⟩) hgapq)

theorem drawX_any (hp : PlanX l its sg m dn un) (hT : SeesX l its tm0) (hdn : ∀ o ∈ l, ∀ d, o.dst = some d → d < n) {E : List (Nat × AV)} (hE : ∀ x, tget E x = entX l its tm0 x) (hb0 : ∀ (i : Nat) (it : IX), its[i]? = some it → it.ef = true → c.nx0 ≤ it.b0 ∧ it.b0 ≤ it.b1)
    (hob : ∀ (i s : Nat) (o : Oper), l[i]? = some o → s < sg.length → (∀ p ∈ edges o, dn p s = true) → un i s = true → ObX P l its sg i s) {g1 : SG} (hH : sg[m]? = some g1) (hQ : Q .normal ⟨E, g1.h, g1.x⟩) :
    ∀ (fuel : Nat) (t : Array Bool) (a : Act) (w : World) (s : Nat) (g : SG), left l.length t ≤ fuel → DX c n l its sg tm0 t a w s g → wpAny P .any l.toArray (Lift c n Q) fuel t a w := by
  have fin : ∀ (t : Array Bool) (a : Act) (w : World) (s : Nat) (g : SG), DX c n l its sg tm0 t a w s g → Region.ready .any l.toArray t = [] → Lift c n Q .normal a w := by
    intro t a w s g hd hr
    have hall : ∀ i, i < l.length → L t i := by
      intro i
      induction i using Nat.strongRecOn with
      | ind i ih =>
        intro hi
        refine Classical.byContradiction fun hn => ?_
        have : i ∈ Region.ready .any l.toArray t := (ready_mem hd.size).2 ⟨hi, hn, _, List.getElem?_eq_getElem hi, fun p hpe => by
          have := hp.up i _ (List.getElem?_eq_getElem hi) p hpe
          exact ih p this (by omega)⟩
        rw [hr] at this
        cases this
    obtain ⟨tm, ρ, S, hrep, hE1, hE2, _⟩ := hd.rep
    have hs : s = m := hp.fin s g hd.at_ fun i it hit he => (hd.st i it hit he).1 (hall i (by rw [hp.len]; exact (List.getElem?_eq_some_iff.1 hit).1))
    have hat := hd.at_
    rw [hs, hH] at hat
    obtain rfl := Option.some.inj hat
    refine ⟨⟨E, g1.h, g1.x⟩, ρ, S, hQ, hrep.size, hrep.defers, fun x => ?_, hrep.sim, hrep.post, hrep.fresh, hrep.le, hrep.dom⟩
    show VR S w ρ (tget E x) _
    obtain ⟨e1, e2⟩ := entX_spec l its tm0 x hp.len hp.dist
    have : tget E x = tget tm x := by
      rw [hE]
      by_cases hx : ∃ (i : Nat) (o : Oper), l[i]? = some o ∧ o.dst = some x
      · obtain ⟨i, o, ho, hx⟩ := hx
        have hil : i < l.length := (List.getElem?_eq_some_iff.1 ho).1
        obtain ⟨it, hit⟩ : ∃ it, its[i]? = some it := ⟨_, List.getElem?_eq_getElem (by rw [← hp.len]; exact hil)⟩
        rw [e1 i o it ho hit hx, hE1 i o it x ho hit hx (hall i hil)]
      · rw [e2 (fun i o ho hx' => hx ⟨i, o, ho, hx'⟩), hE2 x (fun i o ho hx' => absurd ⟨i, o, ho, hx'⟩ hx)]
    rw [this]
    exact hrep.tmps x
  intro fuel
  induction fuel with
  | zero =>
    intro t a w s g hl hd
    have hr : Region.ready .any l.toArray t = [] := by
      refine List.eq_nil_iff_forall_not_mem.2 fun i hi => ?_
      obtain ⟨h1, h2, _⟩ := (ready_mem hd.size).1 hi
      have : left l.length t = 0 := by omega
      unfold left at this
      rw [List.countP_eq_zero] at this
      have := this i (List.mem_range.2 h1)
      unfold L at h2
      exact this (by revert h2; cases t.getD i false <;> simp)
    exact ⟨hr, fin t a w s g hd hr⟩
  | succ fuel ih =>
    intro t a w s g hl hd
    refine ⟨fin t a w s g hd, fun i hi => ?_⟩
    obtain ⟨h1, h2, o, ho, h3⟩ := (ready_mem hd.size).1 hi
    refine drawX_step hp hdn hT hb0 hob hd ho h2 h3 fun a' w' s' g' hd' => ih _ a' w' s' g' ?_ hd'
    have hts : i < t.size := by rw [hd.size]; exact h1
    have := countP_less (p := fun j => !(t.setIfInBounds i true).getD j false) (q := fun j => !t.getD j false) (l := List.range l.length) (fun x _ hx => ?_) (List.mem_range.2 h1) ?_ ?_
    · unfold left at hl ⊢; omega
    · by_cases e : i = x
      · subst e
        rw [show (t.setIfInBounds i true).getD i false = true from (L_set hts).2 (.inl rfl)] at hx
        cases hx
      · rw [getD_set_ne false e] at hx; exact hx
    · unfold L at h2; revert h2; cases t.getD i false <;> simp
    · show (!(t.setIfInBounds i true).getD i false) = false
      rw [show (t.setIfInBounds i true).getD i false = true from (L_set hts).2 (.inl rfl)]; rfl

/-- A region whose order is open. -/
theorem aw_drawX {id : Nat} {st0 : St} (hm : P.follows .mixedOrders = true) (hp : PlanX l its sg m dn un) (hT : SeesX l its st0.tm) (hdn : ∀ o ∈ l, ∀ d, o.dst = some d → d < n) {E : List (Nat × AV)} (hE : ∀ x, tget E x = entX l its st0.tm x)
    (hb0 : ∀ (i : Nat) (it : IX), its[i]? = some it → it.ef = true → st0.nx ≤ it.b0 ∧ it.b0 ≤ it.b1)
    (hob : ∀ (i s : Nat) (o : Oper), l[i]? = some o → s < sg.length → (∀ p ∈ edges o, dn p s = true) → un i s = true → ObX P l its sg i s) {g0 g1 : SG} (h0 : sg[0]? = some g0) (h0e : g0 = ⟨[], st0.h, st0.nx⟩) (hH : sg[m]? = some g1) (hQ : Q .normal ⟨E, g1.h, g1.x⟩) :
    AW P c n (.region id l.toArray true) Q st0 := by
  intro ρ S a w hr
  have hno : ∀ i, ¬ L (Array.replicate l.length false) i := fun i h => by
    unfold L at h
    rw [Array.getD_eq_getD_getElem?, Array.getElem?_replicate] at h
    split at h <;> simp at h
  have hinit : DX c n l its sg st0.tm (Array.replicate l.length false) a w.drew 0 g0 := by
    refine ⟨by simp, fun i o _ h => (hno i h).elim, h0, fun i it hit he => ⟨fun h => (hno i h).elim, fun h => by rw [h0e] at h; cases h⟩, ?_⟩
    have hr' := hr.same (Same.drew w)
    refine ⟨st0.tm, ρ, S, by rw [h0e]; exact hr', fun i o it x _ _ _ h => (hno i h).elim, fun _ _ => rfl, fun i it hit he _ b h1 h2 => hr.fresh b (by have := (hb0 i it hit he).1; omega)⟩
  refine wp_region_any hm ?_
  have key := drawX_any (Q := Q) (c := c) hp hT hdn hE (fun i it hit he => ⟨Nat.le_trans hr.le (hb0 i it hit he).1, (hb0 i it hit he).2⟩) hob hH hQ l.length _ a w.drew 0 g0 (by
      unfold left
      exact Nat.le_trans List.countP_le_length (by simp)) hinit
  simpa using key
end
end Go.Proofs.Ytloddmbbfkejcaa.Abs
