/-
  Loops, what may be forgotten, names turned, calls of functions. They hold of any program.
-/
import Derived.Test.YtloddmbbfkejcaaAbsB
namespace Go.Proofs.Ytloddmbbfkejcaa.Abs

mutual
/-- Names turned. What is read alone has none. -/
def AV.ren (σ : Nat → Nat) : AV → AV
  | .ptr b i o => .ptr (σ b) i o
  | .lp cs => .lp cs
  | .own b st len => .own (σ b) st len
  | .omap b => .omap (σ b)
  | .fn f xs ys => .fn f (rens σ xs) (rens σ ys)
  | .ifc t x => .ifc t (x.ren σ)
  | .agg xs => .agg (rens σ xs)
  | .tup xs => .tup (rens σ xs)
  | .top => .top
  | .bool b => .bool b
  | .int k n => .int k n
  | .str s => .str s
  | .nilp => .nilp
  | .nils => .nils
  | .sl sz xs => .sl sz xs
  | .nilm => .nilm
  | .nilf => .nilf
  | .nili => .nili
def rens (σ : Nat → Nat) : List AV → List AV
  | [] => []
  | x :: xs => x.ren σ :: rens σ xs
end

theorem rens_map (σ : Nat → Nat) : ∀ (xs : List AV), rens σ xs = xs.map (AV.ren σ)
  | [] => rfl
  | x :: xs => by rw [rens, rens_map σ xs]; rfl

def Blk.ren (σ : Nat → Nat) : Blk → Blk
  | .cells sz xs => .cells sz (xs.map (AV.ren σ))
  | .map es => .map (es.map fun p => (p.1.ren σ, p.2.ren σ))

theorem VR.ren {S : Nat → Prop} {w : World} {σ : Nat → Nat} {ρ : Rho} {x : AV} {v : Value} (h : VR S w ρ x v) :
    ∀ {ρ' : Rho}, (∀ b r, ρ b = some r → ρ' (σ b) = some r) → VR S w ρ' (x.ren σ) v := by
  induction h with
  | top => intro _ _; simp only [AV.ren, rens_map]; exact .top
  | bool => intro _ _; simp only [AV.ren, rens_map]; exact .bool
  | int => intro _ _; simp only [AV.ren, rens_map]; exact .int
  | str => intro _ _; simp only [AV.ren, rens_map]; exact .str
  | nilp => intro _ _; simp only [AV.ren, rens_map]; exact .nilp
  | ptr h => intro _ hp; simp only [AV.ren, rens_map]; exact .ptr (hp _ _ h)
  | lp vs h hl hcell hv ih => intro _ _; simp only [AV.ren, rens_map]; exact .lp vs h hl hcell hv
  | nils => intro _ _; simp only [AV.ren, rens_map]; exact .nils
  | sl0 => intro _ _; simp only [AV.ren, rens_map]; exact .sl0
  | sl vs h hl hsz hc hcell hv ih => intro _ _; simp only [AV.ren, rens_map]; exact .sl vs h hl hsz hc hcell hv
  | own h h1 h2 => intro _ hp; simp only [AV.ren, rens_map]; exact .own (hp _ _ h) h1 h2
  | own0 => intro _ _; simp only [AV.ren, rens_map]; exact .own0
  | nilm => intro _ _; simp only [AV.ren, rens_map]; exact .nilm
  | omap h => intro _ hp; simp only [AV.ren, rens_map]; exact .omap (hp _ _ h)
  | fn us vs h1 h2 h3 h4 ih1 ih2 =>
    intro _ hp
    simp only [AV.ren, rens_map]
    refine .fn us vs (by simpa using h1) (by simpa using h2) (fun i x u hx hu => ?_) (fun i x u hx hu => ?_)
    · rw [List.getElem?_map] at hx
      obtain ⟨y, hy, rfl⟩ := Option.map_eq_some_iff.1 hx
      exact ih1 i y u hy hu hp
    · rw [List.getElem?_map] at hx
      obtain ⟨y, hy, rfl⟩ := Option.map_eq_some_iff.1 hx
      exact ih2 i y u hy hu hp
  | nilf => intro _ _; simp only [AV.ren, rens_map]; exact .nilf
  | ifc h ih => intro _ hp; simp only [AV.ren, rens_map]; exact .ifc (ih hp)
  | nili => intro _ _; simp only [AV.ren, rens_map]; exact .nili
  | agg vs h1 h2 ih =>
    intro _ hp
    simp only [AV.ren, rens_map]
    refine .agg vs (by simpa using h1) (fun i x u hx hu => ?_)
    rw [List.getElem?_map] at hx
    obtain ⟨y, hy, rfl⟩ := Option.map_eq_some_iff.1 hx
    exact ih i y u hy hu hp
  | tup vs h1 h2 ih =>
    intro _ hp
    simp only [AV.ren, rens_map]
    refine .tup vs (by simpa using h1) (fun i x u hx hu => ?_)
    rw [List.getElem?_map] at hx
    obtain ⟨y, hy, rfl⟩ := Option.map_eq_some_iff.1 hx
    exact ih i y u hy hu hp

theorem VR.back {S : Nat → Prop} {w : World} {σ : Nat → Nat} {ρ : Rho} {y : AV} {v : Value} (h : VR S w ρ y v) :
    ∀ (x : AV), y = x.ren σ → VR S w (fun b => ρ (σ b)) x v := by
  induction h with
  | top => intro x e; cases x <;> simp only [AV.ren, rens_map] at e <;> first | exact .top | cases e
  | bool => intro x e; cases x <;> simp only [AV.ren, rens_map] at e <;> cases e; exact .bool
  | int => intro x e; cases x <;> simp only [AV.ren, rens_map] at e <;> cases e; exact .int
  | str => intro x e; cases x <;> simp only [AV.ren, rens_map] at e <;> cases e; exact .str
  | nilp => intro x e; cases x <;> simp only [AV.ren, rens_map] at e <;> first | exact .nilp | cases e
  | ptr h => intro x e; cases x <;> simp only [AV.ren, rens_map] at e <;> cases e; exact .ptr h
  | lp vs h hl hcell hv ih => intro x e; cases x <;> simp only [AV.ren, rens_map] at e <;> cases e; exact .lp vs h hl hcell hv
  | nils => intro x e; cases x <;> simp only [AV.ren, rens_map] at e <;> first | exact .nils | cases e
  | sl0 => intro x e; cases x <;> simp only [AV.ren, rens_map] at e <;> cases e; exact .sl0
  | sl vs h hl hsz hc hcell hv ih => intro x e; cases x <;> simp only [AV.ren, rens_map] at e <;> cases e; exact .sl vs h hl hsz hc hcell hv
  | own h h1 h2 => intro x e; cases x <;> simp only [AV.ren, rens_map] at e <;> cases e; exact .own h h1 h2
  | own0 => intro x e; cases x <;> simp only [AV.ren, rens_map] at e <;> cases e; exact .own0
  | nilm => intro x e; cases x <;> simp only [AV.ren, rens_map] at e <;> first | exact .nilm | cases e
  | omap h => intro x e; cases x <;> simp only [AV.ren, rens_map] at e <;> cases e; exact .omap h
  | fn us vs h1 h2 h3 h4 ih1 ih2 =>
    intro x e
    cases x <;> simp only [AV.ren, rens_map] at e <;> cases e
    refine .fn us vs (by simpa using h1) (by simpa using h2) (fun i x u hx hu => ?_) (fun i x u hx hu => ?_)
    · exact ih1 i _ u (by rw [List.getElem?_map, hx]; rfl) hu x rfl
    · exact ih2 i _ u (by rw [List.getElem?_map, hx]; rfl) hu x rfl
  | nilf => intro x e; cases x <;> simp only [AV.ren, rens_map] at e <;> first | exact .nilf | cases e
  | ifc h ih => intro x e; cases x <;> simp only [AV.ren, rens_map] at e <;> cases e; exact .ifc (ih _ rfl)
  | nili => intro x e; cases x <;> simp only [AV.ren, rens_map] at e <;> first | exact .nili | cases e
  | agg vs h1 h2 ih =>
    intro x e
    cases x <;> simp only [AV.ren, rens_map] at e <;> cases e
    exact .agg vs (by simpa using h1) (fun i x u hx hu => ih i _ u (by rw [List.getElem?_map, hx]; rfl) hu x rfl)
  | tup vs h1 h2 ih =>
    intro x e
    cases x <;> simp only [AV.ren, rens_map] at e <;> cases e
    exact .tup vs (by simpa using h1) (fun i x u hx hu => ih i _ u (by rw [List.getElem?_map, hx]; rfl) hu x rfl)

theorem AV.ren_cells (σ : Nat → Nat) (x : AV) : (x.ren σ).cells = x.cells.map (AV.ren σ) := by
  cases x <;> simp [AV.ren, AV.cells, rens_map]

theorem flat_ren (σ : Nat → Nat) (xs : List AV) : flat (xs.map (AV.ren σ)) = (flat xs).map (AV.ren σ) := by
  unfold flat
  induction xs with
  | nil => rfl
  | cons x xs ih => simp only [List.map_cons, List.flatMap_cons, ih, AV.ren_cells, List.map_append]

theorem BR.back {S : Nat → Prop} {w : World} {σ : Nat → Nat} {ρ : Rho} {r : R} {B : Blk} (h : BR S w ρ r (B.ren σ)) : BR S w (fun b => ρ (σ b)) r B := by
  cases B with
  | cells sz xs =>
    obtain ⟨h1, h2, h3, h4, cur, e, h5, h6, h7, h8⟩ := h
    refine ⟨h1, fun x hx => ?_, by simpa using h3, h4, cur, e, h5, h6, h7, fun i x u hx hu => ?_⟩
    · have := h2 (x.ren σ) (List.mem_map_of_mem hx)
      rw [AV.ren_cells, List.length_map] at this
      exact this
    · exact (h8 i _ u (by rw [flat_ren, List.getElem?_map, hx]; rfl) hu).back x rfl
  | map es =>
    obtain ⟨ents, clock, h1, h2, h3⟩ := h
    refine ⟨ents, clock, h1, by simpa using h2, fun i p e hp he => ?_⟩
    obtain ⟨a, b⟩ := h3 i _ e (by rw [List.getElem?_map, hp]; rfl) he
    exact ⟨a.back _ rfl, b.back _ rfl⟩

theorem BR.ren {S : Nat → Prop} {w : World} {σ : Nat → Nat} {ρ ρ' : Rho} (hp : ∀ b r, ρ b = some r → ρ' (σ b) = some r) {r : R} {B : Blk} (h : BR S w ρ r B) : BR S w ρ' r (B.ren σ) := by
  cases B with
  | cells sz xs =>
    obtain ⟨h1, h2, h3, h4, cur, e, h5, h6, h7, h8⟩ := h
    refine ⟨h1, fun x hx => ?_, by simpa using h3, h4, cur, e, h5, h6, h7, fun i x u hx hu => ?_⟩
    · obtain ⟨y, hy, rfl⟩ := List.mem_map.1 hx
      rw [AV.ren_cells, List.length_map]
      exact h2 y hy
    · rw [flat_ren, List.getElem?_map] at hx
      obtain ⟨y, hy, rfl⟩ := Option.map_eq_some_iff.1 hx
      exact (h8 i y u hy hu).ren hp
  | map es =>
    obtain ⟨ents, clock, h1, h2, h3⟩ := h
    refine ⟨ents, clock, h1, by simpa using h2, fun i p e hp' he => ?_⟩
    rw [List.getElem?_map] at hp'
    obtain ⟨y, hy, rfl⟩ := Option.map_eq_some_iff.1 hp'
    obtain ⟨a, b⟩ := h3 i y e hy he
    exact ⟨a.ren hp, b.ren hp⟩

/-- A state that says less. -/
def Le (c : Ctx) (n : Nat) (st st' : St) : Prop := ∀ ρ S a w, Rep c n st ρ S a w → ∃ ρ', Rep c n st' ρ' S a w

theorem Le.refl (c : Ctx) (n : Nat) (st : St) : Le c n st st := fun ρ _ _ _ h => ⟨ρ, h⟩

/-- Names turned: the old name of a new one. -/
def swp (l : List (Nat × Nat)) (nx' nx : Nat) (b : Nat) : Nat :=
  match l with
  | [] => if b < nx' then b else b + nx
  | (i, j) :: t => if b = i then j else swp t nx' nx b

theorem swp_ge (l : List (Nat × Nat)) (nx' nx b : Nat) (hl : l.all (fun p => p.1 < nx') = true) (hb : nx' ≤ b) : nx ≤ swp l nx' nx b := by
  induction l with
  | nil => simp only [swp]; rw [if_neg (by omega)]; omega
  | cons p t ih =>
    obtain ⟨i, j⟩ := p
    simp only [List.all_cons, Bool.and_eq_true, decide_eq_true_eq] at hl
    simp only [swp]
    rw [if_neg (by omega)]
    exact ih hl.2

theorem swp_id (l : List (Nat × Nat)) (nx' nx b m : Nat) (hl : l.all (fun p => m ≤ p.1) = true) (hm : m ≤ nx') (hb : b < m) : swp l nx' nx b = b := by
  induction l with
  | nil => simp only [swp]; rw [if_pos (by omega)]
  | cons p t ih =>
    obtain ⟨i, j⟩ := p
    simp only [List.all_cons, Bool.and_eq_true, decide_eq_true_eq] at hl
    simp only [swp]
    rw [if_neg (by omega)]
    exact ih hl.2

/-- What the new state says is what the old one says under the old names; what it does not say is forgotten. -/
theorem le_of {c : Ctx} {n : Nat} {st st' : St} (l : List (Nat × Nat)) (h1 : l.all (fun p => p.1 < st'.nx) = true) (h2 : l.all (fun p => c.nx0 ≤ p.1) = true) (h3 : c.nx0 ≤ st'.nx) (h4 : st'.h.all (fun p => p.1 < st'.nx) = true)
    (ht : ∀ p ∈ st'.tm, tget st'.tm p.1 = .top ∨ tget st.tm p.1 = (tget st'.tm p.1).ren (swp l st'.nx st.nx))
    (hh : ∀ p ∈ st'.h, hget st.h (swp l st'.nx st.nx p.1) = (hget st'.h p.1).map (Blk.ren (swp l st'.nx st.nx)))
    (hi : ((st'.h.map (fun p => p.1)).all fun b => (st'.h.map (fun p => p.1)).all fun b' => b == b' || swp l st'.nx st.nx b != swp l st'.nx st.nx b') = true) : Le c n st st' := by
  intro ρ S a w hr
  have mem_t : ∀ (tm : List (Nat × AV)) i, tget tm i = .top ∨ ∃ p ∈ tm, p.1 = i := by
    intro tm i
    induction tm with
    | nil => exact .inl rfl
    | cons q t ih =>
      obtain ⟨j, v⟩ := q
      by_cases e : j = i
      · exact .inr ⟨(j, v), List.mem_cons_self, e⟩
      · rcases ih with h | ⟨p, hp, he⟩
        · exact .inl (by simp only [tget, e, if_false]; exact h)
        · exact .inr ⟨p, List.mem_cons_of_mem _ hp, he⟩
  have mem_h : ∀ (h : Heap) i B, hget h i = some B → ∃ p ∈ h, p.1 = i := by
    intro h i B
    induction h with
    | nil => intro e; cases e
    | cons q t ih =>
      obtain ⟨j, v⟩ := q
      intro e
      by_cases ej : j = i
      · exact ⟨(j, v), List.mem_cons_self, ej⟩
      · simp only [hget, ej, if_false] at e
        obtain ⟨p, hp, he⟩ := ih e
        exact ⟨p, List.mem_cons_of_mem _ hp, he⟩
  have hget' : ∀ b B, hget st'.h b = some B → hget st.h (swp l st'.nx st.nx b) = some (B.ren (swp l st'.nx st.nx)) := by
    intro b B hb
    obtain ⟨p, hp, rfl⟩ := mem_h _ _ _ hb
    rw [hh p hp, hb]
    rfl
  refine ⟨fun b => ρ (swp l st'.nx st.nx b), hr.size, hr.defers, fun i => ?_, ⟨fun b B hb => ?_, fun b b' B B' r r' hb hb' hq hq' hne => ?_, hr.sim.lt⟩, ?_, fun b hb => hr.fresh _ (swp_ge l _ _ b h1 hb), h3, fun b B hb => ?_⟩
  · rcases mem_t st'.tm i with h | ⟨p, hp, rfl⟩
    · rw [h]; exact .top
    · rcases ht p hp with h | h
      · rw [h]; exact .top
      · have := hr.tmps p.1
        rw [h] at this
        exact this.back _ rfl
  · rcases hr.sim.blk _ _ (hget' b B hb) with ⟨r, h1, h2, h3, h4⟩ | ⟨h1, sz, h2⟩
    · exact .inl ⟨r, h1, h2.back, h3, h4⟩
    · refine .inr ⟨h1, sz, ?_⟩
      cases B with
      | cells sz' xs =>
        simp only [Blk.ren, Blk.cells.injEq, List.map_eq_nil_iff] at h2
        rw [h2.1, h2.2]
      | map es => cases h2
  · refine hr.sim.inj _ _ _ _ r r' (hget' b B hb) (hget' b' B' hb') hq hq' ?_
    obtain ⟨p, hp, rfl⟩ := mem_h _ _ _ hb
    obtain ⟨p', hp', rfl⟩ := mem_h _ _ _ hb'
    have := hi
    rw [List.all_eq_true] at this
    have := this p.1 (List.mem_map_of_mem hp)
    rw [List.all_eq_true] at this
    have := this p'.1 (List.mem_map_of_mem hp')
    simp only [Bool.or_eq_true, beq_iff_eq, bne_iff_ne] at this
    exact this.resolve_left hne
  · have hp := hr.post
    refine ⟨hp.os, hp.tape, hp.output, hp.size, hp.keep, hp.sIn, hp.sNew, fun b B r hb hq => hp.own _ _ r (hget' b B hb) hq, fun b hb => ?_⟩
    show ρ _ = _
    rw [swp_id l _ _ b c.nx0 h2 h3 hb]
    exact hp.ids b hb
  · obtain ⟨p, hp, rfl⟩ := mem_h _ _ _ hb
    have := List.all_eq_true.1 h4 p hp
    simpa using this

section
variable {P : Program} {c : Ctx} {n : Nat} {Q : Exit → St → Prop} {st : St}

theorem aw_le {code : Code} {st' : St} (h : Le c n st st') (k : AW P c n code Q st') : AW P c n code Q st := fun ρ S a w hr => by
  obtain ⟨ρ', hr'⟩ := h ρ S a w hr
  exact k ρ' S a w hr'

theorem al_le {ops : Array Oper} {rest : List Oper} {st' : St} (h : Le c n st st') (k : AL P c n ops Q rest st') : AL P c n ops Q rest st := fun ρ S a w hr => by
  obtain ⟨ρ', hr'⟩ := h ρ S a w hr
  exact k ρ' S a w hr'

/-- A loop. -/
theorem aw_loop {ι : Type} {code : Code} (I : ι → St) (μ : ι → Nat) (i0 : ι) (h0 : Le c n st (I i0)) (round : ∀ i, AW P c n code (thenA (fun st' => ∃ j, μ j < μ i ∧ Le c n st' (I j)) Q) (I i)) : AW P c n (.loop code) Q st := by
  intro ρ S a w hr b k cs
  have key : ∀ m i ρ S a w, μ i = m → Rep c n (I i) ρ S a w →
      ∃ e a' w', Lift c n Q e a' w' ∧ Arrives P (lone (b.at a (.code code :: .inLoop code :: k)) cs w) b k cs e a' w' := by
    intro m
    induction m using Nat.strongRecOn with
    | _ m ih =>
      intro i ρ S a w hm hI
      obtain ⟨e, a₁, w₁, ⟨st₁, ρ₁, S₁, hq, hr₁⟩, harr⟩ := round i ρ S a w hI b (.inLoop code :: k) cs
      cases e with
      | normal =>
        obtain ⟨j, hlt, hle⟩ := hq
        obtain ⟨ρ₂, hr₂⟩ := hle _ _ _ _ hr₁
        obtain ⟨e₂, a₂, w₂, hq₂, harr₂⟩ := ih (μ j) (hm ▸ hlt) j ρ₂ S₁ a₁ w₁ rfl hr₂
        exact ⟨e₂, a₂, w₂, hq₂, .of_steps (Steps.trans harr (.one step_inLoop)) harr₂⟩
      | exit id => exact ⟨_, a₁, w₁, ⟨st₁, ρ₁, S₁, hq, hr₁⟩, .pass (x := .inLoop code) rfl (fun _ _ => .inl (by simp)) harr⟩
      | goto l => exact ⟨_, a₁, w₁, ⟨st₁, ρ₁, S₁, hq, hr₁⟩, .pass (x := .inLoop code) rfl (fun _ _ => .inl (by simp)) harr⟩
      | ret => exact ⟨_, a₁, w₁, ⟨st₁, ρ₁, S₁, hq, hr₁⟩, .pass (x := .inLoop code) rfl (fun _ _ => .inl (by simp)) harr⟩
      | panic ch => exact ⟨_, a₁, w₁, ⟨st₁, ρ₁, S₁, hq, hr₁⟩, .pass (x := .inLoop code) rfl (fun _ _ => .inl (by simp)) harr⟩
      | outgrown => exact ⟨_, a₁, w₁, ⟨st₁, ρ₁, S₁, hq, hr₁⟩, .pass (x := .inLoop code) rfl (fun _ _ => .inl (by simp)) harr⟩
  obtain ⟨ρ', hr'⟩ := h0 ρ S a w hr
  obtain ⟨e, a', w', hq, harr⟩ := key _ i0 ρ' S a w rfl hr'
  exact ⟨e, a', w', hq, .of_steps (.one step_loop) harr⟩
end
end Go.Proofs.Ytloddmbbfkejcaa.Abs
