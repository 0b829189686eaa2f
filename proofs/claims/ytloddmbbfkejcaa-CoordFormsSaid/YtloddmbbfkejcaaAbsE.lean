/-
  A call inside a body. It holds of any program.
-/
import Derived.Test.YtloddmbbfkejcaaAbsD
namespace Go.Proofs.Ytloddmbbfkejcaa.Abs

/-- The state behind a call: what was handed over is as the callee left it, its new blocks have new names. -/
def after (tm : List (Nat × AV)) (h : Heap) (nx : Nat) (τ : Nat → Nat) (ps : List Nat) (h' : Heap) (nx' : Nat) : St :=
  ⟨tm, rest h ps ++ h'.map (fun p => (τ p.1, p.2.ren τ)), nx + nx'⟩

theorem swp_hi (l : List (Nat × Nat)) (k nx j : Nat) (hl : l.all (fun p => p.1 < k) = true) (hj : k ≤ j) : swp l k nx j = j + nx := by
  induction l with
  | nil => simp only [swp]; rw [if_neg (by omega)]
  | cons p t ih =>
    obtain ⟨i, g⟩ := p
    simp only [List.all_cons, Bool.and_eq_true, decide_eq_true_eq] at hl
    simp only [swp]
    rw [if_neg (by omega)]
    exact ih hl.2

theorem swp_lt (l : List (Nat × Nat)) (k nx j : Nat) (hl2 : l.all (fun p => p.2 < nx) = true) (hl3 : k ≤ nx) (hj : j < k) : swp l k nx j < nx := by
  induction l with
  | nil => simp only [swp]; rw [if_pos hj]; omega
  | cons p t ih =>
    obtain ⟨i, g⟩ := p
    simp only [List.all_cons, Bool.and_eq_true, decide_eq_true_eq] at hl2
    simp only [swp]
    by_cases e : j = i
    · rw [if_pos e]; exact hl2.1
    · rw [if_neg e]; exact ih hl2.2

theorem blk_of {c : Ctx} {n : Nat} {st : St} {ρ : Rho} {S : Nat → Prop} {a : Act} {w : World} (hr : Rep c n st ρ S a w) {b : Nat} {B : Blk} {r : R} (hb : hget st.h b = some B) (hq : ρ b = some r) : ¬ S r.blk ∧ r.blk < w.heap.size ∧ BR S w ρ r B := by
  rcases hr.sim.blk b B hb with ⟨q, h1, h2, h3, h4⟩ | ⟨h1, _⟩
  · obtain rfl := Option.some.inj (h1.symm.trans hq)
    exact ⟨h3, h4, h2⟩
  · rw [hq] at h1; cases h1

theorem call_rep {c : Ctx} {n : Nat} {tm : List (Nat × AV)} {h : Heap} {nx : Nat} {ρ : Rho} {S Sc : Nat → Prop} {a : Act} {w : World} (hr : Rep c n ⟨tm, h, nx⟩ ρ S a w) (l : List (Nat × Nat)) (k : Nat) (al : Bool) (hc : Heap) (ps : List Nat)
    (hl : l.all (fun p => p.1 < k) = true) (hl2 : l.all (fun p => p.2 < nx) = true) (hl3 : k ≤ nx)
    (hps : ∀ b B, hget hc b = some B → ps.contains (swp l k nx b) = true)
    (hown : ∀ b, Own (fun b => ρ (swp l k nx b)) hc b → ∃ g B r, ps.contains g = true ∧ hget h g = some B ∧ ρ g = some r ∧ r.blk = b)
    (hSc : ∀ b, Sc b → S b ∨ (al = false ∧ b < w.heap.size))
    {v : Value} {r : AV} {h' : Heap} {nx' : Nat} {ρ' : Rho} {S' : Nat → Prop} {w' : World} (hv : VR S' w' ρ' r v) (hsim : Sim ρ' h' S' w') (hf : ∀ b, nx' ≤ b → ρ' b = none) (hdom' : ∀ b B, hget h' b = some B → b < nx')
    (hp : CPost al (fun b => ρ (swp l k nx b)) hc k Sc w ρ' h' S' w') :
    ∃ ρ2 S2, Rep c n (after tm h nx (swp l k nx) ps h' nx') ρ2 S2 a w' ∧ VR S2 w' ρ2 (r.ren (swp l k nx)) v ∧ (∀ b r, ρ b = some r → ρ2 b = some r) ∧ ∀ b, S b → S2 b ∧ w'.heap[b]? = w.heap[b]? := by
  have hSo : ∀ b, S b → ¬ Own (fun b => ρ (swp l k nx b)) hc b := fun b hb ho => by
    obtain ⟨g, B, q, h1, h2, h3, rfl⟩ := hown b ho
    obtain ⟨e3, _⟩ := blk_of hr h2 h3
    exact e3 hb
  have hkeepS : ∀ b, S b → w'.heap[b]? = w.heap[b]? := fun b hb => hp.keep b (hr.sim.lt b hb) (hSo b hb)
  let ρ2 : Rho := fun b => if b < nx then ρ b else ρ' (b - nx)
  let S2 : Nat → Prop := fun b => S b ∨ S' b
  have hS2 : ∀ b, S b → S2 b ∧ w'.heap[b]? = w.heap[b]? := fun b hb => ⟨.inl hb, hkeepS b hb⟩
  have hS2' : ∀ b, S' b → S2 b ∧ w'.heap[b]? = w'.heap[b]? := fun b hb => ⟨.inr hb, rfl⟩
  have hold : ∀ b q, ρ b = some q → ρ2 b = some q := fun b q hb => by
    show (if b < nx then ρ b else ρ' (b - nx)) = some q
    rw [if_pos (hr.known hb)]
    exact hb
  have swp_k : ∀ j, k ≤ j → swp l k nx j = j + nx := fun j hj => swp_hi l k nx j hl hj
  have hfar : ∀ j, j < k → ¬ swp l k nx j < nx → ρ' (swp l k nx j - nx) = none := fun j hj hx => absurd (swp_lt l k nx j hl2 hl3 hj) hx
  have hnew : ∀ j q, ρ' j = some q → ρ2 (swp l k nx j) = some q := fun j q hj => by
    rcases Nat.lt_or_ge j k with hlt | hge
    · have := hp.ids j hlt
      rw [hj] at this
      exact hold _ _ this.symm
    · rw [swp_k j hge]
      show (if j + nx < nx then ρ (j + nx) else ρ' (j + nx - nx)) = some q
      rw [if_neg (by omega), Nat.add_sub_cancel]
      exact hj
  have hrev : ∀ j, ρ2 (swp l k nx j) = ρ' j := fun j => by
    rcases Nat.lt_or_ge j k with hlt | hge
    · have e := hp.ids j hlt
      rw [e]
      show (if swp l k nx j < nx then ρ (swp l k nx j) else ρ' (swp l k nx j - nx)) = ρ (swp l k nx j)
      by_cases hx : swp l k nx j < nx
      · rw [if_pos hx]
      · rw [if_neg hx]
        have hn := hr.fresh _ (Nat.le_of_not_lt hx)
        rw [hn]
        have hn' := hr.fresh (swp l k nx j) (Nat.le_of_not_lt hx)
        have e2 := hfar j hlt hx
        rw [e2]
    · rw [swp_k j hge]
      show (if j + nx < nx then ρ (j + nx) else ρ' (j + nx - nx)) = ρ' j
      rw [if_neg (by omega), Nat.add_sub_cancel]
  have hnew' : ∀ j q, ρ2 (swp l k nx j) = some q → ρ' j = some q := fun j q h => (hrev j).symm.trans h
  have hnone : ∀ j, ρ' j = none → ρ2 (swp l k nx j) = none := fun j h => (hrev j).trans h
  have hS'old : ∀ b, S' b → b < w.heap.size → S b ∨ al = false := fun b hb hlt => by
    rcases hp.s b hb with ⟨h1, h2⟩ | h2
    · rcases hSc b h2 with h3 | ⟨h3, _⟩
      · exact .inl h3
      · rw [h1] at h3; cases h3
    · omega
  have hS'al : ∀ b, S' b → b < w.heap.size → S b := fun b hb hlt => by
    rcases hp.s b hb with ⟨h1, h2⟩ | h2
    · rcases hSc b h2 with h3 | ⟨h3, _⟩
      · exact h3
      · rw [h1] at h3; cases h3
    · omega
  have hrest : ∀ b B, hget (rest h ps) b = some B → hget h b = some B ∧ ps.contains b = false := fun b B hb => by
    rw [hget_rest] at hb
    split at hb
    · cases hb
    · rename_i hn; exact ⟨hb, by simpa using hn⟩
  have hcase : ∀ b B, hget (rest h ps ++ h'.map (fun p => (swp l k nx p.1, p.2.ren (swp l k nx)))) b = some B →
      (hget h b = some B ∧ ps.contains b = false) ∨ ∃ j X, swp l k nx j = b ∧ hget h' j = some X ∧ B = X.ren (swp l k nx) := fun b B hb => by
    rw [hget_append] at hb
    cases h1 : hget (rest h ps) b with
    | some X =>
      rw [h1] at hb
      obtain rfl : X = B := Option.some.inj (by simpa using hb)
      exact .inl (hrest b X h1)
    | none =>
      rw [h1] at hb
      exact .inr (hget_map_ren h' _ b B (by simpa using hb))
  have hnotown : ∀ b B q, hget h b = some B → ps.contains b = false → ρ b = some q → ¬ Own (fun b => ρ (swp l k nx b)) hc q.blk := fun b B q h1 h2 h3 ho => by
    obtain ⟨g, B', q', e1, e2, e3, e4⟩ := hown _ ho
    have hne : b ≠ g := fun e => by rw [e, e1] at h2; cases h2
    exact hr.sim.inj b g B B' q q' h1 e2 h3 e3 hne e4.symm
  have hpl : ∀ j X q, hget h' j = some X → ρ' j = some q → (∃ g B r, ps.contains g = true ∧ hget h g = some B ∧ ρ g = some r ∧ r.blk = q.blk) ∨ w.heap.size ≤ q.blk := fun j X q h1 h2 =>
    (hp.own q.blk ⟨j, X, q, h1, h2, rfl⟩).imp (hown _) id
  refine ⟨ρ2, S2, ⟨hr.size, hr.defers, fun i => (hr.tmps i).mono hS2 hold, ⟨fun b B hb => ?_, fun b b' B B' q q' hb hb' hq hq' hne => ?_, fun b hb => ?_⟩, ?_, fun b hb => ?_, ?_, fun b B hb => ?_⟩, ((hv.ren hnew).mono hS2' (fun _ _ h => h)), hold, hS2⟩
  · rcases hcase b B hb with ⟨h1, h2⟩ | ⟨j, X, rfl, h1, rfl⟩
    · rcases hr.sim.blk b B h1 with ⟨q, e1, e2, e3, e4⟩ | ⟨e1, e2⟩
      · refine .inl ⟨q, hold _ _ e1, e2.mono hS2 hold (hp.keep _ e4 (hnotown b B q h1 h2 e1)), ?_, Nat.lt_of_lt_of_le e4 hp.size⟩
        rintro (h | h)
        · exact e3 h
        · exact e3 (hS'al _ h e4)
      · refine .inr ⟨?_, e2⟩
        show (if b < nx then ρ b else ρ' (b - nx)) = none
        rw [if_pos (hr.dom b B h1)]
        exact e1
    · rcases hsim.blk j X h1 with ⟨q, e1, e2, e3, e4⟩ | ⟨e1, sz, rfl⟩
      case inr => exact .inr ⟨hnone j e1, sz, rfl⟩
      refine .inl ⟨q, hnew _ _ e1, (e2.ren hnew).mono hS2' (fun _ _ h => h) rfl, ?_, e4⟩
      rintro (h | h)
      · rcases hpl j X q h1 e1 with ⟨g, B', q', f1, f2, f3, f4⟩ | hge
        · obtain ⟨g3, _⟩ := blk_of hr f2 f3
          rw [← f4] at h
          exact g3 h
        · have := hr.sim.lt _ h; omega
      · exact e3 h
  · have old_new : ∀ b B q j X qj, hget h b = some B → ps.contains b = false → ρ b = some q → hget h' j = some X → ρ' j = some qj → q.blk ≠ qj.blk := fun b B q j X qj h1 h2 h3 h4 h5 => by
      rcases hpl j X qj h4 h5 with ⟨g, B', q', f1, f2, f3, f4⟩ | hge
      · have hne : b ≠ g := fun e => by rw [e, f1] at h2; cases h2
        rw [← f4]
        exact hr.sim.inj b g B B' q q' h1 f2 h3 f3 hne
      · obtain ⟨_, g4, _⟩ := blk_of hr h1 h3
        omega
    rcases hcase b B hb with ⟨h1, h2⟩ | ⟨j, X, rfl, h1, rfl⟩
    · have e1 : ρ b = some q := by have hq := hq; simp only [ρ2] at hq; rw [if_pos (hr.dom b B h1)] at hq; exact hq
      rcases hcase b' B' hb' with ⟨h1', h2'⟩ | ⟨j', X', rfl, h1', rfl⟩
      · have e1' : ρ b' = some q' := by have hq' := hq'; simp only [ρ2] at hq'; rw [if_pos (hr.dom b' B' h1')] at hq'; exact hq'
        exact hr.sim.inj b b' B B' _ _ h1 h1' e1 e1' hne
      · have e1' : ρ' j' = some q' := hnew' j' q' hq'
        exact old_new b B _ j' X' _ h1 h2 e1 h1' e1'
    · have e1 : ρ' j = some q := hnew' j q hq
      rcases hcase b' B' hb' with ⟨h1', h2'⟩ | ⟨j', X', rfl, h1', rfl⟩
      · have e1' : ρ b' = some q' := by have hq' := hq'; simp only [ρ2] at hq'; rw [if_pos (hr.dom b' B' h1')] at hq'; exact hq'
        exact fun e => old_new b' B' _ j X _ h1' h2' e1' h1 e1 e.symm
      · have e1' : ρ' j' = some q' := hnew' j' q' hq'
        exact hsim.inj j j' X X' _ _ h1 h1' e1 e1' (fun e => hne (by rw [e]))
  · rcases hb with h | h
    · exact Nat.lt_of_lt_of_le (hr.sim.lt b h) hp.size
    · exact hsim.lt b h
  · have hq := hr.post
    refine ⟨hp.os.trans hq.os, hp.tape.trans hq.tape, hp.output.trans hq.output, Nat.le_trans hq.size hp.size, fun b hb ho => ?_, fun b hb => .inl (hq.sIn b hb), fun b hb => ?_, fun b B q hb hqb => ?_, fun b hb => ?_⟩
    · refine (hp.keep b (Nat.lt_of_lt_of_le hb hq.size) (fun hO => ?_)).trans (hq.keep b hb ho)
      obtain ⟨g, B, q, e1, e2, e3, rfl⟩ := hown b hO
      rcases hq.own g B q e2 e3 with h1 | h1
      · exact ho h1
      · omega
    · rcases hb with h | h
      · exact hq.sNew b h
      · rcases Nat.lt_or_ge b w.heap.size with hlt | hge
        · exact hq.sNew b (hS'al b h hlt)
        · exact .inr (Nat.le_trans hq.size hge)
    · rcases hcase b B hb with ⟨h1, h2⟩ | ⟨j, X, rfl, h1, rfl⟩
      · have e1 : ρ b = some q := by have hqb := hqb; simp only [ρ2] at hqb; rw [if_pos (hr.dom b B h1)] at hqb; exact hqb
        exact hq.own b B _ h1 e1
      · have e1 : ρ' j = some q := hnew' j q hqb
        rcases hpl j X _ h1 e1 with ⟨g, B', q', f1, f2, f3, f4⟩ | hge
        · rw [← f4]; exact hq.own g B' q' f2 f3
        · exact .inr (Nat.le_trans hq.size hge)
    · show (if b < nx then ρ b else ρ' (b - nx)) = c.r0 b
      have hle : c.nx0 ≤ nx := hr.le
      rw [if_pos (Nat.lt_of_lt_of_le hb hle)]
      exact hq.ids b hb
  · show (if b < nx then ρ b else ρ' (b - nx)) = none
    have : nx + nx' ≤ b := hb
    rw [if_neg (by omega)]
    exact hf _ (by omega)
  · have hle : c.nx0 ≤ nx := hr.le
    exact Nat.le_trans hle (Nat.le_add_right _ _)
  · show b < nx + nx'
    rcases hcase b B hb with ⟨h1, h2⟩ | ⟨j, X, rfl, h1, rfl⟩
    · exact Nat.lt_of_lt_of_le (hr.dom b B h1) (Nat.le_add_right _ _)
    · have hj := hdom' j X h1
      rcases Nat.lt_or_ge j k with hlt | hge
      · have := swp_lt l k nx j hl2 hl3 hlt; omega
      · rw [swp_k j hge]; omega

/-- The callee's part of the caller's state. -/
theorem call_sim {c : Ctx} {n : Nat} {tm : List (Nat × AV)} {h : Heap} {nx : Nat} {ρ : Rho} {S : Nat → Prop} {a : Act} {w : World} (hr : Rep c n ⟨tm, h, nx⟩ ρ S a w) (l : List (Nat × Nat)) (k : Nat) (al : Bool) (hc : Heap) (ps : List Nat)
    (hl : l.all (fun p => p.1 < k) = true)
    (hh : ∀ p ∈ hc, hget h (swp l k nx p.1) = (hget hc p.1).map (Blk.ren (swp l k nx)) ∧ ps.contains (swp l k nx p.1) = true)
    (hi : ((hc.map (fun p => p.1)).all fun b => (hc.map (fun p => p.1)).all fun b' => b == b' || swp l k nx b != swp l k nx b') = true) :
    Sim (fun b => ρ (swp l k nx b)) hc (fun b => S b ∨ (al = false ∧ Own ρ (rest h ps) b)) w ∧ (∀ b, k ≤ b → ρ (swp l k nx b) = none) ∧
    (∀ b B, hget hc b = some B → ps.contains (swp l k nx b) = true) ∧
    (∀ b, Own (fun b => ρ (swp l k nx b)) hc b → ∃ g B r, ps.contains g = true ∧ hget h g = some B ∧ ρ g = some r ∧ r.blk = b) := by
  have mem_h : ∀ (h : Heap) i B, hget h i = some B → ∃ p ∈ h, p.1 = i := by
    intro h i B
    induction h with
    | nil => intro e; cases e
    | cons q t ih =>
      obtain ⟨j, v⟩ := q
      intro e
      by_cases ej : j = i
      · exact ⟨(j, v), List.mem_cons_self, ej⟩
      · simp only [hget, ej, if_false] at e
        obtain ⟨p, hp, he⟩ := ih e
        exact ⟨p, List.mem_cons_of_mem _ hp, he⟩
  have hget' : ∀ b B, hget hc b = some B → hget h (swp l k nx b) = some (B.ren (swp l k nx)) ∧ ps.contains (swp l k nx b) = true := by
    intro b B hb
    obtain ⟨p, hp, rfl⟩ := mem_h _ _ _ hb
    have := hh p hp
    rw [hb] at this
    exact this
  refine ⟨⟨fun b B hb => ?_, fun b b' B B' r r' hb hb' hq hq' hne => ?_, fun b hb => ?_⟩, fun b hb => hr.fresh _ (swp_ge l _ _ b hl hb), fun b B hb => (hget' b B hb).2, ?_⟩
  · rcases hr.sim.blk _ _ (hget' b B hb).1 with ⟨r, h1, h2, h3, h4⟩ | ⟨h1, sz, h2⟩
    case inr =>
      refine .inr ⟨h1, sz, ?_⟩
      cases B with
      | cells sz' xs =>
        simp only [Blk.ren, Blk.cells.injEq, List.map_eq_nil_iff] at h2
        rw [h2.1, h2.2]
      | map es => cases h2
    refine .inl ⟨r, h1, (h2.back).mono (fun b hb => ⟨.inl hb, rfl⟩) (fun _ _ h => h) rfl, ?_, h4⟩
    rintro (h5 | ⟨_, i, X, q, e1, e2, e3⟩)
    · exact h3 h5
    · rw [hget_rest] at e1
      split at e1
      · cases e1
      · rename_i hn
        refine hr.sim.inj i (swp l k nx b) X _ q r e1 (hget' b B hb).1 e2 h1 (fun e => ?_) e3
        rw [e, (hget' b B hb).2] at hn
        exact hn rfl
  · refine hr.sim.inj _ _ _ _ r r' (hget' b B hb).1 (hget' b' B' hb').1 hq hq' ?_
    obtain ⟨p, hp, rfl⟩ := mem_h _ _ _ hb
    obtain ⟨p', hp', rfl⟩ := mem_h _ _ _ hb'
    have := hi
    rw [List.all_eq_true] at this
    have := this p.1 (List.mem_map_of_mem hp)
    rw [List.all_eq_true] at this
    have := this p'.1 (List.mem_map_of_mem hp')
    simp only [Bool.or_eq_true, beq_iff_eq, bne_iff_ne] at this
    exact this.resolve_left hne
  · rcases hb with h1 | ⟨_, i, X, q, e1, e2, e3⟩
    · exact hr.sim.lt b h1
    · rw [hget_rest] at e1
      split at e1
      · cases e1
      · obtain ⟨_, f4, _⟩ := blk_of hr e1 e2
        rw [← e3]
        exact f4
  · rintro b ⟨i, B, r, h1, h2, h3⟩
    exact ⟨_, _, r, (hget' i B h1).2, (hget' i B h1).1, h2, h3⟩

theorem Lend.vr {c : Ctx} {n : Nat} {tm : List (Nat × AV)} {h : Heap} {nx : Nat} {ρ : Rho} {S : Nat → Prop} {a : Act} {w : World} (hr : Rep c n ⟨tm, h, nx⟩ ρ S a w) {al : Bool} {τ : Nat → Nat} {ps : List Nat} {x y : AV}
    (hl : Lend al h τ ps x y) : ∀ {v : Value}, VR S w ρ x v → VR (fun b => S b ∨ (al = false ∧ Own ρ (rest h ps) b)) w (fun b => ρ (τ b)) y v := by
  induction hl with
  | same hp => intro v hv; exact (hv.back _ hp).mono (fun b hb => ⟨.inl hb, rfl⟩) (fun _ _ h => h)
  | own hal hn hb hlen hpl =>
    intro v hv
    rcases hr.sim.blk _ _ hb with ⟨r, h1, h2, h3, h4⟩ | ⟨h1, sz', h2⟩
    case inr =>
      simp only [Blk.cells.injEq] at h2
      obtain ⟨rfl, rfl⟩ := h2
      simp only [List.length_nil, Nat.le_zero, Nat.add_eq_zero_iff] at hlen
      obtain ⟨rfl, rfl⟩ := hlen
      cases hv with
      | own q _ _ => rw [h1] at q; cases q
      | own0 => exact .sl0
    have hb' := hb
    rw [← show hget (rest h ps) _ = hget h _ from by rw [hget_rest, if_neg (by rw [hn]; exact Bool.false_ne_true)]] at hb'
    exact hv.lent h1 h2 hlen hpl (fun b hb => .inl hb) (.inr ⟨hal, _, _, r, hb', h1, rfl⟩) _
  | @agg as ls hl _ ih =>
    intro v hv
    cases hv with
    | agg vs h1 h2 => exact .agg vs (hl.symm.trans h1) (fun i y u hy hu => by
        have hi : i < ls.length := (List.getElem?_eq_some_iff.1 hy).1
        obtain ⟨x, hx⟩ : ∃ x, as[i]? = some x := ⟨_, List.getElem?_eq_getElem (by omega)⟩
        exact ih i x y hx hy (h2 i x u hx hu))

/-- A function value that is called. -/
theorem al_call {P : Program} {c : Ctx} {n : Nat} {Qe : Exit → St → Prop} {tm : List (Nat × AV)} {h : Heap} {nx : Nat} {ops : Array Oper} {o : Oper} {rst : List Oper} {fo : Operand} {xs : Array Operand} {ts : Array TypeId}
    (f : FuncId) (first caps : List AV) (l : List (Nat × Nat)) (k : Nat) (al : Bool) (hc : Heap) (ps : List Nat) (args largs : List AV) (Q : AV → Heap → Nat → Prop)
    (hg : o.guard = none) (hd : ∀ j, o.dst = some j → j < n) (ho : o.op = .call { callee := .value fo, args := xs, argTypes := ts })
    (hfo : oev tm fo = .fn (.func f) first caps) (hargs : args = first ++ (xs.toList.map (oev tm) ++ caps))
    (hcall : ∀ (vs : Array Value) (w : World), (callFunc f vs).run P w = .ok (.enter f vs) w)
    (hl : l.all (fun p => p.1 < k) = true) (hl2 : l.all (fun p => p.2 < nx) = true) (hl3 : k ≤ nx)
    (hh : ∀ p ∈ hc, hget h (swp l k nx p.1) = (hget hc p.1).map (Blk.ren (swp l k nx)) ∧ ps.contains (swp l k nx p.1) = true)
    (hi : ((hc.map (fun p => p.1)).all fun b => (hc.map (fun p => p.1)).all fun b' => b == b' || swp l k nx b != swp l k nx b') = true)
    (hlend : Lends al h (swp l k nx) ps args largs)
    (hac : AC P f largs hc k al Q)
    (hk : ∀ r h' nx', Q r h' nx' → AL P c n ops Qe rst (putA o.dst (r.ren (swp l k nx)) (after tm h nx (swp l k nx) ps h' nx'))) : AL P c n ops Qe (o :: rst) ⟨tm, h, nx⟩ := by
  intro ρ S a w hr
  unfold wpList
  rw [if_pos (by simp [Region.wanted, hg])]
  refine .inl ?_
  have hf := hr.oev fo
  rw [hfo] at hf
  generalize hfv : a.eval fo = fv at hf
  cases hf with
  | fn us vs h1 h2 h3 h4 =>
  have hrun : (execOp a.eval o).run P w = .ok (.enter f (us ++ xs.map a.eval ++ vs)) w := by
    unfold execOp
    rw [ho]
    simp only [resolve, hfv, Deferred.ofValue, Sem.run_bind, Sem.run_pure, Result.andThen_ok, invoke]
    exact hcall _ _
  unfold Oper.wp
  rw [hrun, Oper.upon_enter]
  obtain ⟨hsim, hfr, hps, hown⟩ := call_sim hr l k al hc ps hl hh hi
  have hargsVR : ∀ (i : Nat) (x : AV) (u : Value), args[i]? = some x → (us ++ xs.map a.eval ++ vs)[i]? = some u → VR S w ρ x u := by
    intro i x u hx hu
    rw [hargs] at hx
    rw [Array.append_assoc] at hu
    rcases Nat.lt_or_ge i first.length with hlt | hge
    · rw [List.getElem?_append_left hlt] at hx
      rw [Array.getElem?_append_left (by omega)] at hu
      exact h3 i x u hx hu
    · rw [List.getElem?_append_right hge] at hx
      rw [Array.getElem?_append_right (by omega), ← h1] at hu
      generalize i - first.length = j at hx hu
      rcases Nat.lt_or_ge j xs.size with hlt | hge
      · rw [List.getElem?_append_left (by simpa using hlt)] at hx
        rw [Array.getElem?_append_left (by simpa using hlt)] at hu
        rw [List.getElem?_map, Array.getElem?_toList] at hx
        rw [Array.getElem?_map] at hu
        obtain ⟨y, hy, rfl⟩ := Option.map_eq_some_iff.1 hx
        rw [hy] at hu
        obtain rfl := Option.some.inj hu
        exact hr.oev y
      · rw [List.getElem?_append_right (by simpa using hge)] at hx
        rw [Array.getElem?_append_right (by simpa using hge)] at hu
        simp only [List.length_map, Array.length_toList] at hx
        simp only [Array.size_map] at hu
        exact h4 _ x u hx hu
  have hlen : args.length = (us ++ xs.map a.eval ++ vs).size := by
    rw [hargs]
    simp [h1, h2, Nat.add_assoc]
  have hvrs : VRs (fun b => S b ∨ (al = false ∧ Own ρ (rest h ps) b)) w (fun b => ρ (swp l k nx b)) largs (us ++ xs.map a.eval ++ vs) := by
    refine ⟨hlend.len.symm.trans hlen, fun i y u hy hu => ?_⟩
    have hi' : i < largs.length := (List.getElem?_eq_some_iff.1 hy).1
    obtain ⟨x, hx⟩ : ∃ x, args[i]? = some x := ⟨_, List.getElem?_eq_getElem (by rw [hlend.len]; exact hi')⟩
    exact (hlend.get i x y hx hy).vr hr (hargsVR i x u hx hu)
  refine (hac _ _ w _ hsim hfr hvrs).mono ?_
  rintro e w' ⟨v, r, h', nx', ρ', S', rfl, hQ, hv, hs, hf', hdm, hp⟩
  obtain ⟨ρ2, S2, hr2, hv2, _⟩ := call_rep hr l k al hc ps hl hl2 hl3 hps hown (fun b hb => hb.imp id (fun ⟨x, i, X, q, e1, e2, e3⟩ => ⟨x, by
    rw [hget_rest] at e1
    split at e1
    · cases e1
    · obtain ⟨_, f4, _⟩ := blk_of hr e1 e2
      rw [← e3]
      exact f4⟩)) hv hs hf' hdm hp
  exact hk r h' nx' hQ ρ2 S2 _ w' (hr2.putA o.dst hd hv2)

theorem callFunc_enter {P : Program} {f : FuncId} {fn : Func} (hf : P.funcs[f]? = some fn) (hn : (fn.name == "runtime.NumGoroutine") = false) (hb : fn.body.isNone = false) (vs : Array Value) (w : World) :
    (callFunc f vs).run P w = .ok (.enter f vs) w := by
  unfold callFunc
  simp only [Sem.run_bind, run_program, Result.andThen_ok, hf, hn, hb]
  rfl

end Go.Proofs.Ytloddmbbfkejcaa.Abs
