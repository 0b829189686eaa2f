/-
  Rows of one's own that are written no more; calls as operations. It holds of any program.
-/
import Derived.Test.YtloddmbbfkejcaaAbsO
namespace Go.Proofs.Ytloddmbbfkejcaa.Abs

theorem OpQ.ok {P : Program} {op : Op} {tm : List (Nat × AV)} {h : Heap} {nx : Nat} {v : AV} (k : OpQ P op tm h v) : OpOK P op ⟨tm, h, nx⟩ v h nx := k nx

/-! ### A row of one's own is from here on read alone -/

mutual
def AV.frz (b sz : Nat) (xs : List AV) : AV → AV
  | .own b' st len => if b' = b then (if st + len ≤ xs.length then .sl sz ((xs.drop st).take len) else .top) else .own b' st len
  | .ptr b' i o => if b' = b then .top else .ptr b' i o
  | .omap b' => if b' = b then .top else .omap b'
  | .fn f ys zs => .fn f (frzs b sz xs ys) (frzs b sz xs zs)
  | .ifc t x => .ifc t (x.frz b sz xs)
  | .agg ys => .agg (frzs b sz xs ys)
  | .tup ys => .tup (frzs b sz xs ys)
  | .top => .top
  | .bool q => .bool q
  | .int k q => .int k q
  | .str s => .str s
  | .nilp => .nilp
  | .lp cs => .lp cs
  | .nils => .nils
  | .sl sz' ys => .sl sz' ys
  | .nilm => .nilm
  | .nilf => .nilf
  | .nili => .nili
def frzs (b sz : Nat) (xs : List AV) : List AV → List AV
  | [] => []
  | y :: ys => y.frz b sz xs :: frzs b sz xs ys
end

theorem frzs_map (b sz : Nat) (xs : List AV) : ∀ ys, frzs b sz xs ys = ys.map (AV.frz b sz xs)
  | [] => rfl
  | y :: ys => by rw [frzs, frzs_map b sz xs ys]; rfl

theorem get_frzs {b sz : Nat} {xs ys : List AV} {i : Nat} {y : AV} (h : (frzs b sz xs ys)[i]? = some y) : ∃ z, ys[i]? = some z ∧ y = z.frz b sz xs := by
  rw [frzs_map, List.getElem?_map] at h
  obtain ⟨z, h1, h2⟩ := Option.map_eq_some_iff.1 h
  exact ⟨z, h1, h2.symm⟩

theorem frz_cells (b sz : Nat) (xs : List AV) (x : AV) : (x.frz b sz xs).cells = x.cells.map (AV.frz b sz xs) := by
  cases x
  case own b' st len =>
    show (if b' = b then (if st + len ≤ xs.length then AV.sl sz ((xs.drop st).take len) else .top) else .own b' st len).cells = [if b' = b then (if st + len ≤ xs.length then AV.sl sz ((xs.drop st).take len) else .top) else .own b' st len]
    by_cases h1 : b' = b
    · by_cases h2 : st + len ≤ xs.length
      · simp [h1, h2, AV.cells]
      · simp [h1, h2, AV.cells]
    · simp [h1, AV.cells]
  case ptr b' i o =>
    show (if b' = b then AV.top else .ptr b' i o).cells = [if b' = b then AV.top else .ptr b' i o]
    by_cases h1 : b' = b <;> simp [h1, AV.cells]
  case omap b' =>
    show (if b' = b then AV.top else .omap b').cells = [if b' = b then AV.top else .omap b']
    by_cases h1 : b' = b <;> simp [h1, AV.cells]
  case agg ys => exact frzs_map b sz xs ys
  all_goals rfl

theorem flat_frz (b sz : Nat) (xs ys : List AV) : flat (ys.map (AV.frz b sz xs)) = (flat ys).map (AV.frz b sz xs) := by
  unfold flat
  induction ys with
  | nil => rfl
  | cons y ys ih => simp only [List.map_cons, List.flatMap_cons, List.map_append, ih, frz_cells]

def Blk.frz (b sz : Nat) (xs : List AV) : Blk → Blk
  | .cells sz' ys => .cells sz' (ys.map (AV.frz b sz xs))
  | .map es => .map (es.map fun p => (p.1.frz b sz xs, p.2.frz b sz xs))

theorem VR.frz {S S' : Nat → Prop} {w : World} {ρ : Rho} {b sz : Nat} {xs : List AV} (hS : ∀ b, S b → S' b) (hpl : xs.all AV.plain = true) {x : AV} {v : Value} (h : VR S w ρ x v) :
    ((∃ r, ρ b = some r ∧ BR S w ρ r (.cells sz xs) ∧ S' r.blk) ∨ (ρ b = none ∧ xs = [])) → VR S' w ρ (x.frz b sz xs) v := by
  induction h with
  | top => intro _; exact .top
  | bool => intro _; exact .bool
  | int => intro _; exact .int
  | str => intro _; exact .str
  | nilp => intro _; exact .nilp
  | @ptr ρ b' i o r h =>
    intro _
    show VR S' w ρ (if b' = b then .top else .ptr b' i o) _
    split
    · exact .top
    · exact .ptr h
  | lp vs h hl hcell hv ih => intro _; exact (VR.lp vs h hl hcell hv).mono (fun b hb => ⟨hS b hb, rfl⟩) (fun _ _ h => h)
  | nils => intro _; exact .nils
  | sl0 => intro _; exact .sl0
  | sl vs h hl hsz hc hcell hv ih => intro _; exact (VR.sl vs h hl hsz hc hcell hv).mono (fun b hb => ⟨hS b hb, rfl⟩) (fun _ _ h => h)
  | @own ρ b' st len r c h h1 h2 =>
    intro hb
    show VR S' w ρ (if b' = b then (if st + len ≤ xs.length then .sl sz ((xs.drop st).take len) else .top) else .own b' st len) _
    split
    · rename_i e
      subst e
      split
      · rename_i hlen
        rcases hb with ⟨q, e1, e2, e3⟩ | ⟨e1, e2⟩
        · obtain rfl := Option.some.inj (h.symm.trans e1)
          exact (VR.own h h1 h2).lent h e2 hlen hpl hS e3 _
        · rw [e1] at h; cases h
      · exact .top
    · exact .own h h1 h2
  | @own0 ρ b' st a =>
    intro _
    show VR S' w ρ (if b' = b then (if st + 0 ≤ xs.length then .sl sz ((xs.drop st).take 0) else .top) else .own b' st 0) _
    split
    · split
      · rw [List.take_zero]; exact .sl0
      · exact .top
    · exact .own0
  | nilm => intro _; exact .nilm
  | @omap ρ b' r h =>
    intro _
    show VR S' w ρ (if b' = b then .top else .omap b') _
    split
    · exact .top
    · exact .omap h
  | fn us vs h1 h2 h3 h4 ih1 ih2 =>
    intro hb
    exact .fn us vs (by rw [frzs_map, List.length_map]; exact h1) (by rw [frzs_map, List.length_map]; exact h2)
      (fun i x u hx hu => by obtain ⟨z, hz, rfl⟩ := get_frzs hx; exact ih1 i z u hz hu hb) (fun i x u hx hu => by obtain ⟨z, hz, rfl⟩ := get_frzs hx; exact ih2 i z u hz hu hb)
  | nilf => intro _; exact .nilf
  | ifc h ih => intro hb; exact .ifc (ih hb)
  | nili => intro _; exact .nili
  | agg vs h1 h2 ih => intro hb; exact .agg vs (by rw [frzs_map, List.length_map]; exact h1) (fun i x u hx hu => by obtain ⟨z, hz, rfl⟩ := get_frzs hx; exact ih i z u hz hu hb)
  | tup vs h1 h2 ih => intro hb; exact .tup vs (by rw [frzs_map, List.length_map]; exact h1) (fun i x u hx hu => by obtain ⟨z, hz, rfl⟩ := get_frzs hx; exact ih i z u hz hu hb)

theorem BR.frz {S S' : Nat → Prop} {w : World} {ρ : Rho} {b sz : Nat} {xs : List AV} (hS : ∀ b, S b → S' b) (hpl : xs.all AV.plain = true) (hb : (∃ r, ρ b = some r ∧ BR S w ρ r (.cells sz xs) ∧ S' r.blk) ∨ (ρ b = none ∧ xs = [])) {r : R} {B : Blk} (h : BR S w ρ r B) : BR S' w ρ r (B.frz b sz xs) := by
  cases B with
  | cells sz' ys =>
    obtain ⟨h1, h2, h3, h4, cur, e, h5, h6, h7, h8⟩ := h
    refine ⟨h1, fun x hx => ?_, by rw [List.length_map]; exact h3, h4, cur, e, h5, h6, h7, fun i x u hx hu => ?_⟩
    · obtain ⟨y, hy, rfl⟩ := List.mem_map.1 hx
      rw [frz_cells, List.length_map]; exact h2 y hy
    · rw [flat_frz, List.getElem?_map] at hx
      obtain ⟨y, hy, rfl⟩ := Option.map_eq_some_iff.1 hx
      exact (h8 i y u hy hu).frz hS hpl hb
  | map es =>
    obtain ⟨ents, clock, h1, h2, h3⟩ := h
    refine ⟨ents, clock, h1, by rw [List.length_map]; exact h2, fun i p e hp he => ?_⟩
    rw [List.getElem?_map] at hp
    obtain ⟨q, hq, rfl⟩ := Option.map_eq_some_iff.1 hp
    exact ⟨(h3 i q e hq he).1.frz hS hpl hb, (h3 i q e hq he).2.frz hS hpl hb⟩

theorem hget_map (h : Heap) (f : Blk → Blk) (k : Nat) : hget (h.map fun p => (p.1, f p.2)) k = (hget h k).map f := by
  induction h with
  | nil => rfl
  | cons p t ih =>
    obtain ⟨i, B⟩ := p
    simp only [List.map_cons, hget]
    split
    · rfl
    · exact ih

theorem tget_map (tm : List (Nat × AV)) (f : AV → AV) (hf : f .top = .top) (k : Nat) : tget (tm.map fun p => (p.1, f p.2)) k = f (tget tm k) := by
  induction tm with
  | nil => exact hf.symm
  | cons p t ih =>
    obtain ⟨i, v⟩ := p
    simp only [List.map_cons, tget]
    split
    · rfl
    · exact ih

/-- The state in which block b is read alone. -/
def frzS (b sz : Nat) (xs : List AV) (st : St) : St := ⟨st.tm.map fun p => (p.1, p.2.frz b sz xs), (hdel st.h b).map fun p => (p.1, p.2.frz b sz xs), st.nx⟩

theorem Rep.frz {c : Ctx} {n : Nat} {st : St} {ρ : Rho} {S : Nat → Prop} {a : Act} {w : World} (h : Rep c n st ρ S a w) {b sz : Nat} {xs : List AV} (hb : hget st.h b = some (.cells sz xs)) (hpl : xs.all AV.plain = true)
    (hnew : ∀ r, ρ b = some r → c.S0 r.blk ∨ c.w0.heap.size ≤ r.blk) :
    ∃ S', Rep c n (frzS b sz xs st) ρ S' a w ∧ (∀ k, S k → S' k) ∧ (∀ k, S' k → S k ∨ ∃ r, ρ b = some r ∧ r.blk = k) ∧ ∀ {x : AV} {v : Value}, VR S w ρ x v → VR S' w ρ (x.frz b sz xs) v := by
  let S' : Nat → Prop := fun k => S k ∨ ∃ r, ρ b = some r ∧ r.blk = k
  have hS : ∀ k, S k → S' k := fun k hk => .inl hk
  have hbb : (∃ r, ρ b = some r ∧ BR S w ρ r (.cells sz xs) ∧ S' r.blk) ∨ (ρ b = none ∧ xs = []) := by
    rcases h.sim.blk b _ hb with ⟨r, h1, h2, _, _⟩ | ⟨h1, sz', h2⟩
    · exact .inl ⟨r, h1, h2, .inr ⟨r, h1, rfl⟩⟩
    · simp only [Blk.cells.injEq] at h2; exact .inr ⟨h1, h2.2⟩
  have hh : ∀ k B, hget (frzS b sz xs st).h k = some B → ∃ X, k ≠ b ∧ hget st.h k = some X ∧ B = X.frz b sz xs := fun k B hk => by
    have hk : hget ((hdel st.h b).map fun p => (p.1, p.2.frz b sz xs)) k = some B := hk
    rw [hget_map _ (fun B => B.frz b sz xs), hget_del] at hk
    split at hk
    · cases hk
    · rename_i hne
      obtain ⟨X, h1, h2⟩ := Option.map_eq_some_iff.1 hk
      exact ⟨X, fun e => hne e.symm, h1, h2.symm⟩
  refine ⟨S', ⟨h.size, h.defers, fun i => ?_, ⟨fun k B hk => ?_, fun k k' B B' q q' hk hk' => ?_, fun k hk => ?_⟩, ?_, h.fresh, h.le, fun k B hk => ?_⟩, hS, fun k hk => hk, fun hv => hv.frz hS hpl hbb⟩
  · show VR S' w ρ (tget (st.tm.map fun p => (p.1, p.2.frz b sz xs)) i) _
    rw [tget_map _ (fun x => x.frz b sz xs) rfl]
    exact (h.tmps i).frz hS hpl hbb
  · obtain ⟨X, hne, h1, rfl⟩ := hh k B hk
    rcases h.sim.blk k X h1 with ⟨q, e1, e2, e3, e4⟩ | ⟨e1, sz', rfl⟩
    · refine .inl ⟨q, e1, e2.frz hS hpl hbb, ?_, e4⟩
      rintro (h' | ⟨r, h', h''⟩)
      · exact e3 h'
      · exact h.sim.inj b k _ X r q hb h1 h' e1 (fun e => hne e.symm) h''
    · exact .inr ⟨e1, sz', rfl⟩
  · obtain ⟨X, _, h1, _⟩ := hh k B hk
    obtain ⟨X', _, h1', _⟩ := hh k' B' hk'
    exact h.sim.inj k k' X X' q q' h1 h1'
  · rcases hk with hk | ⟨r, h1, rfl⟩
    · exact h.sim.lt k hk
    · exact (blk_of h hb h1).2.1
  · refine ⟨h.post.os, h.post.tape, h.post.output, h.post.size, h.post.keep, fun k hk => .inl (h.post.sIn k hk), fun k hk => ?_, fun k B q hk hq => ?_, h.post.ids⟩
    · rcases hk with hk | ⟨r, h1, rfl⟩
      · exact h.post.sNew k hk
      · exact hnew r h1
    · obtain ⟨X, _, h1, _⟩ := hh k B hk
      exact h.post.own k X q h1 hq
  · obtain ⟨X, _, h1, _⟩ := hh k B hk
    exact h.dom k X h1

section
variable {P : Program} {n : Nat} {w0 : World} {h0 : Heap} {S0 : Nat → Prop} {r0 : Rho} {nx0 : Nat}

/-- A block that is none of the caller's is new. -/
theorem Rep.new {st : St} {ρ : Rho} {S : Nat → Prop} {a : Act} {w : World} (h : Rep ⟨w0, Own r0 h0, S0, r0, nx0⟩ n st ρ S a w) {b : Nat} {B : Blk} (hb : hget st.h b = some B) (h1 : (h0.all fun p => Nat.blt p.1 nx0 && (hget st.h p.1).isSome && !Nat.beq p.1 b) = true) {r : R} (hr : ρ b = some r) : w0.heap.size ≤ r.blk := by
  rcases h.post.own b B r hb hr with ⟨i, X, q, e1, e2, e3⟩ | h'
  · exfalso
    have := hall_get h1 e1
    simp only [Bool.and_eq_true, Bool.not_eq_true'] at this
    obtain ⟨⟨k1, k2⟩, k3⟩ := this
    obtain ⟨Y, hY⟩ := Option.isSome_iff_exists.1 k2
    have hlt : i < nx0 := by simpa using k1
    have hne : i ≠ b := fun e => by rw [e] at k3; simp at k3
    have e4 : ρ i = some q := (h.post.ids i hlt).trans e2
    exact h.sim.inj i b Y B q r hY hb e4 hr hne e3
  · exact h'

theorem aw_frz {code : Code} {Q : Exit → St → Prop} {st : St} (b : Nat) {sz : Nat} {xs : List AV} (hb : hget st.h b = some (.cells sz xs)) (hpl : xs.all AV.plain = true) (h1 : (h0.all fun p => Nat.blt p.1 nx0 && (hget st.h p.1).isSome && !Nat.beq p.1 b) = true)
    (k : AW P ⟨w0, Own r0 h0, S0, r0, nx0⟩ n code Q (frzS b sz xs st)) : AW P ⟨w0, Own r0 h0, S0, r0, nx0⟩ n code Q st := fun ρ S a w hr => by
  obtain ⟨S', hr', _⟩ := hr.frz hb hpl (fun r hq => .inr (hr.new hb h1 hq))
  exact k ρ S' a w hr'

theorem al_frz {ops : Array Oper} {rst : List Oper} {Q : Exit → St → Prop} {st : St} (b : Nat) {sz : Nat} {xs : List AV} (hb : hget st.h b = some (.cells sz xs)) (hpl : xs.all AV.plain = true) (h1 : (h0.all fun p => Nat.blt p.1 nx0 && (hget st.h p.1).isSome && !Nat.beq p.1 b) = true)
    (k : AL P ⟨w0, Own r0 h0, S0, r0, nx0⟩ n ops Q rst (frzS b sz xs st)) : AL P ⟨w0, Own r0 h0, S0, r0, nx0⟩ n ops Q rst st := fun ρ S a w hr => by
  obtain ⟨S', hr', _⟩ := hr.frz hb hpl (fun r hq => .inr (hr.new hb h1 hq))
  exact k ρ S' a w hr'
end

end Go.Proofs.Ytloddmbbfkejcaa.Abs
