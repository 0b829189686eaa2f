/-
  Functions: what a call does, out of its body; a call inside a body. They hold of any program.
-/
import Derived.Test.YtloddmbbfkejcaaAbsC
namespace Go.Proofs.Ytloddmbbfkejcaa.Abs

def Own (ρ : Rho) (h : Heap) (b : Nat) : Prop := ∃ i B r, hget h i = some B ∧ ρ i = some r ∧ r.blk = b

structure CPost (al : Bool) (ρ : Rho) (h : Heap) (nx : Nat) (S : Nat → Prop) (w : World) (ρ' : Rho) (h' : Heap) (S' : Nat → Prop) (w' : World) : Prop where
  os : w'.os = w.os
  tape : w'.tape = w.tape
  output : w'.output = w.output
  size : w.heap.size ≤ w'.heap.size
  keep : ∀ b, b < w.heap.size → ¬ Own ρ h b → w'.heap[b]? = w.heap[b]?
  own : ∀ b, Own ρ' h' b → Own ρ h b ∨ w.heap.size ≤ b
  s : ∀ b, S' b → (al = true ∧ S b) ∨ w.heap.size ≤ b
  ids : ∀ b, b < nx → ρ' b = ρ b

def VRs (S : Nat → Prop) (w : World) (ρ : Rho) (xs : List AV) (vs : Array Value) : Prop :=
  xs.length = vs.size ∧ ∀ (i : Nat) (x : AV) (u : Value), xs[i]? = some x → vs[i]? = some u → VR S w ρ x u

/-- A call of function f at these arguments, in this heap, comes to an answer of which Q tells. al: what it answers may share memory with what it was given. -/
def AC (P : Program) (f : FuncId) (args : List AV) (h : Heap) (nx : Nat) (al : Bool) (Q : AV → Heap → Nat → Prop) : Prop :=
  ∀ (ρ : Rho) (S : Nat → Prop) (w : World) (vals : Array Value), Sim ρ h S w → (∀ b, nx ≤ b → ρ b = none) → VRs S w ρ args vals →
    Calls P f vals w fun e w' => ∃ v r h' nx' ρ' S', e = .returned v ∧ Q r h' nx' ∧ VR S' w' ρ' r v ∧ Sim ρ' h' S' w' ∧ (∀ b, nx' ≤ b → ρ' b = none) ∧ (∀ b B, hget h' b = some B → b < nx') ∧ CPost al ρ h nx S w ρ' h' S' w'

theorem AC.mono {P : Program} {f : FuncId} {args : List AV} {h : Heap} {nx : Nat} {al : Bool} {Q Q' : AV → Heap → Nat → Prop} (hq : ∀ r h' nx', Q r h' nx' → Q' r h' nx') (k : AC P f args h nx al Q) : AC P f args h nx al Q' :=
  fun ρ S w vals h1 h2 h3 => (k ρ S w vals h1 h2 h3).mono fun _ _ ⟨v, r, h', nx', ρ', S', a, b, rest⟩ => ⟨v, r, h', nx', ρ', S', a, hq _ _ _ b, rest⟩

mutual
/-- What holds no row that is read alone. -/
def AV.nosl : AV → Bool
  | .sl _ xs => xs.isEmpty
  | .fn _ xs ys => nosls xs && nosls ys
  | .ifc _ x => x.nosl
  | .agg xs => nosls xs
  | .tup xs => nosls xs
  | .top => true
  | .bool _ => true
  | .int _ _ => true
  | .str _ => true
  | .nilp => true
  | .lp _ => false
  | .ptr _ _ _ => true
  | .nils => true
  | .own _ _ _ => true
  | .nilm => true
  | .omap _ => true
  | .nilf => true
  | .nili => true
def nosls : List AV → Bool
  | [] => true
  | x :: xs => x.nosl && nosls xs
end

theorem nosls_all : ∀ (xs : List AV), nosls xs = xs.all AV.nosl
  | [] => rfl
  | x :: xs => by rw [nosls, nosls_all xs]; rfl

def Blk.nosl : Blk → Bool
  | .cells _ xs => xs.all AV.nosl
  | .map es => es.all fun p => p.1.nosl && p.2.nosl

theorem all_get {xs : List AV} {p : AV → Bool} (h : xs.all p = true) {i : Nat} {x : AV} (hx : xs[i]? = some x) : p x = true :=
  List.all_eq_true.1 h x (List.mem_of_getElem? hx)

theorem VR.nosl {S S' : Nat → Prop} {w : World} {ρ : Rho} {x : AV} {v : Value} (h : VR S w ρ x v) : x.nosl = true → VR S' w ρ x v := by
  induction h with
  | top => intro _; exact .top
  | bool => intro _; exact .bool
  | int => intro _; exact .int
  | str => intro _; exact .str
  | nilp => intro _; exact .nilp
  | ptr h => intro _; exact .ptr h
  | lp vs h hl hcell hv ih => intro e; simp [AV.nosl] at e
  | nils => intro _; exact .nils
  | sl0 => intro _; exact .sl0
  | sl vs h hl hsz hc hcell hv ih =>
    intro e
    simp only [AV.nosl, List.isEmpty_iff] at e
    subst e
    exact .sl0
  | own h h1 h2 => intro _; exact .own h h1 h2
  | own0 => intro _; exact .own0
  | nilm => intro _; exact .nilm
  | omap h => intro _; exact .omap h
  | fn us vs h1 h2 h3 h4 ih1 ih2 =>
    intro e
    simp only [AV.nosl, nosls_all, Bool.and_eq_true] at e
    exact .fn us vs h1 h2 (fun i x u hx hu => ih1 i x u hx hu (all_get e.1 hx)) (fun i x u hx hu => ih2 i x u hx hu (all_get e.2 hx))
  | nilf => intro _; exact .nilf
  | ifc h ih => intro e; simp only [AV.nosl] at e; exact .ifc (ih e)
  | nili => intro _; exact .nili
  | agg vs h1 h2 ih =>
    intro e
    simp only [AV.nosl, nosls_all] at e
    exact .agg vs h1 (fun i x u hx hu => ih i x u hx hu (all_get e hx))
  | tup vs h1 h2 ih =>
    intro e
    simp only [AV.nosl, nosls_all] at e
    exact .tup vs h1 (fun i x u hx hu => ih i x u hx hu (all_get e hx))

theorem nosl_flat {xs : List AV} (h : xs.all AV.nosl = true) : ∀ x ∈ flat xs, x.nosl = true := by
  intro x hx
  obtain ⟨y, hy, hxy⟩ := List.mem_flatMap.1 hx
  have hyn := List.all_eq_true.1 h y hy
  cases y <;> simp only [AV.cells, List.mem_singleton] at hxy <;> first | (subst hxy; exact hyn) | skip
  simp only [AV.nosl, nosls_all] at hyn
  exact List.all_eq_true.1 hyn x hxy

theorem BR.nosl {S S' : Nat → Prop} {w : World} {ρ : Rho} {r : R} {B : Blk} (h : BR S w ρ r B) (hn : B.nosl = true) : BR S' w ρ r B := by
  cases B with
  | cells sz xs =>
    obtain ⟨h1, h2, h3, h4, cur, e, h5, h6, h7, h8⟩ := h
    exact ⟨h1, h2, h3, h4, cur, e, h5, h6, h7, fun i x u hx hu => (h8 i x u hx hu).nosl (nosl_flat hn x (List.mem_of_getElem? hx))⟩
  | map es =>
    obtain ⟨ents, clock, h1, h2, h3⟩ := h
    refine ⟨ents, clock, h1, h2, fun i p e hp he => ?_⟩
    have := List.all_eq_true.1 hn p (List.mem_of_getElem? hp)
    simp only [Bool.and_eq_true] at this
    exact ⟨(h3 i p e hp he).1.nosl this.1, (h3 i p e hp he).2.nosl this.2⟩

/-- What is handed back. -/
def ResOK (P : Program) (fn : Func) (st : St) (r : AV) : Prop :=
  ∀ (c : Ctx) (n : Nat) (ρ : Rho) (S : Nat → Prop) (a : Act) (w : World), Rep c n st ρ S a w → ∃ v, (results fn a.tmps).run P w = .ok v w ∧ VR S w ρ r v

def RetA (P : Program) (c : Ctx) (n : Nat) (fn : Func) (al : Bool) (Q : AV → Heap → Nat → Prop) : Exit → St → Prop
  | .normal, st => ∃ st' r, Le c n st st' ∧ ResOK P fn st' r ∧ (al = true ∨ (r.nosl = true ∧ st'.h.all (fun p => p.2.nosl) = true)) ∧ Q r st'.h st'.nx
  | .ret, st => ∃ st' r, Le c n st st' ∧ ResOK P fn st' r ∧ (al = true ∨ (r.nosl = true ∧ st'.h.all (fun p => p.2.nosl) = true)) ∧ Q r st'.h st'.nx
  | _, _ => False

def argTm (args : List AV) (i : Nat := 0) : List (Nat × AV) :=
  match args with
  | [] => []
  | x :: xs => (i, x) :: argTm xs (i + 1)

theorem tget_argTm (args : List AV) : ∀ (i j : Nat), tget (argTm args i) j = if i ≤ j then (args[j - i]?).getD .top else .top := by
  induction args with
  | nil => intro i j; simp [argTm, tget]
  | cons x xs ih =>
    intro i j
    simp only [argTm, tget]
    by_cases h : i = j
    · subst h; simp
    · rw [if_neg h, ih]
      by_cases h2 : i ≤ j
      · rw [if_pos (by omega), if_pos h2]
        obtain ⟨d, rfl⟩ : ∃ d, j = i + 1 + d := ⟨j - (i + 1), by omega⟩
        rw [show i + 1 + d - (i + 1) = d from by omega, show i + 1 + d - i = d + 1 from by omega, List.getElem?_cons_succ]
      · rw [if_neg (by omega), if_neg h2]

theorem hall_get {h : Heap} {p : Nat × Blk → Bool} (hp : h.all p = true) : ∀ {b : Nat} {B : Blk}, hget h b = some B → p (b, B) = true := by
  induction h with
  | nil => intro b B e; cases e
  | cons q t ih =>
    obtain ⟨i, X⟩ := q
    intro b B e
    simp only [List.all_cons, Bool.and_eq_true] at hp
    by_cases h : i = b
    · subst h; simp only [hget, if_true] at e; obtain rfl := Option.some.inj e; exact hp.1
    · simp only [hget, h, if_false] at e; exact ih hp.2 e

theorem ac_body {P : Program} {f : FuncId} {fn : Func} {body : Code} {args : List AV} {h : Heap} {nx : Nat} {al : Bool} {Q : AV → Heap → Nat → Prop} (hf : P.funcs[f]? = some fn) (hb : fn.body = some body) (hlen : args.length ≤ fn.ntmps) (hdom : h.all (fun p => p.1 < nx) = true)
    (hbody : ∀ w0 S0 r0, AW P ⟨w0, Own r0 h, S0, r0, nx⟩ fn.ntmps body (RetA P ⟨w0, Own r0 h, S0, r0, nx⟩ fn.ntmps fn al Q) ⟨argTm args, h, nx⟩) : AC P f args h nx al Q := by
  intro ρ S w vals hsim hfresh hargs
  have hrep : Rep ⟨w, Own ρ h, S, ρ, nx⟩ fn.ntmps ⟨argTm args, h, nx⟩ ρ S { tmps := vals ++ Array.replicate (fn.ntmps - vals.size) undef, defers := [] } w := by
    have hsz := hargs.1
    refine ⟨by simp; omega, rfl, fun i => ?_, hsim, ⟨rfl, rfl, rfl, Nat.le_refl _, fun _ _ _ => rfl, fun _ h => h, fun _ h => .inl h, fun b B r h1 h2 => .inl ⟨b, B, r, h1, h2, rfl⟩, fun _ _ => rfl⟩, hfresh, Nat.le_refl _, fun b B hb => by simpa using hall_get hdom hb⟩
    rw [tget_argTm, if_pos (Nat.zero_le _), Nat.sub_zero]
    by_cases hi : i < args.length
    · have h1 : args[i]? = some args[i] := List.getElem?_eq_getElem hi
      have h2 : i < vals.size := by omega
      rw [h1]
      have h3 : (vals ++ Array.replicate (fn.ntmps - vals.size) undef).getD i undef = vals[i] := by
        rw [Array.getD_eq_getD_getElem?, Array.getElem?_append_left h2]
        simp [h2]
      rw [h3]
      exact hargs.2 i _ _ h1 (by simp [h2])
    · rw [List.getElem?_eq_none (by omega)]
      exact .top
  refine calls_of_wp hf hb (Code.wp_mono (fun e a w' hq => ?_) (hbody w S ρ ρ S _ w hrep))
  obtain ⟨st, ρ₁, S₁, hret, hr⟩ := hq
  have fin : (∃ st' r, Le ⟨w, Own ρ h, S, ρ, nx⟩ fn.ntmps st st' ∧ ResOK P fn st' r ∧ (al = true ∨ (r.nosl = true ∧ st'.h.all (fun p => p.2.nosl) = true)) ∧ Q r st'.h st'.nx) →
      a.defers = [] ∧ ∃ v, (results fn a.tmps).run P w' = .ok v w' ∧ ∃ v_1 r h' nx' ρ' S', Ending.returned v = .returned v_1 ∧ Q r h' nx' ∧ VR S' w' ρ' r v_1 ∧ Sim ρ' h' S' w' ∧ (∀ b, nx' ≤ b → ρ' b = none) ∧ (∀ b B, hget h' b = some B → b < nx') ∧ CPost al ρ h nx S w ρ' h' S' w' := by
    rintro ⟨st', r, hle, hres, hal, hQ⟩
    obtain ⟨ρ₂, hr₂⟩ := hle _ _ _ _ hr
    obtain ⟨v, hv, hvr⟩ := hres _ _ _ _ _ _ hr₂
    refine ⟨hr₂.defers, v, hv, ?_⟩
    have hp := hr₂.post
    have hown : ∀ b, Own ρ₂ st'.h b → Own ρ h b ∨ w.heap.size ≤ b := by
      rintro b ⟨i, B, r, h1, h2, rfl⟩
      exact hp.own i B r h1 h2
    rcases hal with hal | ⟨hn1, hn2⟩
    · exact ⟨v, r, st'.h, st'.nx, ρ₂, S₁, rfl, hQ, hvr, hr₂.sim, hr₂.fresh, hr₂.dom, hp.os, hp.tape, hp.output, hp.size, hp.keep, hown, fun b hb => (hp.sNew b hb).imp (fun h => ⟨hal, h⟩) id, hp.ids⟩
    · refine ⟨v, r, st'.h, st'.nx, ρ₂, fun b => S₁ b ∧ w.heap.size ≤ b, rfl, hQ, hvr.nosl hn1, ⟨fun b B hb => ?_, hr₂.sim.inj, fun b hb => hr₂.sim.lt b hb.1⟩, hr₂.fresh, hr₂.dom, hp.os, hp.tape, hp.output, hp.size, hp.keep, hown, fun b hb => .inr hb.2, hp.ids⟩
      rcases hr₂.sim.blk b B hb with ⟨q, h1, h2, h3, h4⟩ | hv
      · exact .inl ⟨q, h1, h2.nosl (hall_get hn2 hb), fun hs => h3 hs.1, h4⟩
      · exact .inr hv
  cases e with
  | normal => exact fin hret
  | ret => exact fin hret
  | exit id => exact hret.elim
  | goto l => exact hret.elim
  | panic ch => exact hret.elim
  | outgrown => exact hret.elim

mutual
/-- What has no name of a block in it. -/
def AV.plain : AV → Bool
  | .sl _ _ => true
  | .fn _ xs ys => plains xs && plains ys
  | .ifc _ x => x.plain
  | .agg xs => plains xs
  | .tup xs => plains xs
  | .top => true
  | .bool _ => true
  | .int _ _ => true
  | .str _ => true
  | .nilp => true
  | .lp _ => true
  | .ptr _ _ _ => false
  | .nils => true
  | .own _ _ _ => false
  | .nilm => true
  | .omap _ => false
  | .nilf => true
  | .nili => true
def plains : List AV → Bool
  | [] => true
  | x :: xs => x.plain && plains xs
end

theorem plains_all : ∀ (xs : List AV), plains xs = xs.all AV.plain
  | [] => rfl
  | x :: xs => by rw [plains, plains_all xs]; rfl

theorem VR.plain {S : Nat → Prop} {w : World} {ρ ρ' : Rho} {x : AV} {v : Value} (h : VR S w ρ x v) : x.plain = true → VR S w ρ' x v := by
  induction h with
  | top => intro _; exact .top
  | bool => intro _; exact .bool
  | int => intro _; exact .int
  | str => intro _; exact .str
  | nilp => intro _; exact .nilp
  | ptr h => intro e; simp [AV.plain] at e
  | lp vs h hl hcell hv ih => intro _; exact .lp vs h hl hcell hv
  | nils => intro _; exact .nils
  | sl0 => intro _; exact .sl0
  | sl vs h hl hsz hc hcell hv ih => intro _; exact .sl vs h hl hsz hc hcell hv
  | own h h1 h2 => intro e; simp [AV.plain] at e
  | own0 => intro e; simp [AV.plain] at e
  | nilm => intro _; exact .nilm
  | omap h => intro e; simp [AV.plain] at e
  | fn us vs h1 h2 h3 h4 ih1 ih2 =>
    intro e
    simp only [AV.plain, plains_all, Bool.and_eq_true] at e
    exact .fn us vs h1 h2 (fun i x u hx hu => ih1 i x u hx hu (all_get e.1 hx)) (fun i x u hx hu => ih2 i x u hx hu (all_get e.2 hx))
  | nilf => intro _; exact .nilf
  | ifc h ih => intro e; simp only [AV.plain] at e; exact .ifc (ih e)
  | nili => intro _; exact .nili
  | agg vs h1 h2 ih =>
    intro e
    simp only [AV.plain, plains_all] at e
    exact .agg vs h1 (fun i x u hx hu => ih i x u hx hu (all_get e hx))
  | tup vs h1 h2 ih =>
    intro e
    simp only [AV.plain, plains_all] at e
    exact .tup vs h1 (fun i x u hx hu => ih i x u hx hu (all_get e hx))

theorem plain_flat {xs : List AV} (h : xs.all AV.plain = true) : (flat xs).all AV.plain = true := by
  rw [List.all_eq_true]
  intro x hx
  obtain ⟨y, hy, hxy⟩ := List.mem_flatMap.1 hx
  have hyn := List.all_eq_true.1 h y hy
  cases y <;> simp only [AV.cells, List.mem_singleton] at hxy <;> first | (subst hxy; exact hyn) | skip
  simp only [AV.plain, plains_all] at hyn
  exact List.all_eq_true.1 hyn x hxy

/-- How an argument is handed over: as it is (under the callee's names), or lent: a row of one's own that the callee only reads. -/
inductive Lend (al : Bool) (h : Heap) (τ : Nat → Nat) (ps : List Nat) : AV → AV → Prop
  | same {a l} (hp : a = l.ren τ) : Lend al h τ ps a l
  | own {b st len sz xs} (hal : al = false) (hn : ps.contains b = false) (hb : hget h b = some (.cells sz xs)) (hlen : st + len ≤ xs.length) (hpl : xs.all AV.plain = true) : Lend al h τ ps (.own b st len) (.sl sz ((xs.drop st).take len))
  | agg {as ls} (hl : as.length = ls.length) (hh : ∀ (i : Nat) (a l : AV), as[i]? = some a → ls[i]? = some l → Lend al h τ ps a l) : Lend al h τ ps (.agg as) (.agg ls)

inductive Lends (al : Bool) (h : Heap) (τ : Nat → Nat) (ps : List Nat) : List AV → List AV → Prop
  | nil : Lends al h τ ps [] []
  | cons {a l as ls} (h1 : Lend al h τ ps a l) (h2 : Lends al h τ ps as ls) : Lends al h τ ps (a :: as) (l :: ls)

theorem Lends.len {al : Bool} {h : Heap} {τ : Nat → Nat} {ps : List Nat} {as ls : List AV} (hl : Lends al h τ ps as ls) : as.length = ls.length := by
  induction hl with
  | nil => rfl
  | cons _ _ ih => simp [ih]

theorem Lends.get {al : Bool} {h : Heap} {τ : Nat → Nat} {ps : List Nat} {as ls : List AV} (hl : Lends al h τ ps as ls) : ∀ (i : Nat) (a l : AV), as[i]? = some a → ls[i]? = some l → Lend al h τ ps a l := by
  induction hl with
  | nil => intro i a l ha; simp at ha
  | cons h1 h2 ih =>
    intro i a l ha hl
    cases i with
    | zero => simp only [List.getElem?_cons_zero] at ha hl; obtain rfl := Option.some.inj ha; obtain rfl := Option.some.inj hl; exact h1
    | succ i => simp only [List.getElem?_cons_succ] at ha hl; exact ih i a l ha hl

theorem Lend.of_list {al : Bool} {h : Heap} {τ : Nat → Nat} {ps : List Nat} {as ls : List AV} (hl : Lends al h τ ps as ls) : Lend al h τ ps (.agg as) (.agg ls) := .agg hl.len hl.get

theorem flat_len {sz : Nat} : ∀ {xs : List AV}, (∀ x ∈ xs, x.cells.length = sz) → (flat xs).length = xs.length * sz
  | [], _ => by simp [flat]
  | x :: xs, h => by
    have h1 := h x List.mem_cons_self
    have h2 := flat_len (xs := xs) (fun y hy => h y (List.mem_cons_of_mem _ hy))
    unfold flat at h2 ⊢
    rw [List.flatMap_cons, List.length_append, h1, h2, List.length_cons, Nat.add_mul, Nat.one_mul, Nat.add_comm]

theorem flat_append (xs ys : List AV) : flat (xs ++ ys) = flat xs ++ flat ys := by simp [flat]

theorem flat_get {sz : Nat} {xs : List AV} (h : ∀ x ∈ xs, x.cells.length = sz) (st len i : Nat) (hl : st + len ≤ xs.length) (hi : i < len * sz) : (flat ((xs.drop st).take len))[i]? = (flat xs)[st * sz + i]? := by
  have e : xs = xs.take st ++ ((xs.drop st).take len ++ (xs.drop st).drop len) := by rw [List.take_append_drop, List.take_append_drop]
  have l1 : (flat (xs.take st)).length = st * sz := by
    rw [flat_len (fun x hx => h x (List.mem_of_mem_take hx)), List.length_take, Nat.min_eq_left (by omega)]
  have l2 : (flat ((xs.drop st).take len)).length = len * sz := by
    rw [flat_len (fun x hx => h x (List.mem_of_mem_drop (List.mem_of_mem_take hx))), List.length_take, List.length_drop, Nat.min_eq_left (by omega)]
  conv => rhs; rw [e]
  rw [flat_append, flat_append, List.getElem?_append_right (by omega), l1, Nat.add_sub_cancel_left, List.getElem?_append_left (by omega)]

theorem cell_of {w : World} {g o : Nat} {cur : Array Value} {e : TypeId} {fr : Nat × Nat} (h : w.heap[g]? = some (.cells cur e fr)) : w.cell? ⟨g, o, none⟩ = cur[o]? := by
  simp [World.cell?, h]

/-- A row of one's own, read as one that is read alone. -/
theorem VR.lent {S S' : Nat → Prop} {w : World} {ρ : Rho} {b st len : Nat} {sz : Nat} {xs : List AV} {v : Value} {r : R} (h : VR S w ρ (.own b st len) v) (hr : ρ b = some r) (hB : BR S w ρ r (.cells sz xs)) (hlen : st + len ≤ xs.length)
    (hpl : xs.all AV.plain = true) (hS : ∀ b, S b → S' b) (hb : S' r.blk) (ρ' : Rho) : VR S' w ρ' (.sl sz ((xs.drop st).take len)) v := by
  have hle : ((xs.drop st).take len).length = len := by rw [List.length_take, List.length_drop, Nat.min_eq_left (by omega)]
  obtain ⟨h1, h2, h3, h4, cur, e, h5, h6, h7, h8⟩ := hB
  cases h with
  | own0 =>
    have : (xs.drop st).take 0 = [] := by simp
    rw [this]
    exact .sl0
  | own hq hc1 hc2 =>
    obtain rfl := Option.some.inj (hq.symm.trans hr)
    have hm : (xs.length) * sz ≤ cur.size := by rw [h6]; exact Nat.mul_le_mul_right _ h3
    have hm2 : (st + len) * sz ≤ xs.length * sz := Nat.mul_le_mul_right _ hlen
    have hm3 : (st + len) * sz = st * sz + len * sz := Nat.add_mul _ _ _
    have hfl : (flat ((xs.drop st).take len)).length = len * sz := by
      rw [flat_len (fun x hx => h2 x (List.mem_of_mem_drop (List.mem_of_mem_take hx))), hle]
    have key := @VR.sl S' w ρ' sz ((xs.drop st).take len) _ (st * sz) _ ((cur.toList.drop (st * sz)).take (len * sz)) hb (by rw [hfl, List.length_take, List.length_drop, Array.length_toList, Nat.min_eq_left (by omega)])
      (fun x hx => h2 x (List.mem_of_mem_drop (List.mem_of_mem_take hx))) (by rw [hle]; exact hc1) (fun i u hu => ?_) (fun i x u hx hu => ?_)
    · rw [hle] at key
      rw [h1]
      exact key
    · have hi : i < len * sz := by
        rcases Nat.lt_or_ge i (len * sz) with hh | hh
        · exact hh
        · rw [List.getElem?_take, if_neg (by omega)] at hu; cases hu
      rw [List.getElem?_take_of_lt hi, List.getElem?_drop, Array.getElem?_toList] at hu
      exact ⟨by rw [cell_of h5]; exact hu, h7 _ u hu⟩
    · have hi : i < len * sz := by
        rcases Nat.lt_or_ge i (len * sz) with hh | hh
        · exact hh
        · rw [List.getElem?_eq_none (by omega)] at hx; cases hx
      rw [List.getElem?_take_of_lt hi, List.getElem?_drop, Array.getElem?_toList] at hu
      rw [flat_get h2 st len i hlen hi] at hx
      have hp := all_get (plain_flat hpl) hx
      exact ((h8 _ x u hx hu).mono (fun b hb => ⟨hS b hb, rfl⟩) (fun _ _ h => h)).plain hp

theorem hget_map_ren (h : Heap) (τ : Nat → Nat) : ∀ (b : Nat) (B : Blk), hget (h.map fun p => (τ p.1, p.2.ren τ)) b = some B → ∃ j X, τ j = b ∧ hget h j = some X ∧ B = X.ren τ := by
  induction h with
  | nil => intro b B e; cases e
  | cons q t ih =>
    obtain ⟨i, X⟩ := q
    intro b B e
    simp only [List.map_cons, hget] at e
    by_cases hi : τ i = b
    · rw [if_pos hi] at e
      exact ⟨i, X, hi, by simp [hget], (Option.some.inj e).symm⟩
    · rw [if_neg hi] at e
      obtain ⟨j, Y, h1, h2, h3⟩ := ih b B e
      refine ⟨j, Y, h1, ?_, h3⟩
      simp only [hget]
      rw [if_neg (fun e' => hi (by rw [e']; exact h1))]
      exact h2

theorem hget_append (h1 h2 : Heap) (b : Nat) : hget (h1 ++ h2) b = (hget h1 b).or (hget h2 b) := by
  induction h1 with
  | nil => simp [hget]
  | cons q t ih =>
    obtain ⟨i, X⟩ := q
    simp only [List.cons_append, hget]
    by_cases hi : i = b
    · simp [hi]
    · simp [hi, ih]

/-- The blocks that are not handed over. -/
def rest (h : Heap) (ps : List Nat) : Heap :=
  match ps with
  | [] => h
  | p :: ps => rest (hdel h p) ps

theorem hget_rest (ps : List Nat) : ∀ (h : Heap) (b : Nat), hget (rest h ps) b = if ps.contains b then none else hget h b := by
  induction ps with
  | nil => intro h b; simp [rest]
  | cons p ps ih =>
    intro h b
    simp only [rest, ih, hget_del, List.contains_cons]
    by_cases e : p = b
    · subst e; simp
    · have : (b == p) = false := by simp [Ne.symm e]
      simp [e, this]

end Go.Proofs.Ytloddmbbfkejcaa.Abs
